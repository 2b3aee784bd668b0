/-
  shard.Of and shard.Find: whose a key is; of old memory nothing turns.
-/
import Derived.Test.YthicdmiacmbbeaaDoorSearch
namespace Go.Proofs.YthicdmiacmbbeaaDoor
open Go.RowKit

def idx (p : PMap) (x : Str) : Nat := lb p.cuts x + (if hasAt p.cuts x then 1 else 0)
def whose (p : PMap) (x : Str) : Int := p.owners.getD (idx p x) 0

/-- A map that may be. -/
structure MapOk (p : PMap) : Prop where
  srt : Srt p.cuts
  keys : ∀ k ∈ p.cuts, isKey k = true
  len : p.owners.length = p.cuts.length + 1
  most : p.cuts.length ≤ 12
  owns : ∀ o ∈ p.owners, 0 ≤ o ∧ o < 4

theorem srt_of_chain {l : List Str} (h : ∀ i, i + 1 < l.length → slt (l.getD i noStr) (l.getD (i + 1) noStr) = true) : Srt l := by
  have key : ∀ d i, i + d + 1 < l.length → slt (l.getD i noStr) (l.getD (i + d + 1) noStr) = true := by
    intro d
    induction d with
    | zero => intro i hi; exact h i (by omega)
    | succ d ih => intro i hi; exact slt_trans (ih i (by omega)) (h (i + d + 1) (by omega))
  rw [Srt, List.pairwise_iff_getElem]
  intro i j hi hj hij
  have := key (j - i - 1) i (by omega)
  rw [show i + (j - i - 1) + 1 = j by omega] at this
  simpa [List.getD_eq_getElem?_getD, List.getElem?_eq_getElem, hi, hj] using this

theorem mapOk_iff (p : PMap) : mapCheck p = 0 ↔ MapOk p := by
  constructor
  · intro h
    unfold mapCheck at h
    split at h
    · cases h
    · rename_i h12
      split at h
      · cases h
      · rename_i hlen
        split at h
        · cases h
        · rename_i hc
          split at h
          · cases h
          · rename_i ho
            have hc' : cutsOk p.cuts = true := by simpa using hc
            rw [cutsOk, List.all_eq_true] at hc'
            have hc2 : ∀ k, k < p.cuts.length → cutOk p.cuts k = true := fun k hk => hc' k (List.mem_range.2 hk)
            refine ⟨srt_of_chain fun i hi => ?_, fun k hk => ?_, by omega, by omega, fun o hm => ?_⟩
            · have := hc2 (i + 1) hi
              simp only [cutOk, Bool.and_eq_true, Nat.add_sub_cancel, Bool.or_eq_true] at this
              rcases this.2 with h0 | h0
              · simp at h0
              · exact h0
            · obtain ⟨j, hj, rfl⟩ := List.mem_iff_getElem.1 hk
              have := hc2 j hj
              simp only [cutOk, Bool.and_eq_true, List.getD_eq_getElem?_getD, List.getElem?_eq_getElem hj] at this
              exact this.1
            · have ho' : p.owners.all ownOk = true := by simpa using ho
              rw [List.all_eq_true] at ho'
              have := ho' o hm
              simpa [ownOk] using this
  · intro h
    unfold mapCheck
    rw [if_neg (by have := h.most; omega), if_neg (by have := h.len; omega), if_neg, if_neg]
    · simp only [Bool.not_eq_false]
      rw [List.all_eq_true]
      intro o ho
      have := h.owns o ho
      simp [ownOk, this]
    · simp only [Bool.not_eq_false]
      refine cutsOk_yes fun j hj => ?_
      simp only [cutOk, Bool.and_eq_true, Bool.or_eq_true]
      refine ⟨h.keys _ ?_, ?_⟩
      · rw [List.getD_eq_getElem?_getD, List.getElem?_eq_getElem hj]; exact List.getElem_mem hj
      · by_cases e : j = 0
        · left; simp [e]
        · right; exact h.srt.lt (by omega) hj

theorem idx_lt {p : PMap} (h : MapOk p) (x : Str) : idx p x < p.owners.length := by
  unfold idx
  have h1 := lb_le p.cuts x
  have h2 := h.len
  split
  · rename_i hh
    simp only [hasAt, decide_eq_true_eq] at hh
    have := (List.getElem?_eq_some_iff.1 hh).1
    omega
  · omega

set_option maxHeartbeats 1000000 in
theorem of_any (ao bo : Option Addr) (n c m d : Nat) (p : PMap) (x : Str) (w : World) (h : MapAt w ao n c bo m d p) (hok : MapOk p) :
    Calls Tryd.prog 50 #[.agg #[.slice ao n c, .slice bo m d], .string x] w fun e w' => e = .returned (.int .i64 (whose p x)) ∧ Below w.heap.size w w' := by
  have hidx := idx_lt hok x
  have hm : p.owners.length = m := h.m
  have hn : p.cuts.length = n := h.n
  have hmost := hok.most
  obtain ⟨b, off, hbo, hb, hc⟩ := h.owns.int (idx p x) (by omega)
  have hsl : Sl (w.alloc (Obj.cells #[Value.slice ao n c, Value.slice bo m d] 28)) 1 ao n c (p.cuts.map .string) := h.cuts.below (below_alloc _ _)
  have hsrt := hok.srt
  have hle := lb_le p.cuts x
  have hn12 : n ≤ 12 := by omega
  subst hbo
  have hw : whose p x = p.owners.getD (idx p x) 0 := rfl
  cases hat : hasAt p.cuts x
  · have hi : idx p x = lb p.cuts x := by simp [idx, hat]
    rw [hi] at hc hidx hw
    have hlm : (lb p.cuts x : Nat) < m := by omega
    rw [hn] at hle
    obtain ⟨i, hib⟩ : ∃ i, lb p.cuts x = i := ⟨_, rfl⟩
    rw [hib] at hc hidx hlm hw hle
    have HA := Lib.hid hat; have HB := Lib.hid hib; have HS := Lib.hid hsrt; have HSL := Lib.hid hsl; have HW := Lib.hid hw
    clear hat hi hib hsrt hsl hidx hm hn h hok hw
    go_enter Tryd.func50, Tryd.ntmps50
    go_wp2_with fail
    refine (bs_any _ _ _ _ _ _ HSL.out HS.out (by omega)).mono ?_
    rintro e w' ⟨rfl, rfl⟩
    rw [HA.out, HB.out]
    go_wp2
    go_ret
    exact ⟨ret_int HW.out.symm, below_alloc _ _⟩
  · have hi : idx p x = lb p.cuts x + 1 := by simp [idx, hat]
    rw [hi] at hc hidx hw
    have hlm : (lb p.cuts x : Nat) + 1 < m := by omega
    rw [hn] at hle
    obtain ⟨i, hib⟩ : ∃ i, lb p.cuts x = i := ⟨_, rfl⟩
    rw [hib] at hc hidx hlm hw hle
    have HA := Lib.hid hat; have HB := Lib.hid hib; have HS := Lib.hid hsrt; have HSL := Lib.hid hsl; have HW := Lib.hid hw
    have hii : ((i : Int) + 1).toNat = i + 1 := by omega
    clear hat hi hib hsrt hsl hidx hm hn h hok hw
    go_enter Tryd.func50, Tryd.ntmps50
    go_wp2_with fail
    refine (bs_any _ _ _ _ _ _ HSL.out HS.out (by omega)).mono ?_
    rintro e w' ⟨rfl, rfl⟩
    rw [HA.out, HB.out]
    go_wp2
    go_ret
    exact ⟨ret_int HW.out.symm, below_alloc _ _⟩

def findE (p : PMap) (x : Str) : Int := if mapCheck p = 0 then (if isKey x = true then 0 else 3) else mapCheck p
def findN (p : PMap) (x : Str) : Int := if mapCheck p = 0 then (if isKey x = true then whose p x else 0) else 0

set_option maxHeartbeats 1000000 in
theorem find_any (ao bo : Option Addr) (n c m d : Nat) (p : PMap) (x : Str) (w : World) (h : MapAt w ao n c bo m d p) (hm : m ≤ 1099511627776) :
    Calls Tryd.prog 9 #[.agg #[.slice ao n c, .slice bo m d], .string x] w fun e w' => e = .returned (.tuple #[.int .i64 (findN p x), .int .i64 (findE p x)]) ∧ Below w.heap.size w w' := by
  have h1 : MapAt (w.alloc (Obj.cells #[Value.slice ao n c, Value.slice bo m d] 28)) ao n c bo m d p := h.below (below_alloc _ _)
  have H1 := Lib.hid h1; clear h1
  obtain ⟨r, hr⟩ : ∃ r, mapCheck p = r := ⟨_, rfl⟩
  have HR := Lib.hid hr; clear hr
  by_cases h0 : r = 0
  · subst h0
    have hok := (mapOk_iff p).1 HR.out
    cases hk : isKey x
    · have e1 : findN p x = 0 := by simp [findN, HR.out, hk]
      have e2 : findE p x = 3 := by simp [findE, HR.out, hk]
      have E1 := Lib.hid e1; have E2 := Lib.hid e2; have HK := Lib.hid hk; clear e1 e2 hk
      go_enter Tryd.func9, Tryd.ntmps9
      go_wp2_with fail
      refine (check_any _ _ _ _ _ _ p _ H1.out hm).mono ?_
      rintro e w1 ⟨rfl, hb⟩
      rw [HR.out]
      obtain ⟨hcell, hfroz⟩ := bcell hb
      have hz := hb.size; simp only [World.size_alloc] at hz
      go_wp2_with fail
      refine (key_any _ _).mono ?_
      rintro e w2 ⟨rfl, rfl⟩
      rw [HK.out]
      go_wp2_with fail
      go_ret2
      exact ⟨by rw [E1.out, E2.out]; rfl, below_more (below_alloc _ _) hb (Nat.le_refl _)⟩
    · have e1 : findN p x = whose p x := by simp [findN, HR.out, hk]
      have e2 : findE p x = 0 := by simp [findE, HR.out, hk]
      have E1 := Lib.hid e1; have E2 := Lib.hid e2; have HK := Lib.hid hk; clear e1 e2 hk
      go_enter Tryd.func9, Tryd.ntmps9
      go_wp2_with fail
      refine (check_any _ _ _ _ _ _ p _ H1.out hm).mono ?_
      rintro e w1 ⟨rfl, hb⟩
      rw [HR.out]
      obtain ⟨hcell, hfroz⟩ := bcell hb
      have hz := hb.size; simp only [World.size_alloc] at hz
      go_wp2_with fail
      refine (key_any _ _).mono ?_
      rintro e w2 ⟨rfl, rfl⟩
      rw [HK.out]
      go_wp2_with fail
      refine (of_any _ _ _ _ _ _ p _ _ (H1.out.below hb) hok).mono ?_
      rintro e w2 ⟨rfl, hb2⟩
      go_wp2_with fail
      go_ret2
      exact ⟨by rw [E1.out, E2.out]; rfl, below_more (below_more (below_alloc _ _) hb (Nat.le_refl _)) hb2 (Nat.le_refl _)⟩
  · have e1 : findN p x = 0 := by simp [findN, HR.out, h0]
    have e2 : findE p x = r := by simp [findE, HR.out, h0]
    have hne : (r != 0) = true := by simpa using h0
    have E1 := Lib.hid e1; have E2 := Lib.hid e2; clear e1 e2 h0
    go_enter Tryd.func9, Tryd.ntmps9
    go_wp2_with fail
    refine (check_any _ _ _ _ _ _ p _ H1.out hm).mono ?_
    rintro e w1 ⟨rfl, hb⟩
    rw [HR.out]
    go_wp2_with fail
    go_ret2
    exact ⟨by rw [E1.out, E2.out]; rfl, below_more (below_alloc _ _) hb (Nat.le_refl _)⟩
end Go.Proofs.YthicdmiacmbbeaaDoor
