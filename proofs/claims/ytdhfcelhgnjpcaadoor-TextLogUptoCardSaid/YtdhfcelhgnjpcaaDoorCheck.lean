/-
  shard.Check answers what mapCheck says of the map that lies in memory; of old memory nothing turns.
-/
import Derived.Test.YtdhfcelhgnjpcaaDoorKey
namespace Go.Proofs.YtdhfcelhgnjpcaaDoor
open Go.RowKit

structure PMap where
  cuts : List Str
  owners : List Int

def cutOk (cuts : List Str) (i : Nat) : Bool := isKey (cuts.getD i noStr) && (i == 0 || slt (cuts.getD (i - 1) noStr) (cuts.getD i noStr))
def CutsTo (cuts : List Str) (k : Nat) : Prop := ∀ j, j < k → cutOk cuts j = true
def cutsOk (cuts : List Str) : Bool := (List.range cuts.length).all (cutOk cuts)
def ownOk (o : Int) : Bool := decide (0 ≤ o) && decide (o < 4)
def OwnTo (os : List Int) (k : Nat) : Prop := ∀ j, j < k → ownOk (os.getD j 0) = true
def mapCheck (m : PMap) : Int :=
  if 12 < m.cuts.length then 2 else if m.owners.length ≠ m.cuts.length + 1 then 3 else if cutsOk m.cuts = false then 3 else if m.owners.all ownOk = false then 1 else 0

theorem cutsOk_no {cuts : List Str} (k : Nat) (hk : k < cuts.length) (h : cutOk cuts k = false) : cutsOk cuts = false := by
  rw [cutsOk, List.all_eq_false]; exact ⟨k, List.mem_range.2 hk, by simp [h]⟩
theorem cutsOk_yes {cuts : List Str} (h : CutsTo cuts cuts.length) : cutsOk cuts = true := by
  rw [cutsOk, List.all_eq_true]; exact fun k hk => h k (List.mem_range.1 hk)
theorem owns_no {os : List Int} (k : Nat) (hk : k < os.length) (h : ownOk (os.getD k 0) = false) : os.all ownOk = false := by
  rw [List.all_eq_false]; exact ⟨os[k], List.getElem_mem hk, by rw [List.getD_eq_getElem?_getD, List.getElem?_eq_getElem hk] at h; simpa using h⟩
theorem owns_yes {os : List Int} (h : OwnTo os os.length) : os.all ownOk = true := by
  rw [List.all_eq_true]; intro x hx
  obtain ⟨j, hj, rfl⟩ := List.mem_iff_getElem.1 hx
  have := h j hj
  rwa [List.getD_eq_getElem?_getD, List.getElem?_eq_getElem hj] at this

theorem CutsTo.next {cuts : List Str} {k : Nat} (h : CutsTo cuts k) (hk : cutOk cuts k = true) : CutsTo cuts (k + 1) := fun j hj => by
  by_cases e : j = k
  · subst e; exact hk
  · exact h j (by omega)
theorem OwnTo.next {os : List Int} {k : Nat} (h : OwnTo os k) (hk : ownOk (os.getD k 0) = true) : OwnTo os (k + 1) := fun j hj => by
  by_cases e : j = k
  · subst e; exact hk
  · exact h j (by omega)

/-- The map m lies in w as the two slices say. -/
structure MapAt (w : World) (ao : Option Addr) (n c : Nat) (bo : Option Addr) (m d : Nat) (p : PMap) : Prop where
  cuts : Sl w 1 ao n c (p.cuts.map .string)
  owns : Sl w 1 bo m d (p.owners.map (.int .i64))

theorem MapAt.mono {w w' : World} {ao : Option Addr} {n c : Nat} {bo : Option Addr} {m d : Nat} {p : PMap} (h : MapAt w ao n c bo m d p)
    (hb : ∀ p : Addr, p.block < w.heap.size → w'.cell? p = w.cell? p) : MapAt w' ao n c bo m d p := ⟨h.cuts.mono hb, h.owns.mono hb⟩
theorem MapAt.below {w w' : World} {ao : Option Addr} {n c : Nat} {bo : Option Addr} {m d : Nat} {p : PMap} (h : MapAt w ao n c bo m d p)
    (hb : Below w.heap.size w w') : MapAt w' ao n c bo m d p := ⟨h.cuts.below hb, h.owns.below hb⟩
theorem MapAt.n {w : World} {ao : Option Addr} {n c : Nat} {bo : Option Addr} {m d : Nat} {p : PMap} (h : MapAt w ao n c bo m d p) : p.cuts.length = n := by
  have := h.cuts.len; simpa using this
theorem MapAt.m {w : World} {ao : Option Addr} {n c : Nat} {bo : Option Addr} {m d : Nat} {p : PMap} (h : MapAt w ao n c bo m d p) : p.owners.length = m := by
  have := h.owns.len; simpa using this

/-- A cell of a slice of strings, by its number. -/
theorem Sl.str {w : World} {ao : Option Addr} {n c : Nat} {l : List Str} (h : Sl w 1 ao n c (l.map .string)) (k : Nat) (hk : k < n) :
    ∃ b off, ao = some ⟨b, off, none⟩ ∧ b < w.heap.size ∧ w.cell? ⟨b, off + k, none⟩ = some (.string (l.getD k noStr)) := by
  have hl : l.length = n := by have := h.len; simpa using this
  obtain ⟨b, off, h1, h2⟩ := h.cell k _ (by rw [List.getElem?_map, List.getElem?_eq_getElem (by omega)]; rfl)
  exact ⟨b, off, h1, World.block_lt_of_cell? w _ h2, by rw [h2, List.getD_eq_getElem?_getD, List.getElem?_eq_getElem (by omega)]; rfl⟩
theorem Sl.int {w : World} {ao : Option Addr} {n c : Nat} {l : List Int} (h : Sl w 1 ao n c (l.map (.int .i64))) (k : Nat) (hk : k < n) :
    ∃ b off, ao = some ⟨b, off, none⟩ ∧ b < w.heap.size ∧ w.cell? ⟨b, off + k, none⟩ = some (.int .i64 (l.getD k 0)) := by
  have hl : l.length = n := by have := h.len; simpa using this
  obtain ⟨b, off, h1, h2⟩ := h.cell k _ (by rw [List.getElem?_map, List.getElem?_eq_getElem (by omega)]; rfl)
  exact ⟨b, off, h1, World.block_lt_of_cell? w _ h2, by rw [h2, List.getD_eq_getElem?_getD, List.getElem?_eq_getElem (by omega)]; rfl⟩

def ownB (o : Int) : Bool := ownOk o

set_option maxHeartbeats 1000000 in
theorem check_any (ao bo : Option Addr) (n c m d : Nat) (p : PMap) (w : World) (h : MapAt w ao n c bo m d p) (hn : m ≤ 1099511627776) :
    Calls Tryd.prog 66 #[.agg #[.slice ao n c, .slice bo m d]] w fun e w' => e = .returned (.int .i64 (mapCheck p)) ∧ Below w.heap.size w w' := by
  have hn' := h.n
  have hm' := h.m
  by_cases h12 : 12 < n
  · have hr : mapCheck p = 2 := by rw [mapCheck, if_pos (by omega)]
    have HR := Lib.hid hr; clear hr hn' hm'
    go_enter Tryd.func66, Tryd.ntmps66
    go_wp2
    go_ret
    exact ⟨ret_int HR.out.symm, below_alloc _ _⟩
  · by_cases hnm : (m : Int) = n + 1
    · have hne : ((m : Int) != (n : Int) + 1) = false := by simpa using hnm
      have hr2 : cutsOk p.cuts = false → mapCheck p = 3 := fun hc => by rw [mapCheck, if_neg (by omega), if_neg (by omega), if_pos hc]
      have hr1 : cutsOk p.cuts = true → p.owners.all ownOk = false → mapCheck p = 1 := fun hc ho => by rw [mapCheck, if_neg (by omega), if_neg (by omega), if_neg (by simp [hc]), if_pos ho]
      have hr0 : cutsOk p.cuts = true → p.owners.all ownOk = true → mapCheck p = 0 := fun hc ho => by rw [mapCheck, if_neg (by omega), if_neg (by omega), if_neg (by simp [hc]), if_neg (by simp [ho])]
      have H0 := Lib.hid hr0; clear hr0
      have H1 := Lib.hid hr1; clear hr1
      have H2 := Lib.hid hr2; clear hr2
      have HN := Lib.hid hn'; clear hn'
      have HM := Lib.hid hm'; clear hm'
      have HNM := Lib.hid hnm; clear hnm
      go_enter Tryd.func66, Tryd.ntmps66
      go_wp2
      go_loop [22] (fun i => ∃ k : Nat, k ≤ n ∧ i = .int .i64 k ∧ CutsTo p.cuts k) (fun i => n - (intOf i).toNat)
      case atStart => exact ⟨0, Nat.zero_le _, rfl, fun j hj => by omega⟩
      case round =>
        obtain ⟨k, hk, rfl, hall⟩ := hrel
        have HA := Lib.hid hall; clear hall
        by_cases hlt : k < n
        · obtain ⟨b, off, rfl, hb, hc⟩ := h.cuts.str k hlt
          obtain ⟨x, hx⟩ : ∃ x, p.cuts.getD k noStr = x := ⟨_, rfl⟩
          rw [hx] at hc
          have HX := Lib.hid hx; clear hx
          by_cases hkey : isKey x = true
          · by_cases hk0 : 0 < k
            · obtain ⟨b', off', hbb, _, hc'⟩ := h.cuts.str (k - 1) (by omega)
              obtain ⟨y, hy⟩ : ∃ y, p.cuts.getD (k - 1) noStr = y := ⟨_, rfl⟩
              rw [hy] at hc'
              have HY := Lib.hid hy; clear hy
              simp only [Option.some.injEq, Addr.mk.injEq, and_true] at hbb
              obtain ⟨rfl, rfl⟩ := hbb
              have hi : ((k : Int) - 1).toNat = k - 1 := by omega
              have hi0 : 0 ≤ (k : Int) - 1 := by omega
              have hi1 : (k : Int) - 1 < n := by omega
              by_cases hs : slt y x = true
              · have hs' : Op.bytesLess y.toList x.toList = true := hs
                have HS := Lib.hid hs; clear hs
                go_wp2_with (go_at_call 79; refine (key_any _ _).mono ?_; rintro e w' ⟨rfl, rfl⟩)
                go_round
                case rel => exact ⟨k + 1, by omega, by go_num, CutsTo.next HA.out (by rw [cutOk, HX.out, HY.out, hkey, HS.out]; simp)⟩
                case measure => simp [intOf]; omega
              · have hs' : Op.bytesLess y.toList x.toList = false := by simpa [slt] using hs
                have hr := H2.out (cutsOk_no k (by rw [HN.out]; exact hlt) (by rw [cutOk, HX.out, HY.out, show slt y x = false from hs']; simp; omega))
                have HR := Lib.hid hr; clear hr hs
                go_wp2_with (go_at_call 79; refine (key_any _ _).mono ?_; rintro e w' ⟨rfl, rfl⟩)
                go_ret
                exact ⟨ret_int HR.out.symm, below_alloc _ _⟩
            · have hk0' : cutOk p.cuts k = true := by rw [cutOk, HX.out, hkey]; simp; left; omega
              have HK := Lib.hid hk0'; clear hk0'
              go_wp2_with (go_at_call 79; refine (key_any _ _).mono ?_; rintro e w' ⟨rfl, rfl⟩)
              go_round
              case rel => exact ⟨k + 1, by omega, by go_num, CutsTo.next HA.out HK.out⟩
              case measure => simp [intOf]; omega
          · have hkey' : isKey x = false := by simpa using hkey
            have hr := H2.out (cutsOk_no k (by rw [HN.out]; exact hlt) (by rw [cutOk, HX.out, hkey']; simp))
            have HR := Lib.hid hr; clear hr hkey
            go_wp2_with (go_at_call 79; refine (key_any _ _).mono ?_; rintro e w' ⟨rfl, rfl⟩)
            go_ret
            exact ⟨ret_int HR.out.symm, below_alloc _ _⟩
        · have hcuts : cutsOk p.cuts = true := cutsOk_yes (by rw [HN.out]; intro j hj; exact HA.out j (by omega))
          have HC := Lib.hid hcuts; clear hcuts
          go_wp2
          go_loop [48] (fun i => ∃ k : Nat, k ≤ m ∧ i = .int .i64 k ∧ OwnTo p.owners k) (fun i => m - (intOf i).toNat)
          case atStart => exact ⟨0, Nat.zero_le _, rfl, fun j hj => by omega⟩
          case round =>
            obtain ⟨k, hk, rfl, hall⟩ := hrel
            have HA := Lib.hid hall; clear hall
            by_cases hlt : k < m
            · obtain ⟨b, off, rfl, hb, hc⟩ := h.owns.int k hlt
              obtain ⟨x, hx⟩ : ∃ x, p.owners.getD k 0 = x := ⟨_, rfl⟩
              rw [hx] at hc
              have HX := Lib.hid hx; clear hx
              by_cases h0 : 0 ≤ x
              · by_cases h4 : x < 4
                · go_wp2
                  go_round
                  case rel => exact ⟨k + 1, by omega, by go_num, OwnTo.next HA.out (by rw [HX.out, ownOk]; simp; omega)⟩
                  case measure => simp [intOf]; omega
                · have hr := H1.out HC.out (owns_no k (by rw [HM.out]; exact hlt) (by rw [HX.out, ownOk]; simp; omega))
                  have HR := Lib.hid hr; clear hr
                  go_wp2
                  go_ret
                  exact ⟨ret_int HR.out.symm, below_alloc _ _⟩
              · have hr := H1.out HC.out (owns_no k (by rw [HM.out]; exact hlt) (by rw [HX.out, ownOk]; simp; omega))
                have HR := Lib.hid hr; clear hr
                go_wp2
                go_ret
                exact ⟨ret_int HR.out.symm, below_alloc _ _⟩
            · have hr := H0.out HC.out (owns_yes (by rw [HM.out]; intro j hj; exact HA.out j (by omega)))
              have HR := Lib.hid hr; clear hr
              go_wp2
              go_ret
              exact ⟨ret_int HR.out.symm, below_alloc _ _⟩
    · have hne : ((m : Int) != (n : Int) + 1) = true := by simpa using hnm
      have hr : mapCheck p = 3 := by rw [mapCheck, if_neg (by omega), if_pos (by omega)]
      have HR := Lib.hid hr; clear hr hn' hm' hnm
      go_enter Tryd.func66, Tryd.ntmps66
      go_wp2
      go_ret
      exact ⟨ret_int HR.out.symm, below_alloc _ _⟩
end Go.Proofs.YtdhfcelhgnjpcaaDoor
