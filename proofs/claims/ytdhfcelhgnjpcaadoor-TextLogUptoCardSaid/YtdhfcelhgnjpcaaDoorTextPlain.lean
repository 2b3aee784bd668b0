/-
  Plain words on texts: cut at a byte and joined again, numerals, maps as texts. No program is named here.
-/
import Derived.Test.YtdhfcelhgnjpcaaDoorMapOk
import Derived.Lib.ItoaLen
import Derived.Lib.AtoiTie
import Derived.Lib.Split
import Derived.Lib.SplitLaws
namespace Go.Proofs.YtdhfcelhgnjpcaaDoor
open Go.RowKit

abbrev Bs := List UInt8
def join1 (c : UInt8) : List Bs → Bs
  | [] => []
  | [a] => a
  | a :: b :: r => a ++ c :: join1 c (b :: r)
def spl (c : UInt8) : Bs → List Bs
  | [] => [[]]
  | b :: r => if b = c then [] :: spl c r else match spl c r with
    | [] => [[b]]
    | h :: t => (b :: h) :: t

theorem spl_eq (c : UInt8) (b : UInt8) (r : Bs) (h : ¬ b = c) : spl c (b :: r) = match spl c r with
    | [] => [[b]]
    | h :: t => (b :: h) :: t := by rw [spl, if_neg h]
theorem spl_ne (c : UInt8) : ∀ l, spl c l ≠ []
  | [] => by simp [spl]
  | b :: r => by
    unfold spl
    split
    · simp
    · split <;> simp
theorem join1_cons (c : UInt8) (a : Bs) {r : List Bs} (h : r ≠ []) : join1 c (a :: r) = a ++ c :: join1 c r := by
  cases r with
  | nil => exact absurd rfl h
  | cons b r => rfl
theorem join_spl (c : UInt8) : ∀ l, join1 c (spl c l) = l
  | [] => rfl
  | b :: r => by
    have ih := join_spl c r
    have hne := spl_ne c r
    unfold spl
    split
    · rename_i h
      rw [join1_cons c _ hne, ih, h]; rfl
    · split
      · exact absurd ‹_› hne
      · rename_i h t he
        rw [he] at ih
        cases t with
        | nil => simp only [join1] at ih ⊢; rw [ih]
        | cons x y =>
          rw [join1_cons c _ (by simp)] at ih ⊢
          rw [← ih]; rfl
theorem spl_mem (c : UInt8) : ∀ l, ∀ w ∈ spl c l, c ∉ w
  | [], w, h => by simp [spl] at h; subst h; simp
  | b :: r, w, h => by
    have ih := spl_mem c r
    unfold spl at h
    split at h
    · rcases List.mem_cons.1 h with rfl | h
      · simp
      · exact ih w h
    · rename_i hb
      split at h
      · simp at h; subst h; simp; exact fun e => hb e.symm
      · rename_i x t he
        rcases List.mem_cons.1 h with rfl | h
        · have := ih x (by rw [he]; simp)
          simp only [List.mem_cons, not_or]
          exact ⟨fun e => hb e.symm, this⟩
        · exact ih w (by rw [he]; simp [h])
theorem spl_none (c : UInt8) : ∀ l : Bs, c ∉ l → spl c l = [l]
  | [], _ => rfl
  | b :: r, h => by
    simp only [List.mem_cons, not_or] at h
    rw [spl_eq c b r (fun e => h.1 e.symm), spl_none c r h.2]
theorem spl_first (c : UInt8) : ∀ (a : Bs) (r : Bs), c ∉ a → spl c (a ++ c :: r) = a :: spl c r
  | [], r, _ => by simp [spl]
  | b :: a, r, h => by
    simp only [List.mem_cons, not_or] at h
    have ih := spl_first c a r h.2
    show spl c (b :: (a ++ c :: r)) = _
    rw [spl_eq c b _ (fun e => h.1 e.symm), ih]
theorem spl_join (c : UInt8) : ∀ ws : List Bs, ws ≠ [] → (∀ w ∈ ws, c ∉ w) → spl c (join1 c ws) = ws
  | [], h, _ => absurd rfl h
  | [a], _, h => spl_none c a (h a (by simp))
  | a :: b :: r, _, h => by
    rw [join1_cons c a (by simp), spl_first c a _ (h a (by simp)), spl_join c (b :: r) (by simp) (fun w hw => h w (by simp at hw ⊢; right; exact hw))]
theorem join1_snoc (c : UInt8) : ∀ (ws : List Bs) (a : Bs), ws ≠ [] → join1 c (ws ++ [a]) = join1 c ws ++ c :: a
  | [], _, h => absurd rfl h
  | [x], a, _ => rfl
  | x :: y :: r, a, _ => by
    show join1 c (x :: (y :: r ++ [a])) = _
    rw [join1_cons c x (by simp), join1_snoc c (y :: r) a (by simp), join1_cons c x (by simp)]
    simp

/- NUMERALS -/
theorem decFrom_append : ∀ (a b : Bs) (acc : Nat), Lib.decFrom acc (a ++ b) = (Lib.decFrom acc a).bind fun n => Lib.decFrom n b
  | [], b, acc => rfl
  | x :: a, b, acc => by
    simp only [List.cons_append, Lib.decFrom]
    cases Lib.digitVal x with
    | none => rfl
    | some d => exact decFrom_append a b _
theorem digitVal_ofNat {d : Nat} (h : d < 10) : Lib.digitVal (UInt8.ofNat (48 + d)) = some d := by
  have : (UInt8.ofNat (48 + d)).toNat = 48 + d := by simp; omega
  unfold Lib.digitVal
  rw [this, if_pos (by omega)]
  congr 1; omega
theorem dec_digits (u : Nat) : Lib.decFrom 0 (Lib.decDigits u) = some u := by
  induction u using Nat.strongRecOn with
  | ind u ih =>
    rw [Lib.decDigits]
    split
    · rename_i h
      simp only [Lib.decFrom, digitVal_ofNat h, Nat.zero_mul, Nat.zero_add]
    · rename_i h
      rw [decFrom_append, ih (u / 10) (by omega)]
      simp only [Option.bind_some, Lib.decFrom, digitVal_ofNat (show u % 10 < 10 by omega), Option.some.injEq]
      omega
theorem digits_ne (u : Nat) : Lib.decDigits u ≠ [] := by
  intro h
  have h1 := Lib.decDigits_length u
  rw [h] at h1
  have h2 := Lib.nDigits_pos u
  simp only [List.length_nil] at h1
  omega
theorem digits_digit (u : Nat) : ∀ c ∈ Lib.decDigits u, 48 ≤ c.toNat ∧ c.toNat ≤ 57 := by
  intro c hc
  obtain ⟨k, hk⟩ := List.mem_iff_getElem?.1 hc
  obtain ⟨d, hd⟩ := Lib.digit_of_decFrom _ _ _ (dec_digits u) k c hk
  have := Lib.digitVal_eq hd
  omega
theorem itoa_bytes (n : Int) : ∀ c ∈ Lib.itoa n, c.toNat = 45 ∨ (48 ≤ c.toNat ∧ c.toNat ≤ 57) := by
  intro c hc
  unfold Lib.itoa at hc
  split at hc
  · rcases List.mem_cons.1 hc with rfl | hc
    · left; rfl
    · right; exact digits_digit _ c hc
  · right; exact digits_digit _ c hc
theorem itoa_ne (n : Int) : Lib.itoa n ≠ [] := by
  unfold Lib.itoa; split
  · simp
  · exact digits_ne _
theorem atoi_itoa (n : Int) : Lib.atoi (Lib.itoa n) = some n := by
  unfold Lib.itoa
  split
  · rename_i h
    simp only [Lib.atoi, beq_self_eq_true, if_true]
    rw [Lib.decNat, if_neg (by simpa using digits_ne _), dec_digits]
    simp; omega
  · rename_i h
    obtain ⟨b, r, hb⟩ := List.exists_cons_of_ne_nil (digits_ne n.toNat)
    have hd := digits_digit n.toNat b (by rw [hb]; simp)
    rw [hb]
    have h1 : (b == 45) = false := by rw [beq_eq_false_iff_ne]; rintro rfl; simp at hd
    have h2 : (b == 43) = false := by rw [beq_eq_false_iff_ne]; rintro rfl; simp at hd
    simp only [Lib.atoi, h1, h2, Bool.false_eq_true, if_false]
    rw [← hb, Lib.decNat, if_neg (by simpa using digits_ne _), dec_digits]
    simp; omega
/-- A number of a word: as it is written, at most 11 bytes. -/
def numV (l : Bs) : Option Int := if l.length ≤ 11 then (Lib.atoi l).bind fun n => if Lib.itoa n = l then some n else none else none
theorem numV_itoa (n : Int) (h : (Lib.itoa n).length ≤ 11) : numV (Lib.itoa n) = some n := by
  simp [numV, h, atoi_itoa]
theorem numV_some {l : Bs} {n : Int} (h : numV l = some n) : Lib.itoa n = l ∧ l.length ≤ 11 ∧ Lib.atoi l = some n := by
  unfold numV at h
  split at h
  · rename_i hl
    cases ha : Lib.atoi l with
    | none => simp [ha] at h
    | some m =>
      simp only [ha, Option.bind_some] at h
      split at h
      · rename_i he
        simp only [Option.some.injEq] at h
        subst h
        exact ⟨he, hl, rfl⟩
      · cases h
  · cases h
theorem nDigits_le {u : Nat} (h : u < 10000000000) : Lib.nDigits u ≤ 10 := by
  by_cases h0 : Lib.nDigits u ≤ 10
  · exact h0
  · exfalso
    have key : ∀ k v : Nat, v < 10 ^ k → 1 ≤ k → Lib.nDigits v ≤ k := by
      intro k
      induction k with
      | zero => intro v _ h; omega
      | succ k ih =>
        intro v hv _
        by_cases hs : v < 10
        · rw [Lib.nDigits_small hs]; omega
        · rw [Lib.nDigits_big hs]
          by_cases hk : k = 0
          · subst hk; simp at hv; omega
          · have := ih (v / 10) (by rw [Nat.pow_succ] at hv; omega) (by omega)
            omega
    have := key 10 u (by simpa using h) (by omega)
    omega
theorem itoa_len {n : Int} (h0 : -1000000000 ≤ n) (h1 : n ≤ 1000000000) : (Lib.itoa n).length ≤ 11 := by
  unfold Lib.itoa
  split
  · have := nDigits_le (u := n.natAbs) (by omega)
    simp only [List.length_cons, Lib.decDigits_length]; omega
  · have := nDigits_le (u := n.toNat) (by omega)
    rw [Lib.decDigits_length]; omega

/- MAPS AS TEXTS -/
def words : List Int → List Str → List Bs
  | [], _ => []
  | o :: _, [] => [Lib.itoa o]
  | o :: os, c :: cs => Lib.itoa o :: c.data.toList :: words os cs
def mapText (p : PMap) : Bs := join1 58 (words p.owners p.cuts)
def rdMap : Bool → List Bs → Option (List Str × List Int)
  | _, [] => some ([], [])
  | true, w :: r => (numV w).bind fun n => (rdMap false r).map fun x => (x.1, n :: x.2)
  | false, w :: r => (rdMap true r).map fun x => (⟨w.toArray⟩ :: x.1, x.2)
def emptyMap : PMap := ⟨[], []⟩
/-- What ReadMap answers: the map, and the error. -/
def readMap (s : Bs) : PMap × Int := match rdMap true (spl 58 s) with
  | none => (emptyMap, 9)
  | some x => if mapCheck ⟨x.1, x.2⟩ = 0 then (⟨x.1, x.2⟩, 0) else (emptyMap, mapCheck ⟨x.1, x.2⟩)

theorem rd_words : ∀ (os : List Int) (cs : List Str), os.length = cs.length + 1 → (∀ o ∈ os, (Lib.itoa o).length ≤ 11) → rdMap true (words os cs) = some (cs, os)
  | [], cs, h, _ => by simp at h
  | [o], [], _, ho => by simp [words, rdMap, numV_itoa o (ho o (by simp))]
  | o :: a :: os, [], h, _ => by simp at h
  | o :: os, c :: cs, h, ho => by
    have ih := rd_words os cs (by simpa using h) (fun x hx => ho x (by simp [hx]))
    simp [words, rdMap, numV_itoa o (ho o (by simp)), ih]
theorem words_rd : ∀ (ws : List Bs) (cs : List Str) (os : List Int), rdMap true ws = some (cs, os) → os.length = cs.length + 1 → ws = words os cs
  | [], cs, os, h, hl => by simp [rdMap] at h; obtain ⟨rfl, rfl⟩ := h; simp at hl
  | [w], cs, os, h, hl => by
    cases hn : numV w with
    | none => simp [rdMap, hn] at h
    | some n =>
      simp [rdMap, hn] at h
      obtain ⟨rfl, rfl⟩ := h
      simp [words, (numV_some hn).1]
  | w :: v :: r, cs, os, h, hl => by
    cases hn : numV w with
    | none => simp [rdMap, hn] at h
    | some n =>
      cases hr : rdMap true r with
      | none => simp [rdMap, hn, hr] at h
      | some x =>
        simp [rdMap, hn, hr] at h
        obtain ⟨rfl, rfl⟩ := h
        have ih := words_rd r x.1 x.2 (by rw [hr]) (by simpa using hl)
        simp only [words]
        rw [(numV_some hn).1, ← ih]
theorem words_free : ∀ (os : List Int) (cs : List Str), (∀ c ∈ cs, isKey c = true) → ∀ w ∈ words os cs, (58 : UInt8) ∉ w
  | [], _, _, w, h => by simp [words] at h
  | o :: _, [], _, w, h => by
    simp [words] at h; subst h
    intro hc; have := itoa_bytes o _ hc; simp at this
  | o :: os, c :: cs, hk, w, h => by
    simp only [words, List.mem_cons] at h
    rcases h with rfl | rfl | h
    · intro hc; have := itoa_bytes o _ hc; simp at this
    · intro hc
      have := hk c (by simp)
      simp only [isKey, keyL, Bool.and_eq_true, List.all_eq_true] at this
      have := this.2 _ hc
      simp [lowerB] at this
    · exact words_free os cs (fun x hx => hk x (by simp [hx])) w h
theorem words_ne (os : List Int) (cs : List Str) (h : os ≠ []) : words os cs ≠ [] := by
  cases os with
  | nil => exact absurd rfl h
  | cons o os => cases cs <;> simp [words]
/-- A map is read as it was written. -/
theorem read_mapText {p : PMap} (h : MapOk p) : readMap (mapText p) = (p, 0) := by
  have hlen := h.len
  have hne : p.owners ≠ [] := fun e => by rw [e] at hlen; simp at hlen
  unfold readMap mapText
  rw [spl_join 58 _ (words_ne _ _ hne) (words_free _ _ h.keys), rd_words _ _ hlen (fun o ho => itoa_len (by have := h.owns o ho; omega) (by have := h.owns o ho; omega))]
  have := (mapOk_iff p).2 h
  simp [this]
/-- A text is written as it was read. -/
theorem mapText_read {s : Bs} (h : (readMap s).2 = 0) : MapOk (readMap s).1 ∧ mapText (readMap s).1 = s := by
  unfold readMap at h ⊢
  cases hr : rdMap true (spl 58 s) with
  | none => simp [hr] at h
  | some x =>
    simp only [hr] at h ⊢
    by_cases h0 : mapCheck ⟨x.1, x.2⟩ = 0
    · rw [if_pos h0]
      have hok := (mapOk_iff _).1 h0
      refine ⟨hok, ?_⟩
      unfold mapText
      rw [← words_rd _ _ _ hr hok.len, join_spl]
    · rw [if_neg h0] at h; exact absurd h h0
end Go.Proofs.YtdhfcelhgnjpcaaDoor
