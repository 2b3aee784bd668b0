/-
  Strings are ordered as Go's '<' says; a sorted list has one place for each string. No program is named here.
-/
import Derived.Test.YtdhfcelhgnjpcaaDoorBase
namespace Go.Proofs.YtdhfcelhgnjpcaaDoor
open Go.RowKit

theorem bl_irrefl : ∀ a : List UInt8, Op.bytesLess a a = false
  | [] => rfl
  | a :: x => by simp [Op.bytesLess, bl_irrefl x]
theorem bl_trans : ∀ a b c : List UInt8, Op.bytesLess a b = true → Op.bytesLess b c = true → Op.bytesLess a c = true
  | _, [], _, h, _ => by cases ‹List UInt8› <;> simp [Op.bytesLess] at h
  | _, _ :: _, [], _, h => by simp [Op.bytesLess] at h
  | [], _ :: _, _ :: _, _, _ => by simp [Op.bytesLess]
  | a :: x, b :: y, c :: z, h1, h2 => by
    simp only [Op.bytesLess, Bool.or_eq_true, decide_eq_true_eq, Bool.and_eq_true, beq_iff_eq] at h1 h2 ⊢
    rcases h1 with h1 | ⟨rfl, h1⟩ <;> rcases h2 with h2 | ⟨rfl, h2⟩
    · left; exact UInt8.lt_trans h1 h2
    · left; exact h1
    · left; exact h2
    · right; exact ⟨rfl, bl_trans x y z h1 h2⟩
theorem bl_total : ∀ a b : List UInt8, Op.bytesLess a b = false → Op.bytesLess b a = false → a = b
  | [], [], _, _ => rfl
  | [], _ :: _, h, _ => by simp [Op.bytesLess] at h
  | _ :: _, [], _, h => by simp [Op.bytesLess] at h
  | a :: x, b :: y, h1, h2 => by
    simp only [Op.bytesLess, Bool.or_eq_false_iff, decide_eq_false_iff_not, Bool.and_eq_false_iff, beq_eq_false_iff_ne] at h1 h2
    have hab : a = b := by
      have e1 := h1.1; have e2 := h2.1
      rw [UInt8.not_lt] at e1 e2
      exact UInt8.le_antisymm e2 e1
    subst hab
    rw [bl_total x y (by rcases h1.2 with h | h; · exact absurd rfl h
                         · exact h) (by rcases h2.2 with h | h; · exact absurd rfl h
                                        · exact h)]

theorem str_ext {a b : Str} (h : a.toList = b.toList) : a = b := by
  rw [ByteArray.toList_eq, ByteArray.toList_eq] at h
  cases a; cases b
  simp only at h
  congr
  exact Array.toList_inj.1 h

theorem slt_irrefl (a : Str) : slt a a = false := bl_irrefl _
theorem slt_trans {a b c : Str} (h1 : slt a b = true) (h2 : slt b c = true) : slt a c = true := bl_trans _ _ _ h1 h2
theorem slt_total {a b : Str} (h1 : slt a b = false) (h2 : slt b a = false) : a = b := str_ext (bl_total _ _ h1 h2)
theorem slt_asymm {a b : Str} (h : slt a b = true) : slt b a = false := by
  cases hb : slt b a
  · rfl
  · have := slt_trans h hb; rw [slt_irrefl] at this; cases this
theorem slt_ne {a b : Str} (h : slt a b = true) : a ≠ b := fun e => by subst e; rw [slt_irrefl] at h; cases h
theorem beq_toList {a b : Str} : (a.toList == b.toList) = decide (a = b) := by
  by_cases h : a = b
  · simp [h]
  · simp only [h, decide_false, beq_eq_false_iff_ne]; exact fun e => h (str_ext e)

def noStr : Str := ⟨#[]⟩
/-- Strictly rising. -/
def Srt (l : List Str) : Prop := l.Pairwise fun a b => slt a b = true
/-- The place of a string in a sorted list. -/
def lb (l : List Str) (x : Str) : Nat := (l.takeWhile fun y => slt y x).length
def hasAt (l : List Str) (x : Str) : Bool := decide (l[lb l x]? = some x)

theorem lb_le (l : List Str) (x : Str) : lb l x ≤ l.length := (List.takeWhile_sublist _).length_le
theorem lb_eq (l : List Str) (x : Str) : ∀ (i : Nat), i ≤ l.length → (∀ k, k < i → slt (l.getD k noStr) x = true) → (i < l.length → slt (l.getD i noStr) x = false) → lb l x = i := by
  induction l with
  | nil => intro i hi _ _; simp at hi; subst hi; rfl
  | cons a r ih =>
    intro i hi h1 h2
    cases i with
    | zero =>
      have := h2 (by simp)
      simp only [List.getD_cons_zero] at this
      simp [lb, this]
    | succ i =>
      have h0 := h1 0 (by omega)
      simp only [List.getD_cons_zero] at h0
      have := ih i (by simpa using hi) (fun k hk => by have := h1 (k + 1) (by omega); simpa using this) (fun hlt => by have := h2 (by simpa using hlt); simpa using this)
      simp only [lb] at this ⊢
      simp [h0, this]
theorem lb_lo (l : List Str) (x : Str) : ∀ k, k < lb l x → slt (l.getD k noStr) x = true := by
  induction l with
  | nil => intro k hk; simp [lb] at hk
  | cons a r ih =>
    intro k hk
    simp only [lb, List.takeWhile_cons] at hk
    split at hk
    · cases k with
      | zero => simpa using ‹slt a x = true›
      | succ k => simpa using ih k (by simpa [lb] using hk)
    · simp at hk
theorem lb_hi (l : List Str) (x : Str) (h : lb l x < l.length) : slt (l.getD (lb l x) noStr) x = false := by
  induction l with
  | nil => simp at h
  | cons a r ih =>
    simp only [lb, List.takeWhile_cons] at h ⊢
    split
    · rename_i ha
      simp only [ha, if_true, List.length_cons] at h ⊢
      simpa [lb] using ih (by simpa [lb] using h)
    · simpa using ‹¬ slt a x = true›

theorem Srt.lt {l : List Str} (h : Srt l) {i j : Nat} (hij : i < j) (hj : j < l.length) : slt (l.getD i noStr) (l.getD j noStr) = true := by
  have := List.pairwise_iff_getElem.1 h i j (by omega) hj hij
  simpa [List.getD_eq_getElem?_getD, List.getElem?_eq_getElem, hj, show i < l.length by omega] using this
/-- Below the middle: what a test of the middle says of all before it. -/
theorem Srt.before {l : List Str} (h : Srt l) {x : Str} {i j : Nat} (hij : i ≤ j) (hj : j < l.length) (hx : slt (l.getD j noStr) x = true) : slt (l.getD i noStr) x = true := by
  by_cases e : i = j
  · subst e; exact hx
  · exact slt_trans (h.lt (by omega) hj) hx
theorem Srt.behind {l : List Str} (h : Srt l) {x : Str} {i j : Nat} (hij : i ≤ j) (hj : j < l.length) (hx : slt (l.getD i noStr) x = false) : slt (l.getD j noStr) x = false := by
  cases hb : slt (l.getD j noStr) x
  · rfl
  · rw [h.before hij hj hb] at hx; cases hx

theorem hasAt_yes {l : List Str} {x : Str} {i : Nat} (hi : lb l x = i) (hl : i < l.length) (he : l.getD i noStr = x) : hasAt l x = true := by
  simp [hasAt, hi, List.getElem?_eq_getElem hl]
  simpa [List.getD_eq_getElem?_getD, List.getElem?_eq_getElem hl] using he
theorem hasAt_no {l : List Str} {x : Str} {i : Nat} (hi : lb l x = i) (hl : i < l.length) (he : ¬ l.getD i noStr = x) : hasAt l x = false := by
  simp [hasAt, hi, List.getElem?_eq_getElem hl]
  simpa [List.getD_eq_getElem?_getD, List.getElem?_eq_getElem hl] using he
theorem hasAt_end {l : List Str} {x : Str} {i : Nat} (hi : lb l x = i) (hl : ¬ i < l.length) : hasAt l x = false := by
  simp [hasAt, hi, List.getElem?_eq_none (by omega : l.length ≤ i)]
end Go.Proofs.YtdhfcelhgnjpcaaDoor
