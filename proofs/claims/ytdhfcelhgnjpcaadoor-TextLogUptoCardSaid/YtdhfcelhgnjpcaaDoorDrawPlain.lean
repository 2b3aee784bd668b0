/-
  Plain words on deeds and entries that are drawn out of numbers of any sort (rokeep.Key, Deeds, entries). No program is named here.
-/
import Derived.Test.YtdhfcelhgnjpcaaDoorEntryPlain
import Derived.Test.YtdhfcelhgnjpcaaDoorWithin
namespace Go.Proofs.YtdhfcelhgnjpcaaDoor
open Go.RowKit

def key8 : List Str := [⟨#[97]⟩, ⟨#[98]⟩, ⟨#[99]⟩, ⟨#[100]⟩, ⟨#[109]⟩, ⟨#[110]⟩, ⟨#[122]⟩, ⟨#[97, 98]⟩]
def keyOf (k : Int) : Str := key8.getD (within k 8).toNat noStr
def qStr : Str := ⟨#[113]⟩
def gSrc (b d : Int) : Str := if keyOf (IntKind.i64.wrap (IntKind.i64.wrap (b + 1) + within d 7)) = keyOf b then qStr else keyOf (IntKind.i64.wrap (IntKind.i64.wrap (b + 1) + within d 7))
def gOp (a b d : Int) : POp := if within a 5 = 2 ∨ within a 5 = 4 then ⟨1 + within a 5, keyOf b, gSrc b d, within d 9⟩ else ⟨1 + within a 5, keyOf b, noStr, within d 9⟩
def gDeedTo (l : List Int) : Nat → List POp
  | 0 => []
  | k + 1 => gDeedTo l k ++ [gOp (l.getD (3 * k) 0) (l.getD (3 * k + 1) 0) (l.getD (3 * k + 2) 0)]
def gLen (l : List Int) : Nat := min 4 (l.length / 3)
def gDeed (l : List Int) : List POp := gDeedTo l (gLen l)
def gDeeds (ls : List (List Int)) : List (List POp) := (ls.map gDeed).filter fun d => !d.isEmpty
theorem gDeedTo_len (l : List Int) : ∀ k, (gDeedTo l k).length = k
  | 0 => rfl
  | k + 1 => by rw [gDeedTo, List.length_append, gDeedTo_len l k]; rfl
theorem keyOf_mem (k : Int) : keyOf k ∈ key8 := by
  have h0 := within_lo k 8
  have h1 := within_hi k 8 (by omega)
  unfold keyOf
  have hlt : (within k 8).toNat < key8.length := by simp [key8]; omega
  rw [List.getD_eq_getElem?_getD, List.getElem?_eq_getElem hlt]
  exact List.getElem_mem hlt
theorem key8_ok : ∀ s ∈ key8, isKey s = true ∧ s ≠ qStr := by
  intro s hs
  simp only [key8, List.mem_cons, List.not_mem_nil, or_false] at hs
  rcases hs with rfl | rfl | rfl | rfl | rfl | rfl | rfl | rfl <;> exact ⟨by decide, by decide⟩
theorem keyOf_key (k : Int) : isKey (keyOf k) = true := (key8_ok _ (keyOf_mem k)).1
theorem keyOf_q (k : Int) : keyOf k ≠ qStr := (key8_ok _ (keyOf_mem k)).2
theorem gSrc_key (b d : Int) : isKey (gSrc b d) = true := by
  unfold gSrc; split
  · decide
  · exact keyOf_key _
theorem gSrc_ne (b d : Int) : gSrc b d ≠ keyOf b := by
  unfold gSrc; split
  · exact fun e => keyOf_q b e.symm
  · assumption
theorem gOp_ok (a b d : Int) : OpOk (gOp a b d) := by
  have h0 := within_lo a 5
  have h1 := within_hi a 5 (by omega)
  have h2 := within_lo d 9
  have h3 := within_hi d 9 (by omega)
  unfold gOp
  split
  · rename_i hk
    exact ⟨by simp only; omega, by simp only; omega, keyOf_key b, fun _ => ⟨gSrc_key b d, gSrc_ne b d⟩, fun _ => ⟨by simp only; omega, by simp only; omega⟩, fun _ => h2⟩
  · rename_i hk
    exact ⟨by simp only; omega, by simp only; omega, keyOf_key b, fun hs => by simp only at hs; omega, fun _ => ⟨by simp only; omega, by simp only; omega⟩, fun _ => h2⟩
theorem gDeedTo_ok (l : List Int) : ∀ k, ∀ o ∈ gDeedTo l k, OpOk o
  | 0, o, ho => by cases ho
  | k + 1, o, ho => by
    rw [gDeedTo] at ho
    rcases List.mem_append.1 ho with ho | ho
    · exact gDeedTo_ok l k o ho
    · rw [List.mem_singleton.1 ho]; exact gOp_ok _ _ _
theorem gDeed_check {l : List Int} (h : gDeed l ≠ []) : deedCheck (gDeed l) = 0 := by
  have hl := gDeedTo_len l (gLen l)
  refine deedCheck_zero.2 ⟨fun e => h (List.eq_nil_of_length_eq_zero e), ?_, fun o ho => opOk_iff.2 (gDeedTo_ok l _ o ho)⟩
  unfold gDeed
  rw [hl]; unfold gLen; omega
theorem gDeeds_check {ls : List (List Int)} : ∀ d ∈ gDeeds ls, deedCheck d = 0 := by
  intro d hd
  simp only [gDeeds, List.mem_filter, List.mem_map, Bool.not_eq_true'] at hd
  obtain ⟨⟨l, _, rfl⟩, h2⟩ := hd
  exact gDeed_check (fun e => by rw [e] at h2; simp at h2)
theorem gDeeds_len (ls : List (List Int)) : (gDeeds ls).length ≤ ls.length := by
  unfold gDeeds
  have := List.length_filter_le (fun d : List POp => !d.isEmpty) (ls.map gDeed)
  simpa using this
theorem gDeeds_take (ls : List (List Int)) (k : Nat) (h : k < ls.length) : gDeeds (ls.take (k + 1)) = gDeeds (ls.take k) ++ (if gDeed ls[k] = [] then [] else [gDeed ls[k]]) := by
  unfold gDeeds
  rw [List.take_succ_eq_append_getElem h, List.map_append, List.filter_append]
  congr 1
  by_cases he : gDeed ls[k] = []
  · simp [he]
  · have : (gDeed ls[k]).isEmpty = false := by simpa using he
    simp [he, this]
theorem op_i64 {o : POp} (h : OpOk o) (h3 : o.kind = 3 → o.n = 0 ∨ (0 ≤ o.n ∧ o.n < 9)) : -9223372036854775808 ≤ o.n ∧ o.n ≤ 9223372036854775807 := by
  by_cases hk : o.kind = 3
  · rcases h3 hk with h | h <;> omega
  · have := h.val hk; omega
theorem gOp_n (a b d : Int) : 0 ≤ (gOp a b d).n ∧ (gOp a b d).n < 9 := by
  have h2 := within_lo d 9
  have h3 := within_hi d 9 (by omega)
  unfold gOp; split <;> exact ⟨h2, h3⟩
theorem gDeedTo_n (l : List Int) : ∀ k, ∀ o ∈ gDeedTo l k, 0 ≤ o.n ∧ o.n < 9
  | 0, o, ho => by cases ho
  | k + 1, o, ho => by
    rw [gDeedTo] at ho
    rcases List.mem_append.1 ho with ho | ho
    · exact gDeedTo_n l k o ho
    · rw [List.mem_singleton.1 ho]; exact gOp_n _ _ _
theorem gDeeds_n {ls : List (List Int)} : ∀ d ∈ gDeeds ls, ∀ o ∈ d, 0 ≤ o.n ∧ o.n < 9 := by
  intro d hd
  simp only [gDeeds, List.mem_filter, List.mem_map, Bool.not_eq_true'] at hd
  obtain ⟨⟨l, _, rfl⟩, _⟩ := hd
  exact gDeedTo_n l _
end Go.Proofs.YtdhfcelhgnjpcaaDoor
