/-
  slices.Equal at []int and []string; roref.SameMap.
-/
import Derived.Test.YtdhfcelhgnjpcaaDoorEnv
import Derived.Shelf.Slices.Empties2
namespace Go.Proofs.YtdhfcelhgnjpcaaDoor
open Go.RowKit

theorem Sl.int' {w : World} {ao : Option Addr} {n c : Nat} {l : List Int} (h : Sl w 1 ao n c (l.map (.int .i64))) (hn : 0 < n) :
    ∃ b off, ao = some ⟨b, off, none⟩ ∧ ∀ j, j < l.length → w.cell? ⟨b, off + j, none⟩ = some (.int .i64 (l.getD j 0)) := by
  have hl : l.length = n := by have := h.len; simpa using this
  obtain ⟨b, off, hb, _⟩ := h.cell 0 (.int .i64 (l.getD 0 0)) (by
    rw [List.getElem?_map, List.getD_eq_getElem?_getD, List.getElem?_eq_getElem (by omega)]; rfl)
  refine ⟨b, off, hb, fun j hj => ?_⟩
  obtain ⟨b', off', hb', hc⟩ := h.cell j (.int .i64 (l.getD j 0)) (by
    rw [List.getElem?_map, List.getD_eq_getElem?_getD, List.getElem?_eq_getElem (by omega)]; rfl)
  rw [hb] at hb'; cases hb'; exact hc
theorem Sl.str' {w : World} {ao : Option Addr} {n c : Nat} {l : List Str} (h : Sl w 1 ao n c (l.map .string)) (hn : 0 < n) :
    ∃ b off, ao = some ⟨b, off, none⟩ ∧ ∀ j, j < l.length → w.cell? ⟨b, off + j, none⟩ = some (.string (l.getD j ByteArray.empty)) := by
  have hl : l.length = n := by have := h.len; simpa using this
  obtain ⟨b, off, hb, _⟩ := h.cell 0 (.string (l.getD 0 ByteArray.empty)) (by
    rw [List.getElem?_map, List.getD_eq_getElem?_getD, List.getElem?_eq_getElem (by omega)]; rfl)
  refine ⟨b, off, hb, fun j hj => ?_⟩
  obtain ⟨b', off', hb', hc⟩ := h.cell j (.string (l.getD j ByteArray.empty)) (by
    rw [List.getElem?_map, List.getD_eq_getElem?_getD, List.getElem?_eq_getElem (by omega)]; rfl)
  rw [hb] at hb'; cases hb'; exact hc

theorem eqInts_any (ao bo : Option Addr) (n c m d : Nat) (xs ys : List Int) (w : World) (h1 : Sl w 1 ao n c (xs.map (.int .i64))) (h2 : Sl w 1 bo m d (ys.map (.int .i64)))
    (hn : n ≤ 1099511627776) (hm : m ≤ 1099511627776) :
    Calls Tryd.prog 8 #[.slice ao n c, .slice bo m d] w fun e w' => e = .returned (.bool (decide (xs = ys))) ∧ Below w.heap.size w w' := by
  have l1 : xs.length = n := by have := h1.len; simpa using this
  have l2 : ys.length = m := by have := h2.len; simpa using this
  by_cases h0 : n = 0
  · subst h0
    refine (Tryd.slices_Equal_int_empty ao bo c m d w (by omega)).mono ?_
    rintro e w' ⟨rfl, rfl⟩
    refine ⟨ret_bool ?_, Below.refl _ _⟩
    have : xs = [] := List.eq_nil_of_length_eq_zero l1
    subst this
    cases ys with
    | nil => simp at l2; simp [← l2]
    | cons a r => simp at l2; simp [← l2]
  · by_cases hnm : n = m
    · obtain ⟨b1, o1, rfl, hc1⟩ := h1.int' (by omega)
      obtain ⟨b2, o2, rfl, hc2⟩ := h2.int' (by omega)
      refine (Tryd.slices_Equal_int b1 o1 n c b2 o2 m d xs ys w (by omega) (by omega) (by omega) (by omega) hc1 hc2).mono ?_
      rintro e w' ⟨rfl, q, rfl⟩
      refine ⟨ret_bool ?_, below_drewN (Below.refl _ w) q⟩
      rw [List.take_of_length_le (by omega), List.take_of_length_le (by omega), Bool.eq_iff_iff]; simp
    · refine (Any.slices_Equal_int_lens Tryd.lays111 ao bo n c m d w hnm).mono ?_
      rintro e w' ⟨rfl, rfl⟩
      refine ⟨ret_bool ?_, Below.refl _ _⟩
      refine (decide_eq_false ?_).symm
      intro h; subst h; omega
theorem eqStrs_any (ao bo : Option Addr) (n c m d : Nat) (xs ys : List Str) (w : World) (h1 : Sl w 1 ao n c (xs.map .string)) (h2 : Sl w 1 bo m d (ys.map .string))
    (hn : n ≤ 1099511627776) (hm : m ≤ 1099511627776) :
    Calls Tryd.prog 60 #[.slice ao n c, .slice bo m d] w fun e w' => e = .returned (.bool (decide (xs = ys))) ∧ Below w.heap.size w w' := by
  have l1 : xs.length = n := by have := h1.len; simpa using this
  have l2 : ys.length = m := by have := h2.len; simpa using this
  by_cases h0 : n = 0
  · subst h0
    refine (Tryd.slices_Equal_string_empty ao bo c m d w (by omega)).mono ?_
    rintro e w' ⟨rfl, rfl⟩
    refine ⟨ret_bool ?_, Below.refl _ _⟩
    have : xs = [] := List.eq_nil_of_length_eq_zero l1
    subst this
    cases ys with
    | nil => simp at l2; simp [← l2]
    | cons a r => simp at l2; simp [← l2]
  · by_cases hnm : n = m
    · obtain ⟨b1, o1, rfl, hc1⟩ := h1.str' (by omega)
      obtain ⟨b2, o2, rfl, hc2⟩ := h2.str' (by omega)
      refine (Tryd.slices_Equal_string b1 o1 n c b2 o2 m d xs ys w (by omega) (by omega) (by omega) (by omega) hc1 hc2).mono ?_
      rintro e w' ⟨rfl, q, rfl⟩
      refine ⟨ret_bool ?_, below_drewN (Below.refl _ w) q⟩
      rw [List.take_of_length_le (by omega), List.take_of_length_le (by omega)]
    · refine (Any.slices_Equal_string_lens Tryd.lays193 ao bo n c m d w hnm).mono ?_
      rintro e w' ⟨rfl, rfl⟩
      refine ⟨ret_bool ?_, Below.refl _ _⟩
      refine (decide_eq_false ?_).symm
      intro h; subst h; omega

def sameMap (p q : PMap) : Bool := decide (p.cuts = q.cuts) && decide (p.owners = q.owners)
theorem sameMap_refl (p : PMap) : sameMap p p = true := by simp [sameMap]
set_option maxHeartbeats 1000000 in
theorem sameMap_any (ao bo : Option Addr) (n c m d : Nat) (ao' bo' : Option Addr) (n' c' m' d' : Nat) (p q : PMap) (w : World)
    (h : MapAt w ao n c bo m d p) (h' : MapAt w ao' n' c' bo' m' d' q) (hn : n ≤ 1099511627776) (hm : m ≤ 1099511627776) (hn' : n' ≤ 1099511627776) (hm' : m' ≤ 1099511627776) :
    Calls Tryd.prog 32 #[.agg #[.slice ao n c, .slice bo m d], .agg #[.slice ao' n' c', .slice bo' m' d']] w
      fun e w' => e = .returned (.bool (sameMap p q)) ∧ Below w.heap.size w w' := by
  have H := Lib.hid h; clear h
  have H' := Lib.hid h'; clear h'
  go_enter Tryd.func32, Tryd.ntmps32
  go_wp2_with fail
  have hb0 : Below w.heap.size w ((w.alloc (.cells #[.slice ao n c, .slice bo m d] 39)).alloc (.cells #[.slice ao' n' c', .slice bo' m' d'] 39)) := (below_alloc w _).alloc (below_alloc w _).size _
  refine (eqStrs_any ao ao' n c n' c' p.cuts q.cuts _ (H.out.cuts.below hb0) (H'.out.cuts.below hb0) hn hn').mono ?_
  rintro e w1 ⟨rfl, hb1⟩
  have hb2 := below_more hb0 hb1 (Nat.le_refl _)
  have HB2 := Lib.hid hb2; clear hb2 hb0
  obtain ⟨hc1, hf1⟩ := bcell hb1
  clear hb1
  cases he : decide (p.cuts = q.cuts)
  · have HE := Lib.hid he; clear he
    go_wp2_with fail
    go_ret
    exact ⟨ret_bool (by rw [sameMap, HE.out]; rfl), HB2.out⟩
  · have HE := Lib.hid he; clear he
    go_wp2_with fail
    refine (eqInts_any bo bo' m d m' d' p.owners q.owners _ (H.out.owns.below HB2.out) (H'.out.owns.below HB2.out) hm hm').mono ?_
    rintro e w2 ⟨rfl, hb3⟩
    go_wp2_with fail
    go_ret
    exact ⟨ret_bool (by rw [sameMap, HE.out]; rfl), below_more HB2.out hb3 (Nat.le_refl _)⟩
end Go.Proofs.YtdhfcelhgnjpcaaDoor
