/-
  rokeep.keys, rokeep.Key.
-/
import Derived.Test.YtdhfcelhgnjpcaaDoorDrawPlain
import Derived.Test.YtdhfcelhgnjpcaaDoorOwn
namespace Go.Proofs.YtdhfcelhgnjpcaaDoor
open Go.RowKit

theorem keys_any (w : World) :
    Calls Tryd.prog 107 #[] w fun e w' => e = .returned (.slice (some ⟨w.heap.size, 0, none⟩) 8 8) ∧ w.alloc (.cells (key8.map Value.string).toArray 9) = w' := by
  go_enter Tryd.func107, Tryd.ntmps107
  go_wp2_with fail
  go_ret
  exact ⟨rfl, rfl⟩
theorem keyOf_any (k : Int) (w : World) :
    Calls Tryd.prog 86 #[.int .i64 k] w fun e w' => e = .returned (.string (keyOf k)) ∧ Below w.heap.size w w' := by
  have h0 := within_lo k 8
  have h1 := within_hi k 8 (by omega)
  obtain ⟨j, hj⟩ : ∃ j : Nat, within k 8 = j := ⟨(within k 8).toNat, by omega⟩
  rw [hj] at h0 h1
  have hj8 : j < 8 := by omega
  have hk : keyOf k = key8.getD j noStr := by rw [keyOf, hj]; rfl
  have hb := below_alloc w (.cells (key8.map Value.string).toArray 9)
  have hcell : (w.alloc (.cells (key8.map Value.string).toArray 9)).cell? ⟨w.heap.size, j, none⟩ = some (.string (key8.getD j noStr)) := by
    rw [heap_cell (heap_new1 w _)]
    match j, hj8 with
    | 0, _ => rfl
    | 1, _ => rfl
    | 2, _ => rfl
    | 3, _ => rfl
    | 4, _ => rfl
    | 5, _ => rfl
    | 6, _ => rfl
    | 7, _ => rfl
  obtain ⟨z, hz⟩ : ∃ z, key8.getD j noStr = z := ⟨_, rfl⟩
  rw [hz] at hcell hk
  rw [hk]
  clear hk hz
  have HJ := Lib.hid hj; clear hj
  have HB := Lib.hid hb; clear hb
  go_enter Tryd.func86, Tryd.ntmps86
  go_wp2_with fail
  refine (keys_any w).mono ?_
  rintro e w1 ⟨rfl, hw1⟩
  rw [hw1] at HB hcell
  clear hw1
  go_wp2_with fail
  refine (within_any k 8 w1 (by omega) (by omega)).mono ?_
  rintro e w2 ⟨rfl, rfl⟩
  rw [HJ.out]
  go_wp2_with fail
  go_ret
  exact ⟨rfl, HB.out⟩
end Go.Proofs.YtdhfcelhgnjpcaaDoor
