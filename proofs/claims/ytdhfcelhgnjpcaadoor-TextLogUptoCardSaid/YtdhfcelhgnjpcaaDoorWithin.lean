/-
  rokeep.Within: a number from 0 to n-1; nothing turns.
-/
import Derived.Test.YtdhfcelhgnjpcaaDoorProg
import Derived.Test.YtdhfcelhgnjpcaaDoorBase
namespace Go.Proofs.YtdhfcelhgnjpcaaDoor
open Go.RowKit

/-- A number from 0 to n - 1, by a number of any sort. -/
def within (k n : Int) : Int := (IntKind.u64.wrap k).tmod n
theorem u64_nonneg (k : Int) : 0 ≤ IntKind.u64.wrap k := by
  simp only [IntKind.wrap, IntKind.signed, IntKind.bits]
  exact Int.emod_nonneg _ (by decide)
theorem within_lo (k n : Int) : 0 ≤ within k n := Int.tmod_nonneg _ (u64_nonneg k)
theorem within_hi (k n : Int) (h : 1 ≤ n) : within k n < n := Int.tmod_lt_of_pos _ (by omega)

theorem within_any (k n : Int) (w : World) (h1 : 1 ≤ n) (h2 : n ≤ 1099511627776) :
    Calls Tryd.prog 34 #[.int .i64 k, .int .i64 n] w fun e w' => e = .returned (.int .i64 (within k n)) ∧ w = w' := by
  have hw : wrap64 ((IntKind.u64.wrap k).tmod n) = within k n := by
    have h3 := within_lo k n; have h4 := within_hi k n h1
    exact IntWalk.wrap64_in _ (by unfold within at h3 h4; omega)
  have HW := Lib.hid hw; clear hw
  go_enter Tryd.func34, Tryd.ntmps34
  go_wp2_with fail
  go_ret
  exact ⟨ret_int HW.out, rfl⟩
end Go.Proofs.YtdhfcelhgnjpcaaDoor
