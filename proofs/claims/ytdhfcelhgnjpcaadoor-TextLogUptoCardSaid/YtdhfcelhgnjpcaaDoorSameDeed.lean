/-
  slices.Equal at []api.Op; roref.SameDeed.
-/
import Derived.Test.YtdhfcelhgnjpcaaDoorDeedCheck
import Derived.Deep.DeepCutAuto
namespace Go.Proofs.YtdhfcelhgnjpcaaDoor
open Go.RowKit

theorem opsEq {xs ys : List POp} (hl : xs.length = ys.length) (h : ∀ j, j < xs.length → xs.getD j noOp = ys.getD j noOp) : xs = ys := by
  apply List.ext_getElem hl
  intro j h1 h2
  have := h j h1
  rw [List.getD_eq_getElem?_getD, List.getElem?_eq_getElem h1, List.getD_eq_getElem?_getD, List.getElem?_eq_getElem h2] at this
  exact this

set_option maxHeartbeats 2000000 in
theorem eqOps_any (ao bo : Option Addr) (n c m d : Nat) (xs ys : List POp) (w : World) (h1 : OpsAt w ao n c xs) (h2 : OpsAt w bo m d ys) (hn : n ≤ 1099511627776) (hm : m ≤ 1099511627776) :
    Calls Tryd.prog 51 #[.slice ao n c, .slice bo m d] w fun e w' => e = .returned (.bool (decide (xs = ys))) ∧ Below w.heap.size w w' := by
  have l1 := h1.n
  have l2 := h2.n
  by_cases hnm : n = m
  · subst hnm
    have hz : ((n : Int) != n) = false := by simp
    have H1 := Lib.hid h1; clear h1
    have H2 := Lib.hid h2; clear h2
    have L1 := Lib.hid l1; clear l1
    have L2 := Lib.hid l2; clear l2
    go_enter Tryd.func51, Tryd.ntmps51
    go_wp2_with fail
    go_loopw [13] (fun i wr => ∃ k : Nat, k ≤ n ∧ i = .int .i64 k ∧ (∀ j, j < k → xs.getD j noOp = ys.getD j noOp) ∧ Below w.heap.size w wr) (fun i _ => n - (intOf i).toNat)
    case atStart => exact ⟨0, Nat.zero_le _, rfl, fun j hj => by omega, Below.refl _ _⟩
    case round =>
      obtain ⟨k, hk, rfl, hall, hb⟩ := hrel
      have HA := Lib.hid hall; clear hall
      by_cases hlt : k < n
      · obtain ⟨b, off, rfl, hbs, hc0, hc1, hc2, hc3⟩ := (H1.out.below hb).cells k hlt
        obtain ⟨b', off', rfl, hbs', hd0, hd1, hd2, hd3⟩ := (H2.out.below hb).cells k hlt
        have HB := Lib.hid hb; clear hb
        obtain ⟨x, hx⟩ : ∃ x, xs.getD k noOp = x := ⟨_, rfl⟩
        obtain ⟨y, hy⟩ : ∃ y, ys.getD k noOp = y := ⟨_, rfl⟩
        rw [hx] at hc0 hc1 hc2 hc3
        rw [hy] at hd0 hd1 hd2 hd3
        have HX := Lib.hid hx; clear hx
        have HY := Lib.hid hy; clear hy
        by_cases he : x = y
        · subst he
          go_wp2_with fail
          go_region
          go_wp2_with fail
          go_roundw
          case rel =>
            refine ⟨k + 1, by omega, by go_num, fun j hj => ?_, HB.out.drew⟩
            by_cases hj' : j < k
            · exact HA.out j hj'
            · obtain rfl : j = k := by omega
              rw [HX.out, HY.out]
          case measure => simp [intOf]; omega
        · have hne : ¬ xs = ys := fun e => he (by rw [← HX.out, ← HY.out, e])
          have hne := Lib.hid hne
          clear HX HY
          obtain ⟨k1, a1, b1, n1⟩ := x
          obtain ⟨k2, a2, b2, n2⟩ := y
          simp only at hc0 hc1 hc2 hc3 hd0 hd1 hd2 hd3
          by_cases e1 : k1 = k2
          · subst e1
            by_cases e2 : a1 = a2
            · subst e2
              by_cases e3 : b1 = b2
              · subst e3
                have e4 : (n1 == n2) = false := by simpa using he
                clear he
                go_wp2_with fail
                go_region
                go_wp2_with fail
                go_ret
                exact ⟨ret_bool (decide_eq_false hne.out).symm, HB.out.drew⟩
              · have e4 : (b1.toList == b2.toList) = false := eqb_no (fun h => e3 (str_eq h))
                clear he e3
                go_wp2_with fail
                go_region
                go_wp2_with fail
                go_ret
                exact ⟨ret_bool (decide_eq_false hne.out).symm, HB.out.drew⟩
            · have e4 : (a1.toList == a2.toList) = false := eqb_no (fun h => e2 (str_eq h))
              clear he e2
              go_wp2_with fail
              go_region
              go_wp2_with fail
              go_ret
              exact ⟨ret_bool (decide_eq_false hne.out).symm, HB.out.drew⟩
          · have e4 : (k1 == k2) = false := by simpa using e1
            clear he e1
            go_wp2_with fail
            go_region
            go_wp2_with fail
            go_ret
            exact ⟨ret_bool (decide_eq_false hne.out).symm, HB.out.drew⟩
      · obtain rfl : k = n := by omega
        have he : decide (xs = ys) = true := decide_eq_true (opsEq (by rw [L1.out, L2.out]) (by rw [L1.out]; intro j hj; exact HA.out j hj))
        have HE := Lib.hid he; clear he
        go_wp2_with fail
        go_ret
        exact ⟨ret_bool HE.out.symm, hb⟩
  · have hz : ((n : Int) != m) = true := by simp; omega
    have hne : decide (xs = ys) = false := decide_eq_false (by intro h; subst h; omega)
    have HN := Lib.hid hne; clear hne l1 l2 hnm
    go_enter Tryd.func51, Tryd.ntmps51
    go_wp2_with fail
    go_ret
    exact ⟨ret_bool HN.out.symm, Below.refl _ _⟩

def sameDeed (a b : List POp) : Bool := decide (a = b)
set_option maxHeartbeats 1000000 in
theorem sameDeed_any (ao bo : Option Addr) (n c m d : Nat) (xs ys : List POp) (w : World) (h1 : OpsAt w ao n c xs) (h2 : OpsAt w bo m d ys) (hn : n ≤ 1099511627776) (hm : m ≤ 1099511627776) :
    Calls Tryd.prog 26 #[.agg #[.slice ao n c], .agg #[.slice bo m d]] w fun e w' => e = .returned (.bool (decide (xs = ys))) ∧ Below w.heap.size w w' := by
  have H := Lib.hid h1; clear h1
  have H' := Lib.hid h2; clear h2
  go_enter Tryd.func26, Tryd.ntmps26
  go_wp2_with fail
  have hb0 : Below w.heap.size w ((w.alloc (.cells #[.slice ao n c] 36)).alloc (.cells #[.slice bo m d] 36)) := (below_alloc w _).alloc (below_alloc w _).size _
  refine (eqOps_any ao bo n c m d xs ys _ (H.out.below hb0) (H'.out.below hb0) hn hm).mono ?_
  rintro e w1 ⟨rfl, hb1⟩
  have HB := Lib.hid (below_more hb0 hb1 (Nat.le_refl _)); clear hb0 hb1
  go_wp2_with fail
  go_ret
  exact ⟨rfl, HB.out⟩
end Go.Proofs.YtdhfcelhgnjpcaaDoor
