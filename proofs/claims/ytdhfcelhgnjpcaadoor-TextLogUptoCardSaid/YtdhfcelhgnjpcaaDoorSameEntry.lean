/-
  roref.BareEntry, roref.SameEntry.
-/
import Derived.Test.YtdhfcelhgnjpcaaDoorEntry
import Derived.Test.YtdhfcelhgnjpcaaDoorSameDeed
import Derived.Test.YtdhfcelhgnjpcaaDoorSame
import Derived.Test.YtdhfcelhgnjpcaaDoorOwn
namespace Go.Proofs.YtdhfcelhgnjpcaaDoor
open Go.RowKit

theorem EntAt.drew {w : World} {eo : Option Addr} {en ec : Nat} {ao : Option Addr} {n c : Nat} {bo : Option Addr} {m d : Nat} {x : PEntry} (h : EntAt w eo en ec ao n c bo m d x) : EntAt w.drew eo en ec ao n c bo m d x := h.below ((Below.refl _ _).drew)
def sameEntry (x y : PEntry) : Bool := (x.isMap == y.isMap) && decide (x.deed = y.deed) && sameMap x.map y.map

set_option maxHeartbeats 1000000 in
theorem bareEntry_any (eo : Option Addr) (en ec : Nat) (ao bo : Option Addr) (n c m d : Nat) (x : PEntry) (w : World) (h : EntAt w eo en ec ao n c bo m d x) :
    Calls Tryd.prog 33 #[.agg #[.slice eo en ec, .bool x.isMap, .slice ao n c, .slice bo m d]] w fun e w' => ∃ eo' en' ec' ao' n' c' bo' m' d', e = .returned (.agg #[.slice eo' en' ec', .bool (bareEntry x).isMap, .slice ao' n' c', .slice bo' m' d']) ∧
      EntAt w' eo' en' ec' ao' n' c' bo' m' d' (bareEntry x) ∧ en' ≤ en ∧ n' ≤ n ∧ m' ≤ m ∧ Below w.heap.size w w' := by
  have H := Lib.hid h; clear h
  obtain ⟨deed, isMap, mp⟩ := x
  cases isMap
  case false =>
    have hb : Below w.heap.size w ((w.alloc (.cells #[.slice eo en ec, .bool false, .slice ao n c, .slice bo m d] 41)).alloc (.cells #[.slice eo en ec, .bool false, .slice none 0 0, .slice none 0 0] 41)) := (below_alloc w _).alloc (below_alloc w _).size _
    have HB := Lib.hid hb; clear hb
    go_enter Tryd.func33, Tryd.ntmps33
    go_wp2_with fail
    refine bodyPost_ret (v := .agg #[.slice eo en ec, .bool false, .slice none 0 0, .slice none 0 0]) (by simp [results, Tryd.results33, go_sem]) rfl ⟨eo, en, ec, none, 0, 0, none, 0, 0, rfl, ?_, Nat.le_refl _, Nat.zero_le _, Nat.zero_le _, HB.out⟩
    exact ⟨H.out.deed.below HB.out, sl_none _ 1, sl_none _ 1⟩
  case true =>
    have hb : Below w.heap.size w ((w.alloc (.cells #[.slice eo en ec, .bool true, .slice ao n c, .slice bo m d] 41)).alloc (.cells #[.slice none 0 0, .bool true, .slice ao n c, .slice bo m d] 41)) := (below_alloc w _).alloc (below_alloc w _).size _
    have HB := Lib.hid hb; clear hb
    go_enter Tryd.func33, Tryd.ntmps33
    go_wp2_with fail
    refine bodyPost_ret (v := .agg #[.slice none 0 0, .bool true, .slice ao n c, .slice bo m d]) (by simp [results, Tryd.results33, go_sem]) rfl ⟨none, 0, 0, ao, n, c, bo, m, d, rfl, ?_, Nat.zero_le _, Nat.le_refl _, Nat.le_refl _, HB.out⟩
    exact ⟨⟨sl_none _ 4⟩, H.out.map.below HB.out⟩

set_option maxHeartbeats 2000000 in
theorem sameEntry_any (eo : Option Addr) (en ec : Nat) (ao bo : Option Addr) (n c m d : Nat) (eo' : Option Addr) (en' ec' : Nat) (ao' bo' : Option Addr) (n' c' m' d' : Nat) (x y : PEntry) (w : World)
    (h : EntAt w eo en ec ao n c bo m d x) (h' : EntAt w eo' en' ec' ao' n' c' bo' m' d' y) (hen : en ≤ 1099511627776) (hn : n ≤ 1099511627776) (hm : m ≤ 1099511627776) (hen' : en' ≤ 1099511627776) (hn' : n' ≤ 1099511627776) (hm' : m' ≤ 1099511627776) :
    Calls Tryd.prog 23 #[.agg #[.slice eo en ec, .bool x.isMap, .slice ao n c, .slice bo m d], .agg #[.slice eo' en' ec', .bool y.isMap, .slice ao' n' c', .slice bo' m' d']] w
      fun e w' => e = .returned (.bool (sameEntry x y)) ∧ Below w.heap.size w w' := by
  have H := Lib.hid h; clear h
  have H' := Lib.hid h'; clear h'
  obtain ⟨xd, xb, xm⟩ := x
  obtain ⟨yd, yb, ym⟩ := y
  simp only
  obtain ⟨w0, hw0⟩ : ∃ w0, (w.alloc (.cells #[.slice eo en ec, .bool xb, .slice ao n c, .slice bo m d] 41)).alloc (.cells #[.slice eo' en' ec', .bool yb, .slice ao' n' c', .slice bo' m' d'] 41) = w0 := ⟨_, rfl⟩
  have ho0 : Own w [.cells #[.slice eo en ec, .bool xb, .slice ao n c, .slice bo m d] 41 (0, 0), .cells #[.slice eo' en' ec', .bool yb, .slice ao' n' c', .slice bo' m' d'] 41 (0, 0)] w0 := by
    subst hw0
    have h1 := (Own.start w).push (by simp) (.cells #[.slice eo en ec, .bool xb, .slice ao n c, .slice bo m d] 41)
    exact (h1.1.push h1.2 (.cells #[.slice eo' en' ec', .bool yb, .slice ao' n' c', .slice bo' m' d'] 41)).1
  have HO0 := Lib.hid ho0; clear ho0
  have a0 : w0.cell? ⟨w.heap.size, 0, none⟩ = some (.slice eo en ec) := HO0.out.cell 0 0 rfl
  have a1 : w0.cell? ⟨w.heap.size, 1, none⟩ = some (.bool xb) := HO0.out.cell 0 1 rfl
  have b0 : w0.cell? ⟨w.heap.size + 1, 0, none⟩ = some (.slice eo' en' ec') := HO0.out.cell 1 0 rfl
  have b1 : w0.cell? ⟨w.heap.size + 1, 1, none⟩ = some (.bool yb) := HO0.out.cell 1 1 rfl
  by_cases hxy : xb = yb
  · have hbb : (xb == yb) = true := by simpa using hxy
    cases hdd : decide (xd = yd)
    · have hr : sameEntry ⟨xd, xb, xm⟩ ⟨yd, yb, ym⟩ = false := by simp only [sameEntry, hdd]; simp
      have HR := Lib.hid hr; clear hr
      have HD := Lib.hid hdd; clear hdd
      have HX := Lib.hid hxy; clear hxy
      go_enter Tryd.func23, Tryd.ntmps23
      go_wp2_with fail
      refine (sameDeed_any eo eo' en ec en' ec' xd yd w0 (H.out.deed.below HO0.out.old) (H'.out.deed.below HO0.out.old) hen hen').mono ?_
      rintro e w1 ⟨rfl, hb1⟩
      rw [HD.out]
      have HO1 := Lib.hid (HO0.out.below hb1); clear hb1 hw0
      go_wp2_with fail
      go_ret
      exact ⟨ret_bool HR.out.symm, HO1.out.old⟩
    · have hr : sameEntry ⟨xd, xb, xm⟩ ⟨yd, yb, ym⟩ = sameMap xm ym := by simp only [sameEntry, hdd, hbb]; simp
      have HR := Lib.hid hr; clear hr
      have HD := Lib.hid hdd; clear hdd
      have HX := Lib.hid hxy; clear hxy
      go_enter Tryd.func23, Tryd.ntmps23
      go_wp2_with fail
      refine (sameDeed_any eo eo' en ec en' ec' xd yd w0 (H.out.deed.below HO0.out.old) (H'.out.deed.below HO0.out.old) hen hen').mono ?_
      rintro e w1 ⟨rfl, hb1⟩
      rw [HD.out]
      have HO1 := Lib.hid (HO0.out.below hb1); clear hb1 hw0 a0 a1 b0 b1
      have a2 : w1.cell? ⟨w.heap.size, 2, none⟩ = some (.slice ao n c) := HO1.out.cell 0 2 rfl
      have a3 : w1.cell? ⟨w.heap.size, 3, none⟩ = some (.slice bo m d) := HO1.out.cell 0 3 rfl
      have b2 : w1.cell? ⟨w.heap.size + 1, 2, none⟩ = some (.slice ao' n' c') := HO1.out.cell 1 2 rfl
      have b3 : w1.cell? ⟨w.heap.size + 1, 3, none⟩ = some (.slice bo' m' d') := HO1.out.cell 1 3 rfl
      go_wp2_with fail
      refine (sameMap_any ao bo n c m d ao' bo' n' c' m' d' xm ym w1 (H.out.map.below HO1.out.old) (H'.out.map.below HO1.out.old) hn hm hn' hm').mono ?_
      rintro e w2 ⟨rfl, hb2⟩
      have HO2 := Lib.hid (HO1.out.below hb2); clear hb2
      go_wp2_with fail
      go_ret
      exact ⟨ret_bool HR.out.symm, HO2.out.old⟩
  · have hbb : (xb == yb) = false := by simpa using hxy
    have hr : sameEntry ⟨xd, xb, xm⟩ ⟨yd, yb, ym⟩ = false := by simp only [sameEntry, hbb]; simp
    have HR := Lib.hid hr; clear hr
    have HX := Lib.hid hxy; clear hxy
    go_enter Tryd.func23, Tryd.ntmps23
    go_wp2_with fail
    go_ret
    exact ⟨ret_bool HR.out.symm, HO0.out.old⟩
end Go.Proofs.YtdhfcelhgnjpcaaDoor
