/-
  slices.EqualFunc at []api.Entry by roref.SameEntry.
-/
import Derived.Test.YtdhfcelhgnjpcaaDoorEntries
import Derived.Test.YtdhfcelhgnjpcaaDoorSameEntry
namespace Go.Proofs.YtdhfcelhgnjpcaaDoor
open Go.RowKit

theorem sameEntry_refl (x : PEntry) : sameEntry x x = true := by simp [sameEntry, sameMap]

def entLen (x : PEntry) : Prop := x.deed.length ≤ 1099511627776 ∧ x.map.cuts.length ≤ 1099511627776 ∧ x.map.owners.length ≤ 1099511627776
theorem Ent.Ok.lens {w : World} {h : Ent} (k : h.Ok w) (hl : entLen h.x) : h.en ≤ 1099511627776 ∧ h.n ≤ 1099511627776 ∧ h.m ≤ 1099511627776 := by
  have e1 := k.ent.deed.n; have e2 := k.ent.map.n; have e3 := k.ent.map.m
  obtain ⟨h1, h2, h3⟩ := hl
  omega

set_option maxHeartbeats 2000000 in
set_option maxRecDepth 100000 in
theorem eqEnts_any (ao bo : Option Addr) (n c m d : Nat) (xs ys : List Ent) (w : World) (h1 : EntsAt w ao n c xs) (h2 : EntsAt w bo m d ys) (hn : n ≤ 1099511627776) (hnm : n = m) (hxy : xs.map Ent.x = ys.map Ent.x) (hlen : ∀ h ∈ xs, entLen h.x) :
    Calls Tryd.prog 20 #[.slice ao n c, .slice bo m d, .func (.func 23) #[] #[]] w fun e w' => e = .returned (.bool true) ∧ Below w.heap.size w w' := by
  subst hnm
  have hz : ((n : Int) != n) = false := by simp
  have H1 := Lib.hid h1; clear h1
  have H2 := Lib.hid h2; clear h2
  have HXY := Lib.hid hxy; clear hxy
  have HL := Lib.hid hlen; clear hlen
  go_enter Tryd.func20, Tryd.ntmps20
  go_wp2_with fail
  go_loopw [17] (fun i wr => ∃ k : Nat, k ≤ n ∧ i = .int .i64 k ∧ Below w.heap.size w wr) (fun i _ => n - (intOf i).toNat)
  case atStart => exact ⟨0, Nat.zero_le _, rfl, Below.refl _ _⟩
  case round =>
    obtain ⟨k, hk, rfl, hb⟩ := hrel
    by_cases hlt : k < n
    · obtain ⟨b1, f1, x, rfl, hb1, hx, hxo, cx0, cx1, cx2, cx3⟩ := (H1.out.below hb).cells k hlt
      obtain ⟨b2, f2, y, rfl, hb2, hy, hyo, cy0, cy1, cy2, cy3⟩ := (H2.out.below hb).cells k hlt
      have hxe : x.x = y.x := by
        have h3 := congrArg (fun l => l[k]?) HXY.out
        simp only [List.getElem?_map, hx, hy, Option.map_some, Option.some.injEq] at h3
        exact h3
      have hlx := HL.out x (List.mem_of_getElem? hx)
      have L1 := Lib.hid (hxo.lens hlx)
      have L2 := Lib.hid (hyo.lens (hxe ▸ hlx))
      have HB := Lib.hid hb; clear hb hx hy hlx
      have HXO := Lib.hid hxo; clear hxo
      have HYO := Lib.hid hyo; clear hyo
      have HXE := Lib.hid hxe; clear hxe
      have HN1 := Lib.hid ((below_alloc wr (.cells #[.slice x.eo x.en x.ec, .bool x.x.isMap, .slice x.ao x.n x.c, .slice x.bo x.m x.d] 41)).alloc (below_alloc wr _).size (.cells #[.slice y.eo y.en y.ec, .bool y.x.isMap, .slice y.ao y.n y.c, .slice y.bo y.m y.d] 41))
      go_wp2_with fail
      refine (sameEntry_any x.eo x.en x.ec x.ao x.bo x.n x.c x.m x.d y.eo y.en y.ec y.ao y.bo y.n y.c y.m y.d x.x y.x _ (HXO.out.below HN1.out).ent (HYO.out.below HN1.out).ent L1.out.1 L1.out.2.1 L1.out.2.2 L2.out.1 L2.out.2.1 L2.out.2.2).mono ?_
      rintro e w2 ⟨rfl, hb2⟩
      rw [HXE.out, sameEntry_refl]
      have HB2 := Lib.hid (below_more HB.out (HN1.out.trans (hb2.mono HN1.out.size)) (Nat.le_refl _)); clear hb2
      go_wp2_with fail
      go_roundw
      case rel => exact ⟨k + 1, by omega, by go_num, HB2.out⟩
      case measure => simp [intOf]; omega
    · obtain rfl : k = n := by omega
      have HB := Lib.hid hb; clear hb
      go_wp2_with fail
      go_ret
      exact ⟨rfl, HB.out⟩
end Go.Proofs.YtdhfcelhgnjpcaaDoor
