/-
  rokeep.Deeds: deeds drawn out of numbers. (Printed by wip/gen_deeds.py.)
-/
import Derived.Test.YtdhfcelhgnjpcaaDoorKeyOf
import Derived.Test.YtdhfcelhgnjpcaaDoorBare
import Derived.Test.YtdhfcelhgnjpcaaDoorNewer
import Derived.Test.YtdhfcelhgnjpcaaDoorSame
import Derived.Deep.DeepCutAuto
import Derived.Deep.RegionHeld3
import Derived.Deep.DrawnRows
import Derived.IntWalk
namespace Go.Proofs.YtdhfcelhgnjpcaaDoor
open Go.RowKit

/-- A slice of ints: where it lies, and what it holds. -/
structure IRow where
  ao : Option Addr
  n : Nat
  c : Nat
  l : List Int
def IRow.Ok (w : World) (r : IRow) : Prop := Sl w 1 r.ao r.n r.c (r.l.map (.int .i64))
/-- A slice of slices of ints. -/
structure RowsAt (w : World) (ao : Option Addr) (n c : Nat) (rs : List IRow) : Prop where
  sl : Sl w 1 ao n c (rs.map fun r => .slice r.ao r.n r.c)
  rows : ∀ r ∈ rs, r.Ok w
theorem RowsAt.below {w w' : World} {ao : Option Addr} {n c : Nat} {rs : List IRow} (h : RowsAt w ao n c rs) (hb : Below w.heap.size w w') : RowsAt w' ao n c rs := ⟨h.sl.below hb, fun r hr => Sl.below (h.rows r hr) hb⟩
theorem RowsAt.n {w : World} {ao : Option Addr} {n c : Nat} {rs : List IRow} (h : RowsAt w ao n c rs) : rs.length = n := by have := h.sl.len; simpa using this
theorem RowsAt.row {w : World} {ao : Option Addr} {n c : Nat} {rs : List IRow} (h : RowsAt w ao n c rs) (k : Nat) (hk : k < n) :
    ∃ b off r, ao = some ⟨b, off, none⟩ ∧ b < w.heap.size ∧ rs[k]? = some r ∧ r.Ok w ∧ w.cell? ⟨b, off + k, none⟩ = some (.slice r.ao r.n r.c) := by
  have hl := h.n
  obtain ⟨b, off, h1, h2⟩ := h.sl.cell k (.slice rs[k].ao rs[k].n rs[k].c) (by rw [List.getElem?_map, List.getElem?_eq_getElem (by omega)]; rfl)
  exact ⟨b, off, rs[k], h1, World.block_lt_of_cell? w _ h2, List.getElem?_eq_getElem (by omega), h.rows _ (List.getElem_mem _), h2⟩
/-- A deed's header. -/
structure DRow where
  ao : Option Addr
  n : Nat
  c : Nat
  l : List POp
structure DRow.Ok (w : World) (r : DRow) : Prop where
  ops : OpsAt w r.ao r.n r.c r.l
  t : TypedAt 54 w r.ao
theorem DRow.Ok.below {w w' : World} {r : DRow} (h : r.Ok w) (hb : Below w.heap.size w w') : r.Ok w' := ⟨h.ops.below hb, h.t.below hb⟩
def DRow.cell (r : DRow) : Value := .slice r.ao r.n r.c
theorem Sl.grownT {w w' : World} {size : Nat} {ao : Option Addr} {n c : Nat} {xs : List Value} (h : Sl w size ao n c xs) {T E : TypeId} (ht : TypedAt T w ao) {row : Option Nat} (hg : w.grownBy w' row)
    (hr : ∀ b, row = some b → ∃ cur fr, w.heap[b]? = some (.cells cur E fr)) (hne : T ≠ E) : Sl w' size ao n c xs :=
  ⟨h.len, h.le, h.nil, fun j u hu => by
    obtain ⟨b, off, h1, h2⟩ := h.cell j u hu
    obtain ⟨cur, fr, hc⟩ := ht _ h1
    refine ⟨b, off, h1, ?_⟩
    have hc' := grown_heap hg hc (fun e => by
      obtain ⟨c2, f2, h3⟩ := hr _ e
      rw [hc] at h3
      simp only [Option.some.injEq, Obj.cells.injEq] at h3
      exact hne h3.2.1)
    rw [heap_cell hc']
    rw [heap_cell hc] at h2
    exact h2⟩
theorem own_typed' {w : World} {base : Nat} {e : TypeId} {size : Nat} {v : Value} {n : Nat} {xs : List Value} (h : w.ownsRow base e size v n xs) : ∀ b, v.ownBlock = some b → ∃ cur fr, w.heap[b]? = some (.cells cur e fr) := by
  intro b hv
  rcases h.2 with ⟨rfl, _⟩ | ⟨g, cap, cur', rfl, _, hg, _⟩
  · simp [Value.ownBlock] at hv
  · simp only [Value.ownBlock, Option.some.injEq] at hv
    subst hv
    exact ⟨_, _, hg⟩
/-- What Deeds has made. -/
structure DsM (w : World) (vo : Value) (ds : List DRow) (W : World) : Prop where
  owns : W.ownsRow w.heap.size 36 1 vo ds.length (ds.map DRow.cell)
  rows : ∀ d ∈ ds, d.Ok W
  old : Below w.heap.size w W
theorem DsM.start (w : World) : DsM w (.slice none 0 0) [] w := ⟨⟨rfl, Or.inl ⟨rfl, rfl⟩⟩, fun h hh => (by cases hh), Below.refl _ _⟩
theorem DsM.below {w W W' : World} {vo : Value} {ds : List DRow} (h : DsM w vo ds W) (hb : Below W.heap.size W W') : DsM w vo ds W' := ⟨owns_below h.owns hb, fun d hd => (h.rows d hd).below hb, below_more h.old hb (Nat.le_refl _)⟩
theorem DsM.alloc {w W : World} {vo : Value} {ds : List DRow} (h : DsM w vo ds W) (o : Obj) : DsM w vo ds (W.alloc o) := h.below (below_alloc W o)
theorem DsM.grow {w W W' : World} {vo : Value} {ds : List DRow} (h : DsM w vo ds W) {vo' : Value} {x : DRow} (ho : W'.ownsRow w.heap.size 36 1 vo' (ds.length + 1) (ds.map DRow.cell ++ [x.cell])) (hg : W.grownBy W' vo.ownBlock) (hx : x.Ok W) : DsM w vo' (ds ++ [x]) W' := by
  have hr := own_typed' h.owns
  refine ⟨by rw [List.length_append, List.map_append]; exact ho, ?_, h.old.grown hg h.old.size (fun k hk => (h.owns.lt k hk).1)⟩
  intro y hy
  have hyo : y.Ok W := by
    rcases List.mem_append.1 hy with hy | hy
    · exact h.rows y hy
    · rw [List.mem_singleton.1 hy]; exact hx
  exact ⟨⟨hyo.ops.sl.grownT hyo.t hg hr (by decide)⟩, hyo.t.grown hg hr (by decide)⟩
/-- A deed's box, and its operations so far. -/
structure GD (w : World) (vo : Value) (os : List POp) (W : World) : Prop where
  box : W.heap[w.heap.size]? = some (.cells #[vo] 36 (0, 0))
  owns : W.ownsRow (w.heap.size + 1) 54 4 vo os.length (os.flatMap opCells)
  old : Below w.heap.size w W
section
variable {w W W' : World} {vo : Value} {os : List POp}
theorem GD.start (w : World) : GD w (.slice none 0 0) [] (w.alloc (.cells #[.slice none 0 0] 36)) := ⟨heap_new1 w _, ⟨rfl, Or.inl ⟨rfl, rfl⟩⟩, below_alloc w _⟩
theorem GD.size (h : GD w vo os W) : w.heap.size < W.heap.size := heap_lt h.box
theorem GD.below (h : GD w vo os W) (hb : Below W.heap.size W W') : GD w vo os W' := ⟨(hb.block _ (heap_lt h.box)).trans h.box, owns_below h.owns hb, below_more h.old hb (Nat.le_refl _)⟩
theorem GD.alloc (h : GD w vo os W) (o : Obj) : GD w vo os (W.alloc o) := h.below (below_alloc W o)
theorem GD.drew (h : GD w vo os W) : GD w vo os W.drew := h.below (Below.refl _ _).drew
theorem GD.set0 {A : Value} {T : Value} (h : W.heap[w.heap.size]? = some (.cells #[A] 36 (0, 0)) ∧ W.ownsRow (w.heap.size + 1) 54 4 T os.length (os.flatMap opCells) ∧ Below w.heap.size w W) : GD w T os (W.setCell ⟨w.heap.size, 0, none⟩ T) :=
  ⟨heap_set_same h.1 T, owns_set h.2.1 (owns_far h.2.1 (by omega)) T, h.2.2.setCell (Nat.le_refl _) T⟩
/-- Behind the append, ahead of the store. -/
structure GA (w : World) (vd vo : Value) (os : List POp) (W : World) : Prop where
  box : W.heap[w.heap.size]? = some (.cells #[vd] 36 (0, 0))
  owns : W.ownsRow (w.heap.size + 1) 54 4 vo os.length (os.flatMap opCells)
  old : Below w.heap.size w W
theorem GA.size {vd : Value} (h : GA w vd vo os W) : w.heap.size < W.heap.size := heap_lt h.box
theorem GA.set0 {vd : Value} (h : GA w vd vo os W) (v : Value) (hv : v = vo) : GD w vo os (W.setCell ⟨w.heap.size, 0, none⟩ v) := by subst hv; exact GD.set0 ⟨h.box, h.owns, h.old⟩
theorem GD.grow (h : GD w vo os W) {vo' : Value} {os' : List POp} (ho : W'.ownsRow (w.heap.size + 1) 54 4 vo' os'.length (os'.flatMap opCells)) (hg : W.grownBy W' vo.ownBlock) : GA w vo vo' os' W' :=
  ⟨grown_heap hg h.box (owns_far h.owns (by omega)), ho, h.old.grown hg (by have := h.size; omega) (fun k hk => by have := (h.owns.lt k hk).1; omega)⟩
end
theorem GD.setFar {w W : World} {vo : Value} {os : List POp} (h : GD w vo os W) {K : Nat} (hK : w.heap.size < K) (hne : vo.ownBlock ≠ some K) (o : Nat) (v : Value) : GD w vo os (W.setCell ⟨K, o, none⟩ v) :=
  ⟨by rw [heap_set_other (by omega)]; exact h.box, owns_set h.owns hne v, h.old.setCell (by simp; omega) v⟩
theorem GD.fresh {w W : World} {vo : Value} {os : List POp} (h : GD w vo os W) {K : Nat} (hK : W.heap.size ≤ K) : vo.ownBlock ≠ some K := fun e => by have := (h.owns.lt K e).2; omega
/-- The operation that is being made: its block, and all that lies besides. -/
def OpIn (w : World) (vd : Value) (os : List POp) (o : Value) (cs : Array Value) (W : World) : Prop :=
  ∃ K, o = .pointer (some ⟨K, 0, none⟩) ∧ w.heap.size < K ∧ vd.ownBlock ≠ some K ∧ W.heap[K]? = some (.cells cs 54 (0, 0)) ∧ GD w vd os W
theorem OpIn.new {w W : World} {vd : Value} {os : List POp} (h : GD w vd os W) (cs : Array Value) : OpIn w vd os (.pointer (some ⟨W.heap.size, 0, none⟩)) cs (W.alloc (.cells cs 54)) :=
  ⟨_, rfl, h.size, h.fresh (Nat.le_refl _), heap_new1 W _, h.alloc _⟩
theorem OpIn.old {w W : World} {vd : Value} {os : List POp} (h : GD w vd os W) {K : Nat} (hK : w.heap.size < K) (hne : vd.ownBlock ≠ some K) {a b c d : Value} (hk : W.heap[K]? = some (.cells #[a, b, c, d] 54 (0, 0))) (v0 v1 v2 v3 : Value) :
    OpIn w vd os (.pointer (some ⟨K, 0, none⟩)) #[v0, v1, v2, v3] ((((W.setCell ⟨K, 0, none⟩ v0).setCell ⟨K, 1, none⟩ v1).setCell ⟨K, 2, none⟩ v2).setCell ⟨K, 3, none⟩ v3) :=
  ⟨K, rfl, hK, hne, heap_set_same (heap_set_same (heap_set_same (heap_set_same hk v0) v1) v2) v3, (((h.setFar hK hne 0 v0).setFar hK hne 1 v1).setFar hK hne 2 v2).setFar hK hne 3 v3⟩
theorem infoD : (Tryd.prog.info? 36).map (fun i => (i.zero, i.size, i.bytes)) = some (some (.agg #[.slice none 0 0]), 1, 24) := by kernel_rfl
theorem gOp_plain {a b d : Int} (h1 : ¬ within a 5 = 2) (h2 : ¬ within a 5 = 4) : gOp a b d = ⟨1 + within a 5, keyOf b, ⟨#[]⟩, within d 9⟩ := by rw [gOp, if_neg (by omega)]; rfl
theorem gOp_two {a b d : Int} (h : within a 5 = 2 ∨ within a 5 = 4) : gOp a b d = ⟨1 + within a 5, keyOf b, gSrc b d, within d 9⟩ := by rw [gOp, if_pos h]
theorem gSrc_same {b d : Int} (h : keyOf (IntKind.i64.wrap (IntKind.i64.wrap (b + 1) + within d 7)) = keyOf b) : gSrc b d = ⟨#[113]⟩ := by rw [gSrc, if_pos h]; rfl
theorem gSrc_diff {b d : Int} (h : ¬ keyOf (IntKind.i64.wrap (IntKind.i64.wrap (b + 1) + within d 7)) = keyOf b) : gSrc b d = keyOf (IntKind.i64.wrap (IntKind.i64.wrap (b + 1) + within d 7)) := by rw [gSrc, if_neg h]

attribute [local go_sem ↓] Go.wp_at_zero Go.wp_at_succ
set_option maxHeartbeats 8000000 in
set_option maxRecDepth 100000 in
theorem deeds_any (ao : Option Addr) (n c most : Nat) (rs : List IRow) (w : World) (h : RowsAt w ao n c rs) (hn : n ≤ 1099511627) (hr : ∀ r ∈ rs, r.n ≤ 1099511627) (hm : most ≤ 1000) :
    Calls Tryd.prog 61 #[.slice ao n c, .int .i64 most] w fun e w' => ∃ vo ds, e = .returned vo ∧ DsM w vo ds w' ∧ ds.map DRow.l = gDeeds ((rs.take most).map IRow.l) := by
  obtain ⟨i0, hi0, hz0, hs0, hb0⟩ := info_parts infoOp
  obtain ⟨i1, hi1, hz1, hs1, hb1⟩ := info_parts infoD
  have hl := h.n
  obtain ⟨N, hN⟩ : ∃ N, min n most = N := ⟨_, rfl⟩
  have hNn : N ≤ n := by omega
  have hNm : N ≤ most := by omega
  have hNi : (N : Int) ≤ n := by omega
  have hmin : min (n : Int) (most : Int) = (N : Int) := by omega
  have hcN : (N : Int) ≤ (c : Int) := by have := h.sl.le; omega
  have hcN' : N ≤ c := by have := h.sl.le; omega
  have hN0 : (0 : Int) ≤ (N : Int) := by omega
  have htk : rs.take most = rs.take N := by
    rw [← hN, ← hl]
    by_cases hle : rs.length ≤ most
    · rw [List.take_of_length_le hle, Nat.min_eq_left hle, List.take_length]
    · rw [Nat.min_eq_right (by omega)]
  rw [htk]
  have H := Lib.hid h; clear h
  have HL := Lib.hid hl; clear hl
  have HRL := Lib.hid hr; clear hr
  have HNN := Lib.hid hN; clear hN htk
  have HSM := Lib.hid (DsM.start w)
  go_enter Tryd.func61, Tryd.ntmps61
  go_wp2_with fail
  go_loopw [5, 18] (fun t i wr => ∃ k : Nat, k ≤ N ∧ i = .int .i64 k ∧ ∃ ds, DsM w t ds wr ∧ ds.map DRow.l = gDeeds (((rs.take N).map IRow.l).take k) ∧ ds.length ≤ k) (fun _ i _ => N - (intOf i).toNat)
  case atStart => exact ⟨0, Nat.zero_le _, rfl, [], HSM.out, rfl, Nat.le_refl _⟩
  case round =>
    obtain ⟨kk, hkk, rfl, ds, hdm, hds, hdl⟩ := hrel
    have HDM := Lib.hid hdm; clear hdm
    have HDS := Lib.hid hds; clear hds
    have HDL := Lib.hid hdl; clear hdl
    obtain ⟨wo, hwo⟩ : ∃ wo : World, wo = wr := ⟨_, rfl⟩
    obtain rfl := hwo
    by_cases hkN : kk < N
    · obtain ⟨ab, aoff, r, hao, _, hrk, hro, hrc⟩ := (H.out.below HDM.out.old).row kk (by omega)
      subst hao
      obtain ⟨ra, rn, rcc, rl⟩ := r
      simp only at hrc
      have hrn : rn ≤ 1099511627 := HRL.out _ (List.mem_of_getElem? hrk)
      have hrl : rl.length = rn := by have := Sl.len hro; simpa using this
      have HRK := Lib.hid hrk; clear hrk
      have HRO := Lib.hid (show Sl wo 1 ra rn rcc (rl.map (.int .i64)) from hro); clear hro
      have HRLN := Lib.hid hrl; clear hrl
      have HGS := Lib.hid (GD.start wo)
      have hnx : gDeeds (((rs.take N).map IRow.l).take (kk + 1)) = gDeeds (((rs.take N).map IRow.l).take kk) ++ (if gDeed rl = [] then [] else [gDeed rl]) := by
        have hlt : kk < ((rs.take N).map IRow.l).length := by simp; have := HL.out; omega
        rw [gDeeds_take _ kk hlt]
        have : ((rs.take N).map IRow.l)[kk] = rl := by
          have h1 := HRK.out
          have h2 : (rs.take N)[kk]? = some ⟨ra, rn, rcc, rl⟩ := by rw [List.getElem?_take, if_pos hkN]; exact h1
          simp only [List.getElem_map]
          rw [List.getElem?_eq_getElem (by simp; have := HL.out; omega)] at h2
          rw [Option.some.inj h2]
        rw [this]
      have HNX := Lib.hid hnx; clear hnx
      go_wp2_with fail
      generalize hwi : wo.alloc (.cells #[.slice none 0 0] 36) = wi at HGS ⊢
      clear hwi
      go_loopw [9] (fun i wr => ∃ k : Nat, k ≤ gLen rl ∧ i = .int .i64 ((3 * k : Nat) : Int) ∧ ∃ vo, GD wo vo (gDeedTo rl k) wr) (fun i _ => rn + 3 - (intOf i).toNat)
      case atStart => exact ⟨0, Nat.zero_le _, rfl, _, HGS.out⟩
      case round =>
        obtain ⟨k, hk, rfl, vd, hgd⟩ := hrel
        obtain ⟨os, hos⟩ : ∃ os, gDeedTo rl k = os := ⟨_, rfl⟩
        have hlk : os.length = k := by rw [← hos]; exact gDeedTo_len rl k
        rw [hos] at hgd
        obtain ⟨a2, c2, hvd, hsl2⟩ := Sl.of_owns hgd.owns
        subst hvd
        obtain ⟨p, hp⟩ : ∃ p, 3 * k = p := ⟨_, rfl⟩
        rw [hp]
        have hpb : p ≤ 12 := by rw [← hp]; unfold gLen at hk; omega
        have HP := Lib.hid hp; clear hp
        have HOS := Lib.hid hos; clear hos
        have HLK := Lib.hid hlk; clear hlk
        have HGD := Lib.hid hgd; clear hgd
        have c0 : wr.cell? ⟨wo.heap.size, 0, none⟩ = some (.slice a2 os.length c2) := heap_cell HGD.out.box 0
        clear hrc
        by_cases hkg : k < gLen rl
        · have hp2 : p + 2 < rn := by have h1 := HP.out; have h2 := HRLN.out; unfold gLen at hkg; omega
          have hp2' : (p : Int) + 2 < (rn : Int) := by omega
          have hp0' : (p : Int) < (rn : Int) := by omega
          have hp1' : (p : Int) + 1 < (rn : Int) := by omega
          have hpn : (0 : Int) ≤ (p : Int) := by omega
          have hk4 : os.length < 4 := by rw [HLK.out]; unfold gLen at hkg; omega
          have hk4' : (os.length : Int) < 4 := by omega
          obtain ⟨rb, roff, hra, hcells⟩ := Sl.int' HRO.out (by omega)
          subst hra
          obtain ⟨x, hx⟩ : ∃ x, rl.getD p 0 = x := ⟨_, rfl⟩
          obtain ⟨y, hy⟩ : ∃ y, rl.getD (p + 1) 0 = y := ⟨_, rfl⟩
          obtain ⟨z, hz⟩ : ∃ z, rl.getD (p + 2) 0 = z := ⟨_, rfl⟩
          have HRC := Lib.hid (show ∀ W : World, Below wo.heap.size wo W → (W.cell? ⟨rb, roff + p, none⟩ = some (.int .i64 x) ∧ W.cell? ⟨rb, roff + (p + 1), none⟩ = some (.int .i64 y) ∧ W.cell? ⟨rb, roff + (p + 2), none⟩ = some (.int .i64 z)) from fun W hb => by
            obtain ⟨b', o', e1, hc'⟩ := Sl.int' (HRO.out.below hb) (by omega)
            cases e1
            have hl := HRLN.out
            exact ⟨by rw [hc' p (by omega), hx], by rw [hc' (p + 1) (by omega), hy], by rw [hc' (p + 2) (by omega), hz]⟩)
          have HXD := Lib.hid (show rl.getD (3 * k) 0 = x by rw [HP.out]; exact hx)
          have HYD := Lib.hid (show rl.getD (3 * k + 1) 0 = y by rw [HP.out]; exact hy)
          have HZD := Lib.hid (show rl.getD (3 * k + 2) 0 = z by rw [HP.out]; exact hz)
          clear hx hy hz hcells
          obtain ⟨s0, s1, s2⟩ := HRC.out wr HGD.out.old
          have hw1 := within_lo x 5
          have hw2 := within_hi x 5 (by omega)
          have hw3 := within_lo z 9
          have hw4 := within_hi z 9 (by omega)
          go_upto_region 9 with fail
          go_cut [10] (fun o wc => OpIn wo (.slice a2 os.length c2) os o #[.int .i64 (1 + within x 5), .string (keyOf y), .string ⟨#[]⟩, .int .i64 (within z 9)] wc)
          case first =>
            have HG3 := HGD
            have hwr2 : ((p : Int) + 1).toNat = p + 1 := by omega
            have hwr3 : ((p : Int) + 2).toNat = p + 2 := by omega
            have hwr6 : (0 : Int) ≤ (p : Int) + 1 := by omega
            have hwr7 : (0 : Int) ≤ (p : Int) + 2 := by omega
            have hwr8 : IntKind.i64.wrap (1 + within x 5) = 1 + within x 5 := IntWalk.i64_in _ (by omega)
            have hne1 := World.new_ne wr ⟨rb, roff + p, none⟩ s0
            have hwr4 : IntKind.i64.wrap ((p : Int) + 1) = (p : Int) + 1 := IntWalk.i64_in _ (by omega)
            have hwr5 : IntKind.i64.wrap ((p : Int) + 2) = (p : Int) + 2 := IntWalk.i64_in _ (by omega)
            go_region_held3 (fun W => W.cell? ⟨rb, roff + p, none⟩ = some (.int .i64 x) ∧ W.cell? ⟨rb, roff + (p + 1), none⟩ = some (.int .i64 y) ∧ W.cell? ⟨rb, roff + (p + 2), none⟩ = some (.int .i64 z)) (go_keep) ((first | (go_at_call_of 34 (Value.int .i64 5); refine (within_any x 5 _ (by omega) (by omega)).mono ?_; rintro e w7 ⟨rfl, rfl⟩) | (go_at_call 86; refine (keyOf_any y _).mono ?_; rintro e w3 ⟨rfl, hbb⟩; have HG3 := Lib.hid (show GD wo (.slice a2 os.length c2) os w3 from by first | exact (HG3.out.drew).below hbb | exact ((HG3.out.alloc _).drew).below hbb); have hs3 := HRC.out w3 HG3.out.old; obtain ⟨s0, s1, s2⟩ := hs3; try (have kq : w3.heap[wr.heap.size]? = some (.cells #[.int .i64 0, .string ⟨#[]⟩, .string ⟨#[]⟩, .int .i64 0] 54 (0, 0)) := (hbb.block _ (by simp)).trans (heap_new1 wr _); have k0 := heap_cell kq 0; have k1 := heap_cell kq 1; have k2 := heap_cell kq 2; have k3 := heap_cell kq 3; have j0 := heap_free kq 0; have j1 := heap_free kq 1; have j2 := heap_free kq 2; have j3 := heap_free kq 3; have KQ := Lib.hid kq; clear kq); clear hbb) | (go_at_call_of 34 (Value.int .i64 9); refine (within_any z 9 _ (by omega) (by omega)).mono ?_; rintro e w7 ⟨rfl, rfl⟩)))
            all_goals (go_wp2_with fail; go_meet; first | exact OpIn.new HG3.out _ | exact OpIn.old HG3.out HGD.out.size (HGD.out.fresh (Nat.le_refl _)) KQ.out _ _ _ _)
          case rest =>
            obtain ⟨KO, rfl, hKO, hKne, hKh, hG⟩ := hcut
            have HKO := Lib.hid hKh; clear hKh
            have HG4 := Lib.hid hG; clear hG
            clear c0 s0 s1 s2
            have hrbw : rb < wo.heap.size := World.block_lt_of_cell? _ _ (HRC.out wo (Below.refl _ _)).1
            have hne2 : KO ≠ rb := by omega
            obtain ⟨s0, s1, s2⟩ := HRC.out wc HG4.out.old
            have o0 : wc.cell? ⟨KO, 0, none⟩ = some (.int .i64 (1 + within x 5)) := heap_cell HKO.out 0
            have o1 : wc.cell? ⟨KO, 1, none⟩ = some (.string (keyOf y)) := heap_cell HKO.out 1
            have o2 : wc.cell? ⟨KO, 2, none⟩ = some (.string ⟨#[]⟩) := heap_cell HKO.out 2
            have o3 : wc.cell? ⟨KO, 3, none⟩ = some (.int .i64 (within z 9)) := heap_cell HKO.out 3
            have e2 : wc.frozen? ⟨KO, 2, none⟩ = false := heap_free HKO.out 2
            have c0 : wc.cell? ⟨wo.heap.size, 0, none⟩ = some (.slice a2 os.length c2) := heap_cell HG4.out.box 0
            have hzo : KO < wc.heap.size := heap_lt HKO.out
            by_cases h2 : within x 5 = 2
            · have HKK := Lib.hid (show within x 5 = 2 ∨ within x 5 = 4 from .inl h2)
              have hk3 : (1 + within x 5 == 3) = true := by rw [h2]; rfl
              clear h2
              have hwr2 : ((p : Int) + 1).toNat = p + 1 := by omega
              have hwr3 : ((p : Int) + 2).toNat = p + 2 := by omega
              have hwr6 : (0 : Int) ≤ (p : Int) + 1 := by omega
              have hwr7 : (0 : Int) ≤ (p : Int) + 2 := by omega
              obtain ⟨sv, hsv⟩ : ∃ sv, keyOf (IntKind.i64.wrap (IntKind.i64.wrap (y + 1) + within z 7)) = sv := ⟨_, rfl⟩
              have HSV := Lib.hid hsv; clear hsv
              go_wp2_with fail
              have hwr4 : IntKind.i64.wrap ((p : Int) + 1) = (p : Int) + 1 := IntWalk.i64_in _ (by omega)
              have hwr5 : IntKind.i64.wrap ((p : Int) + 2) = (p : Int) + 2 := IntWalk.i64_in _ (by omega)
              go_region_held3 (fun W => W.cell? ⟨rb, roff + (p + 1), none⟩ = some (.int .i64 y) ∧ W.cell? ⟨rb, roff + (p + 2), none⟩ = some (.int .i64 z)) (go_keep) ((first | (go_at_call 34; refine (within_any z 7 _ (by omega) (by omega)).mono ?_; rintro e w7 ⟨rfl, rfl⟩) | (go_at_call 86; refine (keyOf_any _ _).mono ?_; rintro e w6 ⟨rfl, hbb⟩; rw [HSV.out]; have HG4 := Lib.hid ((HG4.out.drew).below hbb); have HKO := Lib.hid ((hbb.block KO (heap_lt HKO.out)).trans HKO.out); obtain ⟨_, s1, s2⟩ := HRC.out w6 HG4.out.old; have k2 : w6.cell? ⟨KO, 2, none⟩ = some (.string ⟨#[]⟩) := heap_cell HKO.out 2; have j2 : w6.frozen? ⟨KO, 2, none⟩ = false := heap_free HKO.out 2; clear hbb)))
              clear hwr2 hwr3 hwr4 hwr5 hwr6 hwr7 s0 s1 s2 o0 o1 o2 o3 e2 c0 hzo k2 j2
              have HG4 := Lib.hid (HG4.out.setFar hKO hKne 2 (.string sv))
              have HKO := Lib.hid (heap_set_same HKO.out (o := 2) (.string sv))
              generalize hW4 : w6.setCell ⟨KO, 2, none⟩ (.string sv) = w4 at HG4 HKO ⊢
              clear hW4
              by_cases hsk : sv = keyOf y
              · have hskb : (sv.toList == (keyOf y).toList) = true := eqb_yes (by rw [hsk])
                have HGO := Lib.hid (show gOp x y z = ⟨1 + within x 5, keyOf y, ⟨#[113]⟩, within z 9⟩ by rw [gOp_two HKK.out, gSrc_same (HSV.out.trans hsk)])
                clear hsk
                have o0 : w4.cell? ⟨KO, 0, none⟩ = some (.int .i64 (1 + within x 5)) := heap_cell HKO.out 0
                have o1 : w4.cell? ⟨KO, 1, none⟩ = some (.string (keyOf y)) := heap_cell HKO.out 1
                have o2 : w4.cell? ⟨KO, 2, none⟩ = some (.string sv) := heap_cell HKO.out 2
                have o3 : w4.cell? ⟨KO, 3, none⟩ = some (.int .i64 (within z 9)) := heap_cell HKO.out 3
                have e2 : w4.frozen? ⟨KO, 2, none⟩ = false := heap_free HKO.out 2
                have c0 : w4.cell? ⟨wo.heap.size, 0, none⟩ = some (.slice a2 os.length c2) := heap_cell HG4.out.box 0
                have hzo : KO < w4.heap.size := heap_lt HKO.out
                go_upto_region 14 with fail
                clear o0 o1 o2 o3 e2 c0 hzo
                have HG4 := Lib.hid (HG4.out.setFar hKO hKne 2 (.string ⟨#[113]⟩))
                have HKO := Lib.hid (heap_set_same HKO.out (o := 2) (.string ⟨#[113]⟩))
                generalize hW4 : w4.setCell ⟨KO, 2, none⟩ (.string ⟨#[113]⟩) = w4 at HG4 HKO ⊢
                clear hW4
                have o0 : w4.cell? ⟨KO, 0, none⟩ = some (.int .i64 (1 + within x 5)) := heap_cell HKO.out 0
                have o1 : w4.cell? ⟨KO, 1, none⟩ = some (.string (keyOf y)) := heap_cell HKO.out 1
                have o2 : w4.cell? ⟨KO, 2, none⟩ = some (.string ⟨#[113]⟩) := heap_cell HKO.out 2
                have o3 : w4.cell? ⟨KO, 3, none⟩ = some (.int .i64 (within z 9)) := heap_cell HKO.out 3
                have e2 : w4.frozen? ⟨KO, 2, none⟩ = false := heap_free HKO.out 2
                have c0 : w4.cell? ⟨wo.heap.size, 0, none⟩ = some (.slice a2 os.length c2) := heap_cell HG4.out.box 0
                have hzo : KO < w4.heap.size := heap_lt HKO.out
                go_wp2_with (at_builtin; refine wpList_append_lies _ (by rfl) _ _ 34 (by rfl) (wo.heap.size + 1) 54 i0 _ 4 48 Tryd.underlying34 hi0 hz0 hs0 hb0 rfl (by omega) (.slice a2 os.length c2) _ _ (by rfl) (HG4.out.alloc (.cells #[.int .i64 (1 + within x 5), .string (keyOf y), .string ⟨#[113]⟩, .int .i64 (within z 9)] 54)).owns ⟨w4.heap.size, 0, none⟩ 1 1 #[.int .i64 (1 + within x 5), .string (keyOf y), .string ⟨#[113]⟩, .int .i64 (within z 9)].toList (by rfl) (by rfl) (World.news_of_block (cs := #[.int .i64 (1 + within x 5), .string (keyOf y), .string ⟨#[113]⟩, .int .i64 (within z 9)]) (t := 54) (fr := (0, 0)) (heap_new rfl _)) (by simp [Value.oneCell']) (by omega) (by unfold maxLen; omega) (by omega) (by have h1 := HG4.out.size; simp; omega) (w4.heap.size + 1) (by simp) ?_; intro g cap w5 hown5 hgrow5 hat5 hlt5; have M5 := Lib.hid ((HG4.out.alloc (.cells #[.int .i64 (1 + within x 5), .string (keyOf y), .string ⟨#[113]⟩, .int .i64 (within z 9)] 54)).grow (os' := os ++ [⟨1 + within x 5, keyOf y, ⟨#[113]⟩, within z 9⟩]) (own_snoc hown5 rfl) hgrow5); have C0 : w5.cell? ⟨wo.heap.size, 0, none⟩ = some (.slice a2 os.length c2) := heap_cell M5.out.box 0; have F0 : w5.frozen? ⟨wo.heap.size, 0, none⟩ = false := heap_free M5.out.box 0; have hz5 := M5.out.size; clear hown5 hgrow5 hat5)
                have HZ := Lib.hid (M5.out.set0 (.slice (some ⟨g, 0, none⟩) (os.length + 1) cap) rfl)
                go_roundw
                case rel => exact ⟨k + 1, by omega, by rw [show 3 * (k + 1) = p + 3 from by have := HP.out; omega]; go_num, _, by rw [gDeedTo, HOS.out, HXD.out, HYD.out, HZD.out, HGO.out]; exact HZ.out⟩
                case measure => simp [intOf]; omega
              · have hskb : (sv.toList == (keyOf y).toList) = false := eqb_no (fun h => hsk (str_eq h))
                have HGO := Lib.hid (show gOp x y z = ⟨1 + within x 5, keyOf y, sv, within z 9⟩ by rw [gOp_two HKK.out, gSrc_diff (fun h => hsk (HSV.out.symm.trans h)), HSV.out])
                clear hsk
                have o0 : w4.cell? ⟨KO, 0, none⟩ = some (.int .i64 (1 + within x 5)) := heap_cell HKO.out 0
                have o1 : w4.cell? ⟨KO, 1, none⟩ = some (.string (keyOf y)) := heap_cell HKO.out 1
                have o2 : w4.cell? ⟨KO, 2, none⟩ = some (.string sv) := heap_cell HKO.out 2
                have o3 : w4.cell? ⟨KO, 3, none⟩ = some (.int .i64 (within z 9)) := heap_cell HKO.out 3
                have e2 : w4.frozen? ⟨KO, 2, none⟩ = false := heap_free HKO.out 2
                have c0 : w4.cell? ⟨wo.heap.size, 0, none⟩ = some (.slice a2 os.length c2) := heap_cell HG4.out.box 0
                have hzo : KO < w4.heap.size := heap_lt HKO.out
                go_wp2_with (at_builtin; refine wpList_append_lies _ (by rfl) _ _ 34 (by rfl) (wo.heap.size + 1) 54 i0 _ 4 48 Tryd.underlying34 hi0 hz0 hs0 hb0 rfl (by omega) (.slice a2 os.length c2) _ _ (by rfl) (HG4.out.alloc (.cells #[.int .i64 (1 + within x 5), .string (keyOf y), .string sv, .int .i64 (within z 9)] 54)).owns ⟨w4.heap.size, 0, none⟩ 1 1 #[.int .i64 (1 + within x 5), .string (keyOf y), .string sv, .int .i64 (within z 9)].toList (by rfl) (by rfl) (World.news_of_block (cs := #[.int .i64 (1 + within x 5), .string (keyOf y), .string sv, .int .i64 (within z 9)]) (t := 54) (fr := (0, 0)) (heap_new rfl _)) (by simp [Value.oneCell']) (by omega) (by unfold maxLen; omega) (by omega) (by have h1 := HG4.out.size; simp; omega) (w4.heap.size + 1) (by simp) ?_; intro g cap w5 hown5 hgrow5 hat5 hlt5; have M5 := Lib.hid ((HG4.out.alloc (.cells #[.int .i64 (1 + within x 5), .string (keyOf y), .string sv, .int .i64 (within z 9)] 54)).grow (os' := os ++ [⟨1 + within x 5, keyOf y, sv, within z 9⟩]) (own_snoc hown5 rfl) hgrow5); have C0 : w5.cell? ⟨wo.heap.size, 0, none⟩ = some (.slice a2 os.length c2) := heap_cell M5.out.box 0; have F0 : w5.frozen? ⟨wo.heap.size, 0, none⟩ = false := heap_free M5.out.box 0; have hz5 := M5.out.size; clear hown5 hgrow5 hat5)
                have HZ := Lib.hid (M5.out.set0 (.slice (some ⟨g, 0, none⟩) (os.length + 1) cap) rfl)
                go_roundw
                case rel => exact ⟨k + 1, by omega, by rw [show 3 * (k + 1) = p + 3 from by have := HP.out; omega]; go_num, _, by rw [gDeedTo, HOS.out, HXD.out, HYD.out, HZD.out, HGO.out]; exact HZ.out⟩
                case measure => simp [intOf]; omega
            · have hk3 : (1 + within x 5 == 3) = false := by simp; omega
              by_cases h4 : within x 5 = 4
              · have HKK := Lib.hid (show within x 5 = 2 ∨ within x 5 = 4 from .inr h4)
                have hk5 : (1 + within x 5 == 5) = true := by rw [h4]; rfl
                clear h2 h4
                have hwr2 : ((p : Int) + 1).toNat = p + 1 := by omega
                have hwr3 : ((p : Int) + 2).toNat = p + 2 := by omega
                have hwr6 : (0 : Int) ≤ (p : Int) + 1 := by omega
                have hwr7 : (0 : Int) ≤ (p : Int) + 2 := by omega
                obtain ⟨sv, hsv⟩ : ∃ sv, keyOf (IntKind.i64.wrap (IntKind.i64.wrap (y + 1) + within z 7)) = sv := ⟨_, rfl⟩
                have HSV := Lib.hid hsv; clear hsv
                go_wp2_with fail
                have hwr4 : IntKind.i64.wrap ((p : Int) + 1) = (p : Int) + 1 := IntWalk.i64_in _ (by omega)
                have hwr5 : IntKind.i64.wrap ((p : Int) + 2) = (p : Int) + 2 := IntWalk.i64_in _ (by omega)
                go_region_held3 (fun W => W.cell? ⟨rb, roff + (p + 1), none⟩ = some (.int .i64 y) ∧ W.cell? ⟨rb, roff + (p + 2), none⟩ = some (.int .i64 z)) (go_keep) ((first | (go_at_call 34; refine (within_any z 7 _ (by omega) (by omega)).mono ?_; rintro e w7 ⟨rfl, rfl⟩) | (go_at_call 86; refine (keyOf_any _ _).mono ?_; rintro e w6 ⟨rfl, hbb⟩; rw [HSV.out]; have HG4 := Lib.hid ((HG4.out.drew).below hbb); have HKO := Lib.hid ((hbb.block KO (heap_lt HKO.out)).trans HKO.out); obtain ⟨_, s1, s2⟩ := HRC.out w6 HG4.out.old; have k2 : w6.cell? ⟨KO, 2, none⟩ = some (.string ⟨#[]⟩) := heap_cell HKO.out 2; have j2 : w6.frozen? ⟨KO, 2, none⟩ = false := heap_free HKO.out 2; clear hbb)))
                clear hwr2 hwr3 hwr4 hwr5 hwr6 hwr7 s0 s1 s2 o0 o1 o2 o3 e2 c0 hzo k2 j2
                have HG4 := Lib.hid (HG4.out.setFar hKO hKne 2 (.string sv))
                have HKO := Lib.hid (heap_set_same HKO.out (o := 2) (.string sv))
                generalize hW4 : w6.setCell ⟨KO, 2, none⟩ (.string sv) = w4 at HG4 HKO ⊢
                clear hW4
                by_cases hsk : sv = keyOf y
                · have hskb : (sv.toList == (keyOf y).toList) = true := eqb_yes (by rw [hsk])
                  have HGO := Lib.hid (show gOp x y z = ⟨1 + within x 5, keyOf y, ⟨#[113]⟩, within z 9⟩ by rw [gOp_two HKK.out, gSrc_same (HSV.out.trans hsk)])
                  clear hsk
                  have o0 : w4.cell? ⟨KO, 0, none⟩ = some (.int .i64 (1 + within x 5)) := heap_cell HKO.out 0
                  have o1 : w4.cell? ⟨KO, 1, none⟩ = some (.string (keyOf y)) := heap_cell HKO.out 1
                  have o2 : w4.cell? ⟨KO, 2, none⟩ = some (.string sv) := heap_cell HKO.out 2
                  have o3 : w4.cell? ⟨KO, 3, none⟩ = some (.int .i64 (within z 9)) := heap_cell HKO.out 3
                  have e2 : w4.frozen? ⟨KO, 2, none⟩ = false := heap_free HKO.out 2
                  have c0 : w4.cell? ⟨wo.heap.size, 0, none⟩ = some (.slice a2 os.length c2) := heap_cell HG4.out.box 0
                  have hzo : KO < w4.heap.size := heap_lt HKO.out
                  go_upto_region 14 with fail
                  clear o0 o1 o2 o3 e2 c0 hzo
                  have HG4 := Lib.hid (HG4.out.setFar hKO hKne 2 (.string ⟨#[113]⟩))
                  have HKO := Lib.hid (heap_set_same HKO.out (o := 2) (.string ⟨#[113]⟩))
                  generalize hW4 : w4.setCell ⟨KO, 2, none⟩ (.string ⟨#[113]⟩) = w4 at HG4 HKO ⊢
                  clear hW4
                  have o0 : w4.cell? ⟨KO, 0, none⟩ = some (.int .i64 (1 + within x 5)) := heap_cell HKO.out 0
                  have o1 : w4.cell? ⟨KO, 1, none⟩ = some (.string (keyOf y)) := heap_cell HKO.out 1
                  have o2 : w4.cell? ⟨KO, 2, none⟩ = some (.string ⟨#[113]⟩) := heap_cell HKO.out 2
                  have o3 : w4.cell? ⟨KO, 3, none⟩ = some (.int .i64 (within z 9)) := heap_cell HKO.out 3
                  have e2 : w4.frozen? ⟨KO, 2, none⟩ = false := heap_free HKO.out 2
                  have c0 : w4.cell? ⟨wo.heap.size, 0, none⟩ = some (.slice a2 os.length c2) := heap_cell HG4.out.box 0
                  have hzo : KO < w4.heap.size := heap_lt HKO.out
                  go_wp2_with (at_builtin; refine wpList_append_lies _ (by rfl) _ _ 34 (by rfl) (wo.heap.size + 1) 54 i0 _ 4 48 Tryd.underlying34 hi0 hz0 hs0 hb0 rfl (by omega) (.slice a2 os.length c2) _ _ (by rfl) (HG4.out.alloc (.cells #[.int .i64 (1 + within x 5), .string (keyOf y), .string ⟨#[113]⟩, .int .i64 (within z 9)] 54)).owns ⟨w4.heap.size, 0, none⟩ 1 1 #[.int .i64 (1 + within x 5), .string (keyOf y), .string ⟨#[113]⟩, .int .i64 (within z 9)].toList (by rfl) (by rfl) (World.news_of_block (cs := #[.int .i64 (1 + within x 5), .string (keyOf y), .string ⟨#[113]⟩, .int .i64 (within z 9)]) (t := 54) (fr := (0, 0)) (heap_new rfl _)) (by simp [Value.oneCell']) (by omega) (by unfold maxLen; omega) (by omega) (by have h1 := HG4.out.size; simp; omega) (w4.heap.size + 1) (by simp) ?_; intro g cap w5 hown5 hgrow5 hat5 hlt5; have M5 := Lib.hid ((HG4.out.alloc (.cells #[.int .i64 (1 + within x 5), .string (keyOf y), .string ⟨#[113]⟩, .int .i64 (within z 9)] 54)).grow (os' := os ++ [⟨1 + within x 5, keyOf y, ⟨#[113]⟩, within z 9⟩]) (own_snoc hown5 rfl) hgrow5); have C0 : w5.cell? ⟨wo.heap.size, 0, none⟩ = some (.slice a2 os.length c2) := heap_cell M5.out.box 0; have F0 : w5.frozen? ⟨wo.heap.size, 0, none⟩ = false := heap_free M5.out.box 0; have hz5 := M5.out.size; clear hown5 hgrow5 hat5)
                  have HZ := Lib.hid (M5.out.set0 (.slice (some ⟨g, 0, none⟩) (os.length + 1) cap) rfl)
                  go_roundw
                  case rel => exact ⟨k + 1, by omega, by rw [show 3 * (k + 1) = p + 3 from by have := HP.out; omega]; go_num, _, by rw [gDeedTo, HOS.out, HXD.out, HYD.out, HZD.out, HGO.out]; exact HZ.out⟩
                  case measure => simp [intOf]; omega
                · have hskb : (sv.toList == (keyOf y).toList) = false := eqb_no (fun h => hsk (str_eq h))
                  have HGO := Lib.hid (show gOp x y z = ⟨1 + within x 5, keyOf y, sv, within z 9⟩ by rw [gOp_two HKK.out, gSrc_diff (fun h => hsk (HSV.out.symm.trans h)), HSV.out])
                  clear hsk
                  have o0 : w4.cell? ⟨KO, 0, none⟩ = some (.int .i64 (1 + within x 5)) := heap_cell HKO.out 0
                  have o1 : w4.cell? ⟨KO, 1, none⟩ = some (.string (keyOf y)) := heap_cell HKO.out 1
                  have o2 : w4.cell? ⟨KO, 2, none⟩ = some (.string sv) := heap_cell HKO.out 2
                  have o3 : w4.cell? ⟨KO, 3, none⟩ = some (.int .i64 (within z 9)) := heap_cell HKO.out 3
                  have e2 : w4.frozen? ⟨KO, 2, none⟩ = false := heap_free HKO.out 2
                  have c0 : w4.cell? ⟨wo.heap.size, 0, none⟩ = some (.slice a2 os.length c2) := heap_cell HG4.out.box 0
                  have hzo : KO < w4.heap.size := heap_lt HKO.out
                  go_wp2_with (at_builtin; refine wpList_append_lies _ (by rfl) _ _ 34 (by rfl) (wo.heap.size + 1) 54 i0 _ 4 48 Tryd.underlying34 hi0 hz0 hs0 hb0 rfl (by omega) (.slice a2 os.length c2) _ _ (by rfl) (HG4.out.alloc (.cells #[.int .i64 (1 + within x 5), .string (keyOf y), .string sv, .int .i64 (within z 9)] 54)).owns ⟨w4.heap.size, 0, none⟩ 1 1 #[.int .i64 (1 + within x 5), .string (keyOf y), .string sv, .int .i64 (within z 9)].toList (by rfl) (by rfl) (World.news_of_block (cs := #[.int .i64 (1 + within x 5), .string (keyOf y), .string sv, .int .i64 (within z 9)]) (t := 54) (fr := (0, 0)) (heap_new rfl _)) (by simp [Value.oneCell']) (by omega) (by unfold maxLen; omega) (by omega) (by have h1 := HG4.out.size; simp; omega) (w4.heap.size + 1) (by simp) ?_; intro g cap w5 hown5 hgrow5 hat5 hlt5; have M5 := Lib.hid ((HG4.out.alloc (.cells #[.int .i64 (1 + within x 5), .string (keyOf y), .string sv, .int .i64 (within z 9)] 54)).grow (os' := os ++ [⟨1 + within x 5, keyOf y, sv, within z 9⟩]) (own_snoc hown5 rfl) hgrow5); have C0 : w5.cell? ⟨wo.heap.size, 0, none⟩ = some (.slice a2 os.length c2) := heap_cell M5.out.box 0; have F0 : w5.frozen? ⟨wo.heap.size, 0, none⟩ = false := heap_free M5.out.box 0; have hz5 := M5.out.size; clear hown5 hgrow5 hat5)
                  have HZ := Lib.hid (M5.out.set0 (.slice (some ⟨g, 0, none⟩) (os.length + 1) cap) rfl)
                  go_roundw
                  case rel => exact ⟨k + 1, by omega, by rw [show 3 * (k + 1) = p + 3 from by have := HP.out; omega]; go_num, _, by rw [gDeedTo, HOS.out, HXD.out, HYD.out, HZD.out, HGO.out]; exact HZ.out⟩
                  case measure => simp [intOf]; omega
              · have hk5 : (1 + within x 5 == 5) = false := by simp; omega
                have HGO := Lib.hid (gOp_plain (a := x) (b := y) (d := z) h2 h4)
                clear h2 h4
                obtain ⟨w4, hw4⟩ : ∃ w4 : World, w4 = wc := ⟨_, rfl⟩
                obtain rfl := hw4
                go_wp2_with (at_builtin; refine wpList_append_lies _ (by rfl) _ _ 34 (by rfl) (wo.heap.size + 1) 54 i0 _ 4 48 Tryd.underlying34 hi0 hz0 hs0 hb0 rfl (by omega) (.slice a2 os.length c2) _ _ (by rfl) (HG4.out.alloc (.cells #[.int .i64 (1 + within x 5), .string (keyOf y), .string ⟨#[]⟩, .int .i64 (within z 9)] 54)).owns ⟨w4.heap.size, 0, none⟩ 1 1 #[.int .i64 (1 + within x 5), .string (keyOf y), .string ⟨#[]⟩, .int .i64 (within z 9)].toList (by rfl) (by rfl) (World.news_of_block (cs := #[.int .i64 (1 + within x 5), .string (keyOf y), .string ⟨#[]⟩, .int .i64 (within z 9)]) (t := 54) (fr := (0, 0)) (heap_new rfl _)) (by simp [Value.oneCell']) (by omega) (by unfold maxLen; omega) (by omega) (by have h1 := HG4.out.size; simp; omega) (w4.heap.size + 1) (by simp) ?_; intro g cap w5 hown5 hgrow5 hat5 hlt5; have M5 := Lib.hid ((HG4.out.alloc (.cells #[.int .i64 (1 + within x 5), .string (keyOf y), .string ⟨#[]⟩, .int .i64 (within z 9)] 54)).grow (os' := os ++ [⟨1 + within x 5, keyOf y, ⟨#[]⟩, within z 9⟩]) (own_snoc hown5 rfl) hgrow5); have C0 : w5.cell? ⟨wo.heap.size, 0, none⟩ = some (.slice a2 os.length c2) := heap_cell M5.out.box 0; have F0 : w5.frozen? ⟨wo.heap.size, 0, none⟩ = false := heap_free M5.out.box 0; have hz5 := M5.out.size; clear hown5 hgrow5 hat5)
                have HZ := Lib.hid (M5.out.set0 (.slice (some ⟨g, 0, none⟩) (os.length + 1) cap) rfl)
                go_roundw
                case rel => exact ⟨k + 1, by omega, by rw [show 3 * (k + 1) = p + 3 from by have := HP.out; omega]; go_num, _, by rw [gDeedTo, HOS.out, HXD.out, HYD.out, HZD.out, HGO.out]; exact HZ.out⟩
                case measure => simp [intOf]; omega
        · skip
          have hkg' : k = gLen rl := by omega
          have HKG := Lib.hid hkg'
          by_cases hp2 : p + 2 < rn
          · have hp2' : (p : Int) + 2 < (rn : Int) := by omega
            have hk4 : 4 ≤ os.length := by have h1 := HP.out; have h2 := HRLN.out; have h3 := HLK.out; unfold gLen at hkg'; omega
            have hk4' : (4 : Int) ≤ (os.length : Int) := by omega
            have hk0 : ¬ k = 0 := by rw [← HLK.out]; omega
            clear hkg'
            have hos0 : 0 < os.length := by rw [HLK.out]; omega
            have hos0' : (0 : Int) < (os.length : Int) := by omega
            have hgd0 : gDeed rl = os := by rw [gDeed, ← HKG.out]; exact HOS.out
            have hne0 : ¬ gDeed rl = [] := by rw [hgd0]; intro e; rw [e] at hos0; simp at hos0
            have HD0 := Lib.hid hgd0; clear hgd0 hk0
            have HNE := Lib.hid hne0; clear hne0
            have HDM2 := Lib.hid (HDM.out.below HGD.out.old)
            have HROW := Lib.hid (show DRow.Ok wr ⟨a2, os.length, c2, os⟩ from ⟨(ops_of_own HGD.out.owns).2, TypedAt.of_own HGD.out.owns⟩)
            have hdl := HDL.out
            have hzr := HGD.out.size
            have hzw := HDM2.out.old.size
            go_wp2_with (at_builtin; refine wpList_append_lies _ (by rfl) _ _ 105 (by rfl) w.heap.size 36 i1 _ 1 24 Tryd.underlying105 hi1 hz1 hs1 hb1 rfl (by omega) u5 _ _ (by rfl) (HDM2.out.alloc (.cells #[.slice a2 os.length c2] 36)).owns ⟨wr.heap.size, 0, none⟩ 1 1 #[.slice a2 os.length c2].toList (by rfl) (by rfl) (World.news_of_block (cs := #[.slice a2 os.length c2]) (t := 36) (fr := (0, 0)) (heap_new1 wr _)) (by simp [Value.oneCell']) (by omega) (by unfold maxLen; omega) (by omega) (by simp; omega) (wr.heap.size + 1) (by simp) ?_; intro g cap w5 hown5 hgrow5 hat5 hlt5; have M5 := Lib.hid ((HDM2.out.alloc (.cells #[.slice a2 os.length c2] 36)).grow (x := ⟨a2, os.length, c2, os⟩) hown5 hgrow5 (HROW.out.below (below_alloc wr _))); clear hown5 hgrow5 hat5 hdl)
            go_roundw
            case rel => exact ⟨kk + 1, by omega, by go_num, _, M5.out, by rw [HNX.out, if_neg HNE.out, HD0.out, List.map_append, HDS.out]; rfl, by have := HDL.out; simp; omega⟩
            case measure => simp [intOf]; omega
          · have hp2' : ¬ (p : Int) + 2 < (rn : Int) := by omega
            have hp2d : decide ((p : Int) + 2 < (rn : Int)) = false := by simpa using hp2'
            clear hkg'
            by_cases hk0 : k = 0
            · have hos0 : os.length = 0 := by rw [HLK.out]; exact hk0
              have hgd0 : gDeed rl = [] := by rw [gDeed, ← HKG.out, HOS.out]; exact List.eq_nil_of_length_eq_zero hos0
              have HD0 := Lib.hid hgd0; clear hgd0 hk0
              have hos0' : ¬ (0 : Int) < (os.length : Int) := by omega
              clear hos0
              have HDM2 := Lib.hid (HDM.out.below HGD.out.old)
              go_wp2_with fail
              go_roundw
              case rel => exact ⟨kk + 1, by omega, by go_num, ds, HDM2.out, by rw [HNX.out, if_pos HD0.out, List.append_nil]; exact HDS.out, by have := HDL.out; omega⟩
              case measure => simp [intOf]; omega
            · have hos0 : 0 < os.length := by rw [HLK.out]; omega
              have hos0' : (0 : Int) < (os.length : Int) := by omega
              have hgd0 : gDeed rl = os := by rw [gDeed, ← HKG.out]; exact HOS.out
              have hne0 : ¬ gDeed rl = [] := by rw [hgd0]; intro e; rw [e] at hos0; simp at hos0
              have HD0 := Lib.hid hgd0; clear hgd0 hk0
              have HNE := Lib.hid hne0; clear hne0
              have HDM2 := Lib.hid (HDM.out.below HGD.out.old)
              have HROW := Lib.hid (show DRow.Ok wr ⟨a2, os.length, c2, os⟩ from ⟨(ops_of_own HGD.out.owns).2, TypedAt.of_own HGD.out.owns⟩)
              have hdl := HDL.out
              have hzr := HGD.out.size
              have hzw := HDM2.out.old.size
              go_wp2_with (at_builtin; refine wpList_append_lies _ (by rfl) _ _ 105 (by rfl) w.heap.size 36 i1 _ 1 24 Tryd.underlying105 hi1 hz1 hs1 hb1 rfl (by omega) u5 _ _ (by rfl) (HDM2.out.alloc (.cells #[.slice a2 os.length c2] 36)).owns ⟨wr.heap.size, 0, none⟩ 1 1 #[.slice a2 os.length c2].toList (by rfl) (by rfl) (World.news_of_block (cs := #[.slice a2 os.length c2]) (t := 36) (fr := (0, 0)) (heap_new1 wr _)) (by simp [Value.oneCell']) (by omega) (by unfold maxLen; omega) (by omega) (by simp; omega) (wr.heap.size + 1) (by simp) ?_; intro g cap w5 hown5 hgrow5 hat5 hlt5; have M5 := Lib.hid ((HDM2.out.alloc (.cells #[.slice a2 os.length c2] 36)).grow (x := ⟨a2, os.length, c2, os⟩) hown5 hgrow5 (HROW.out.below (below_alloc wr _))); clear hown5 hgrow5 hat5 hdl)
              go_roundw
              case rel => exact ⟨kk + 1, by omega, by go_num, _, M5.out, by rw [HNX.out, if_neg HNE.out, HD0.out, List.map_append, HDS.out]; rfl, by have := HDL.out; simp; omega⟩
              case measure => simp [intOf]; omega
    · obtain rfl : kk = N := by omega
      go_wp2_with fail
      go_ret
      refine ⟨_, ds, rfl, HDM.out, ?_⟩
      rw [HDS.out]
      congr 1
      exact List.take_of_length_le (by simp; omega)
end Go.Proofs.YtdhfcelhgnjpcaaDoor
