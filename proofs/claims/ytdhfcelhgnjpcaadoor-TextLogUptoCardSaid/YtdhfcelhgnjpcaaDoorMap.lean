/-
  rokeep.Map makes, of numbers of any sort, a map that may be; of old memory nothing turns.
-/
import Derived.Test.YtdhfcelhgnjpcaaDoorMapOk
import Derived.Test.YtdhfcelhgnjpcaaDoorWithin
import Derived.Test.YtdhfcelhgnjpcaaDoorRegion
import Derived.Deep.RegionHeld3
import Derived.Deep.AppendLies
import Derived.Deep.DrawnRows
import Derived.KernelRfl
namespace Go.Proofs.YtdhfcelhgnjpcaaDoor
open Go.RowKit
attribute [local go_sem ↓] Go.wp_at_zero Go.wp_at_succ

def nmA : Str := ⟨#[97]⟩
def nmB : Str := ⟨#[98]⟩
def nmBB : Str := ⟨#[98, 98]⟩
def nmD : Str := ⟨#[100]⟩
def nmM : Str := ⟨#[109]⟩
def nmP : Str := ⟨#[112]⟩
def names6 : List Str := [⟨#[97]⟩, ⟨#[98]⟩, ⟨#[98, 98]⟩, ⟨#[100]⟩, ⟨#[109]⟩, ⟨#[112]⟩]
def takes (l : List Int) (k : Nat) : Bool := decide (k < l.length) && decide (0 < within (l.getD k 0) 3)
def gMapTo (l : List Int) : Nat → PMap
  | 0 => ⟨[], [0]⟩
  | k + 1 => if takes l k = true then ⟨(gMapTo l k).cuts ++ [names6.getD k noStr], (gMapTo l k).owners ++ [within (IntKind.i64.wrap ((l.getD k 0).tdiv 3)) 4]⟩ else gMapTo l k
def gMap (l : List Int) : PMap := gMapTo l 6

theorem gMapTo_len (l : List Int) : ∀ k, (gMapTo l k).cuts.length ≤ k ∧ (gMapTo l k).owners.length = (gMapTo l k).cuts.length + 1
  | 0 => by simp [gMapTo]
  | k + 1 => by
    have := gMapTo_len l k
    unfold gMapTo
    split
    · simp; omega
    · omega

theorem gMapTo_sub (l : List Int) : ∀ k, k ≤ 6 → List.Sublist (gMapTo l k).cuts (names6.take k)
  | 0, _ => by simp [gMapTo]
  | k + 1, hk => by
    have ih := gMapTo_sub l k (by omega)
    have e : names6.take (k + 1) = names6.take k ++ [names6.getD k noStr] := by
      have : k < names6.length := by simp [names6]; omega
      rw [List.take_succ_eq_append_getElem this, List.getD_eq_getElem?_getD, List.getElem?_eq_getElem this]; rfl
    rw [e]
    unfold gMapTo
    split
    · exact List.Sublist.append ih (List.Sublist.refl _)
    · exact ih.trans (List.sublist_append_left _ _)
theorem gMapTo_owns (l : List Int) : ∀ k, ∀ o ∈ (gMapTo l k).owners, 0 ≤ o ∧ o < 4
  | 0, o, ho => by simp [gMapTo] at ho; omega
  | k + 1, o, ho => by
    unfold gMapTo at ho
    split at ho
    · simp only [List.mem_append, List.mem_singleton] at ho
      rcases ho with ho | rfl
      · exact gMapTo_owns l k o ho
      · exact ⟨within_lo _ _, within_hi _ _ (by omega)⟩
    · exact gMapTo_owns l k o ho
theorem names6_srt : Srt names6 := by
  simp [Srt, names6, slt, ByteArray.toList_eq, Op.bytesLess]
theorem names6_keys : ∀ k ∈ names6, isKey k = true := by decide
/-- What Map makes may be. -/
theorem gMap_ok (l : List Int) : MapOk (gMap l) where
  srt := List.Pairwise.sublist ((gMapTo_sub l 6 (by omega)).trans (List.take_sublist _ _)) names6_srt
  keys := fun k hk => names6_keys k (((gMapTo_sub l 6 (by omega)).trans (List.take_sublist _ _)).subset hk)
  len := (gMapTo_len l 6).2
  most := by have := (gMapTo_len l 6).1; unfold gMap; omega
  owns := gMapTo_owns l 6

theorem info9 : (Tryd.prog.info? 9).map (fun i => (i.zero, i.size, i.bytes)) = some (some (.string ⟨#[]⟩), 1, 16) := by kernel_rfl
theorem info3 : (Tryd.prog.info? 3).map (fun i => (i.zero, i.size, i.bytes)) = some (some (.int .i64 0), 1, 8) := by kernel_rfl

/-- What lies in memory while Map runs: the two lists are owned, the map's box holds A and B. -/
structure Mid (N : Nat) (w : World) (A B vc : Value) (cs : List Str) (vo : Value) (os : List Int) (W : World) : Prop where
  cuts : W.ownsRow (N + 4) 9 1 vc cs.length (cs.map .string)
  owns : W.ownsRow (N + 1) 3 1 vo os.length (os.map (.int .i64))
  box : W.heap[N + 2]? = some (.cells #[A, B] 39 (0, 0))
  lits : W.heap[N + 3]? = some (.cells #[.string ⟨#[97]⟩, .string ⟨#[98]⟩, .string ⟨#[98, 98]⟩, .string ⟨#[100]⟩, .string ⟨#[109]⟩, .string ⟨#[112]⟩] 9 (0, 0))
  ret : W.heap[N]? = some (.cells #[.slice none 0 0, .slice none 0 0] 39 (0, 0))
  old : Below N w W

section
variable {N : Nat} {w : World} {A B vc : Value} {cs : List Str} {vo : Value} {os : List Int} {W W' : World}
theorem Mid.size (h : Mid N w A B vc cs vo os W) : N + 3 < W.heap.size := heap_lt h.lits
theorem Mid.alloc (h : Mid N w A B vc cs vo os W) (o : Obj) : Mid N w A B vc cs vo os (W.alloc o) :=
  ⟨h.cuts.alloc o, h.owns.alloc o, heap_alloc h.box o, heap_alloc h.lits o, heap_alloc h.ret o, h.old.alloc (by have := h.size; omega) o⟩
theorem Mid.drew (h : Mid N w A B vc cs vo os W) : Mid N w A B vc cs vo os W.drew := ⟨h.cuts.drew, h.owns.drew, h.box, h.lits, h.ret, h.old.drew⟩
theorem Mid.set0 (h : Mid N w A B vc cs vo os W) (v : Value) : Mid N w v B vc cs vo os (W.setCell ⟨N + 2, 0, none⟩ v) :=
  ⟨owns_set h.cuts (owns_far h.cuts (by omega)) v, owns_set h.owns (owns_apart h.owns h.box (by decide)) v, heap_set_same h.box v, by rw [heap_set_other (by omega)]; exact h.lits,
    by rw [heap_set_other (by omega)]; exact h.ret, h.old.setCell (by simp) v⟩
theorem Mid.set1 (h : Mid N w A B vc cs vo os W) (v : Value) : Mid N w A v vc cs vo os (W.setCell ⟨N + 2, 1, none⟩ v) :=
  ⟨owns_set h.cuts (owns_far h.cuts (by omega)) v, owns_set h.owns (owns_apart h.owns h.box (by decide)) v, heap_set_same h.box v, by rw [heap_set_other (by omega)]; exact h.lits,
    by rw [heap_set_other (by omega)]; exact h.ret, h.old.setCell (by simp) v⟩
theorem Mid.growC (h : Mid N w A B vc cs vo os W) {vc' : Value} {cs' : List Str} (ho : W'.ownsRow (N + 4) 9 1 vc' cs'.length (cs'.map .string)) (hg : W.grownBy W' vc.ownBlock) : Mid N w A B vc' cs' vo os W' :=
  ⟨ho, h.owns.kept hg (owns_two h.owns h.cuts (by decide)), grown_heap hg h.box (owns_far h.cuts (by omega)), grown_heap hg h.lits (owns_far h.cuts (by omega)), grown_heap hg h.ret (owns_far h.cuts (by omega)),
    h.old.grown hg (by have := h.size; omega) (fun k hk => by have := (h.cuts.lt k hk).1; omega)⟩
theorem Mid.growO (h : Mid N w A B vc cs vo os W) {vo' : Value} {os' : List Int} (ho : W'.ownsRow (N + 1) 3 1 vo' os'.length (os'.map (.int .i64))) (hg : W.grownBy W' vo.ownBlock) : Mid N w A B vc cs vo' os' W' :=
  ⟨h.cuts.kept hg (owns_two h.cuts h.owns (by decide)), ho, grown_heap hg h.box (owns_apart h.owns h.box (by decide)), grown_heap hg h.lits (owns_apart h.owns h.lits (by decide)), grown_heap hg h.ret (owns_apart h.owns h.ret (by decide)),
    h.old.grown hg (by have := h.size; omega) (fun k hk => by have := (h.owns.lt k hk).1; omega)⟩
theorem Mid.done (h : Mid N w A B vc cs vo os W) (u v : Value) :
    ((W.setCell ⟨N, 0, none⟩ u).setCell ⟨N, 1, none⟩ v).ownsRow N 9 1 vc cs.length (cs.map .string) ∧ ((W.setCell ⟨N, 0, none⟩ u).setCell ⟨N, 1, none⟩ v).ownsRow N 3 1 vo os.length (os.map (.int .i64)) ∧
      Below N w ((W.setCell ⟨N, 0, none⟩ u).setCell ⟨N, 1, none⟩ v) ∧ ((W.setCell ⟨N, 0, none⟩ u).setCell ⟨N, 1, none⟩ v).heap[N]? = some (.cells #[u, v] 39 (0, 0)) :=
  ⟨owns_base (owns_set (owns_set h.cuts (owns_far h.cuts (by omega)) u) (owns_far h.cuts (by omega)) v) (by omega),
    owns_base (owns_set (owns_set h.owns (owns_far h.owns (by omega)) u) (owns_far h.owns (by omega)) v) (by omega),
    (h.old.setCell (Nat.le_refl _) u).setCell (Nat.le_refl _) v, heap_set_same (heap_set_same h.ret u) v⟩
theorem Mid.c0 (h : Mid N w A B vc cs vo os W) : W.cell? ⟨N + 2, 0, none⟩ = some A := by rw [heap_cell h.box]; rfl
theorem Mid.c1 (h : Mid N w A B vc cs vo os W) : W.cell? ⟨N + 2, 1, none⟩ = some B := by rw [heap_cell h.box]; rfl
theorem Mid.f0 (h : Mid N w A B vc cs vo os W) : W.frozen? ⟨N + 2, 0, none⟩ = false := heap_free h.box 0
theorem Mid.f1 (h : Mid N w A B vc cs vo os W) : W.frozen? ⟨N + 2, 1, none⟩ = false := heap_free h.box 1
theorem Mid.arg (h : Mid N w A B vc cs vo os W) {b o : Nat} {u : Value} (hb : b < N) (hc : w.cell? ⟨b, o, none⟩ = some u) : W.cell? ⟨b, o, none⟩ = some u := (h.old.cell (p := ⟨b, o, none⟩) hb).trans hc
end

theorem heap_alloc_at {w : World} {n : Nat} (h : n = w.heap.size) (o : Obj) : (w.alloc o).heap[n]? = some o := by subst h; exact heap_alloc_new w o
theorem mid_start (w : World) : Mid w.heap.size w (.slice none 0 0) (.slice (some ⟨w.heap.size + 1, 0, none⟩) 1 1) (.slice none 0 0) [] (.slice (some ⟨w.heap.size + 1, 0, none⟩) 1 1) [0]
    ((((w.alloc (Obj.cells #[Value.slice none 0 0, Value.slice none 0 0] 39)).alloc (Obj.cells #[Value.int IntKind.i64 0] 3)).alloc
      (Obj.cells #[Value.slice none 0 0, Value.slice (some ⟨w.heap.size + 1, 0, none⟩) 1 1] 39)).alloc
      (Obj.cells #[.string ⟨#[97]⟩, .string ⟨#[98]⟩, .string ⟨#[98, 98]⟩, .string ⟨#[100]⟩, .string ⟨#[109]⟩, .string ⟨#[112]⟩] 9)) := by
  refine ⟨World.ownsRow_nil _ _ _ _, ⟨by simp, .inr ⟨w.heap.size + 1, 1, #[.int .i64 0], rfl, by omega, ?_, Nat.le_refl _, by unfold maxLen; omega, by simp, by simp⟩⟩, ?_, ?_, ?_, ?_⟩
  · exact heap_alloc (heap_alloc (heap_alloc_at (by simp) _) _) _
  · exact heap_alloc (heap_alloc_at (by simp) _) _
  · exact heap_alloc_at (by simp) _
  · exact heap_alloc (heap_alloc (heap_alloc (heap_alloc_at rfl _) _) _) _
  · exact ((((Below.refl _ _).alloc (Nat.le_refl _) _).alloc (by simp) _).alloc (by simp; omega) _).alloc (by simp; omega) _

theorem gNext {N : Nat} {w : World} {l : List Int} {k : Nat} {x : Str} {y : Int} {A B : Value} {W : World} (ht : takes l k = true) (hx : names6.getD k noStr = x) (hy : l.getD k 0 = y)
    (h : Mid N w A B A ((gMapTo l k).cuts ++ [x]) B ((gMapTo l k).owners ++ [within (IntKind.i64.wrap (y.tdiv 3)) 4]) W) : Mid N w A B A (gMapTo l (k + 1)).cuts B (gMapTo l (k + 1)).owners W := by
  rw [gMapTo, if_pos ht, hx, hy]; exact h
theorem gSame {N : Nat} {w : World} {l : List Int} {k : Nat} {A B : Value} {W : World} (ht : takes l k = false)
    (h : Mid N w A B A (gMapTo l k).cuts B (gMapTo l k).owners W) : Mid N w A B A (gMapTo l (k + 1)).cuts B (gMapTo l (k + 1)).owners W := by
  rw [gMapTo, if_neg (by simp [ht])]; exact h

set_option maxHeartbeats 2000000 in
set_option maxRecDepth 100000 in
theorem gmap_any (ao : Option Addr) (n c : Nat) (l : List Int) (w : World) (h : Sl w 1 ao n c (l.map (.int .i64))) :
    Calls Tryd.prog 62 #[.slice ao n c] w fun e w' => ∃ vc vo, e = .returned (.agg #[vc, vo]) ∧
      w'.ownsRow w.heap.size 9 1 vc (gMap l).cuts.length ((gMap l).cuts.map .string) ∧ w'.ownsRow w.heap.size 3 1 vo (gMap l).owners.length ((gMap l).owners.map (.int .i64)) ∧
      Below w.heap.size w w' := by
  obtain ⟨i9, hi9, hz9, hs9, hb9⟩ := info_parts info9
  obtain ⟨i3, hi3, hz3, hs3, hb3⟩ := info_parts info3
  have hl : l.length = n := by have := h.len; simpa using this
  have HL := Lib.hid hl; clear hl
  go_enter Tryd.func62, Tryd.ntmps62
  go_wp2_with fail
  go_loopw [10] (fun i wr => ∃ k : Nat, k ≤ 6 ∧ i = .int .i64 k ∧ ∃ vc vo, Mid w.heap.size w vc vo vc (gMapTo l k).cuts vo (gMapTo l k).owners wr) (fun i _ => 6 - (intOf i).toNat)
  case atStart =>
    refine ⟨0, by omega, rfl, .slice none 0 0, .slice (some ⟨w.heap.size + 1, 0, none⟩) 1 1, ?_⟩
    exact mid_start w
  case round =>
    obtain ⟨k, hk, rfl, vc, vo, hi⟩ := hrel
    by_cases hlt : k < 6
    · obtain ⟨x, hx⟩ : ∃ x, names6.getD k noStr = x := ⟨_, rfl⟩
      have hlit : wr.cell? ⟨w.heap.size + 3, k, none⟩ = some (.string x) := by
        rw [heap_cell hi.lits, ← hx]
        match k, hlt with
        | 0, _ => rfl
        | 1, _ => rfl
        | 2, _ => rfl
        | 3, _ => rfl
        | 4, _ => rfl
        | 5, _ => rfl
      have HX := Lib.hid hx; clear hx
      by_cases hkn : k < n
      · obtain ⟨b, off, rfl, hb, hc⟩ := h.int k hkn
        obtain ⟨y, hy⟩ : ∃ y, l.getD k 0 = y := ⟨_, rfl⟩
        rw [hy] at hc
        have HY := Lib.hid hy; clear hy
        have hw0 := within_lo y 3
        have hkn1 : (0 : Int) ≤ (k : Int) := Int.natCast_nonneg _
        have hkn2 : (k : Int) < (n : Int) := by omega
        by_cases hp : 0 < within y 3
        · have HT := Lib.hid (show takes l k = true by rw [takes, HY.out, HL.out]; simp; omega)
          have hmi := hi
          have c0 := hi.c0
          have c1 := hi.c1
          have f0 := hi.f0
          have f1 := hi.f1
          have hbb := hi.size
          have hcw := hi.arg hb hc
          have hm1 := within_lo (IntKind.i64.wrap (y.tdiv 3)) 4
          have hlc := (gMapTo_len l k).1
          have hlo := (gMapTo_len l k).2
          have hlo7 : (gMapTo l k).owners.length ≤ 7 := by omega
          have HI := Lib.hid hi
          have HLC := Lib.hid hlo
          have HC := Lib.hid hc
          clear hi hlo hmi hc
          go_wp2_with (go_at_call 34; refine (within_any _ _ _ (by omega) (by omega)).mono ?_; rintro e w' ⟨rfl, rfl⟩)
          refine wp_region_noPanic ?_
          refine wp_region_T (fun w' => w'.cell? ⟨w.heap.size + 2, 0, none⟩ = some vc ∧ w'.cell? ⟨w.heap.size + 2, 1, none⟩ = some vo) (fun w' => w'.cell? ⟨b, off + k, none⟩ = some (.int .i64 y)) 16 (by kernel_rfl) ?_
          have hS0 : (Array.replicate 19 false).getD 16 true = false → wr.drew.cell? ⟨w.heap.size + 2, 0, none⟩ = some vc ∧ wr.drew.cell? ⟨w.heap.size + 2, 1, none⟩ = some vo := fun _ => ⟨c0, c1⟩
          have hS1 : wr.drew.cell? ⟨b, off + k, none⟩ = some (.int .i64 y) := hcw
          refine wpAnyT_take1 0 (v := ?_) rfl (by kernel_rfl) (fun _ _ _ h => h) (Or.inl ⟨by rfl, ?_⟩) hS1 hS0 ?_
          rotate_left
          · intro w' hS; (try dsimp only at hS); (try go_split_ands); go_simp; try with_reducible rfl
          (try simp only [Act.put, List.setIfInBounds_toArray, List.set_cons_zero, List.set_cons_succ])
          refine wpAnyT_take0 1 (v := ?_) rfl (by kernel_rfl) (fun _ _ _ h => h) (Or.inl ⟨by rfl, ?_⟩) hS1 hS0 ?_
          rotate_left
          · intro w' hS; (try dsimp only at hS); (try go_split_ands); go_simp; try with_reducible rfl
          (try simp only [Act.put, List.setIfInBounds_toArray, List.set_cons_zero, List.set_cons_succ])
          refine wpAnyT_take1 2 (v := ?_) rfl (by kernel_rfl) (fun _ _ _ h => h) (Or.inl ⟨by rfl, ?_⟩) hS1 hS0 ?_
          rotate_left
          · intro w' hS; (try dsimp only at hS); (try go_split_ands); go_simp; try with_reducible rfl
          (try simp only [Act.put, List.setIfInBounds_toArray, List.set_cons_zero, List.set_cons_succ])
          refine wpAnyT_take1 5 (v := ?_) rfl (by kernel_rfl) (fun _ _ _ h => h) (Or.inl ⟨by rfl, ?_⟩) hS1 hS0 ?_
          rotate_left
          · intro w' hS; (try dsimp only at hS); (try go_split_ands); go_simp; try with_reducible rfl
          (try simp only [Act.put, List.setIfInBounds_toArray, List.set_cons_zero, List.set_cons_succ])
          refine wpAnyT_take0 6 (v := ?_) rfl (by kernel_rfl) (fun _ _ _ h => h) (Or.inl ⟨by rfl, ?_⟩) hS1 hS0 ?_
          rotate_left
          · intro w' hS; (try dsimp only at hS); (try go_split_ands); go_simp; try with_reducible rfl
          (try simp only [Act.put, List.setIfInBounds_toArray, List.set_cons_zero, List.set_cons_succ])
          refine wpAnyT_take1 7 (v := ?_) rfl (by kernel_rfl) (fun _ _ _ h => h) (Or.inl ⟨by rfl, ?_⟩) hS1 hS0 ?_
          rotate_left
          · intro w' hS; (try dsimp only at hS); (try go_split_ands); go_simp; try with_reducible rfl
          (try simp only [Act.put, List.setIfInBounds_toArray, List.set_cons_zero, List.set_cons_succ])
          refine wpAnyT_take1 8 (v := ?_) rfl (by kernel_rfl) (fun _ _ _ h => h) (Or.inl ⟨by rfl, ?_⟩) hS1 hS0 ?_
          rotate_left
          · intro w' hS; (try dsimp only at hS); (try go_split_ands); go_simp; try with_reducible rfl
          (try simp only [Act.put, List.setIfInBounds_toArray, List.set_cons_zero, List.set_cons_succ])
          refine wpAnyT_take1 9 (v := ?_) rfl (by kernel_rfl) (fun _ _ _ h => h) (Or.inl ⟨by rfl, ?_⟩) hS1 hS0 ?_
          rotate_left
          · intro w' hS; (try dsimp only at hS); (try go_split_ands); go_simp; try with_reducible rfl
          (try simp only [Act.put, List.setIfInBounds_toArray, List.set_cons_zero, List.set_cons_succ])
          refine wpAnyT_take1 10 (v := ?_) rfl (by kernel_rfl) (fun _ _ _ h => h) (Or.inl ⟨by rfl, ?_⟩) hS1 hS0 ?_
          rotate_left
          · intro w' hS; (try dsimp only at hS); (try go_split_ands); go_simp; try with_reducible rfl
          (try simp only [Act.put, List.setIfInBounds_toArray, List.set_cons_zero, List.set_cons_succ])
          refine wpAnyT_take1 11 (v := ?_) rfl (by kernel_rfl) (fun _ _ _ h => h) (Or.inl ⟨by rfl, ?_⟩) hS1 hS0 ?_
          rotate_left
          · intro w' hS; (try dsimp only at hS); (try go_split_ands); go_simp; try with_reducible rfl
          (try simp only [Act.put, List.setIfInBounds_toArray, List.set_cons_zero, List.set_cons_succ])
          have M1 := (HI.out.alloc (.cells #[.string x] 9)).drew
          refine wpAnyT_ready (rs := [3]) (by kernel_rfl) (by simp) (AllT.cons rfl (fun K hK => ?_) AllT.nil)
          go_simp
          refine hK _ _ (M1.arg hb HC.out) (fun _ => ⟨M1.c0, M1.c1⟩) ?_
          clear hK K hS0 hS1
          (try simp only [Act.put, List.setIfInBounds_toArray, List.set_cons_zero, List.set_cons_succ])
          refine wpAnyT_ready (rs := [4]) (by kernel_rfl) (by simp) (AllT.cons rfl (fun K hK => ?_) AllT.nil)
          refine step_append_lies _ (by rfl) _ _ 37 (by rfl) (w.heap.size + 4) 9 i9 _ 1 16 Tryd.underlying37 hi9 hz9 hs9 hb9 rfl (by omega) vc _ _ (by rfl) M1.cuts ⟨wr.heap.size, 0, none⟩ 1 1 [.string x] (by rfl) (by rfl) (World.news_of_block (cs := #[.string x]) (t := 9) (fr := (0, 0)) (heap_alloc_new wr _)) (by simp [Value.oneCell']) (by omega) (by unfold maxLen; omega) (by omega) (by simp; omega) (wr.heap.size + 1) (by simp) ?_
          intro g cap w1 hown1 hgrow1 hat1 hlt1
          have M2 := M1.growC (cs' := (gMapTo l k).cuts ++ [x]) (by simpa using hown1) hgrow1
          refine hK _ _ (M2.arg hb HC.out) (fun _ => ⟨M2.c0, M2.c1⟩) ?_
          clear hK K
          (try simp only [Act.put, List.setIfInBounds_toArray, List.set_cons_zero, List.set_cons_succ])
          refine wpAnyT_take1 15 (v := ?_) rfl (by kernel_rfl) (fun _ _ _ h => h) (Or.inl ⟨by rfl, ?_⟩) (M2.arg hb HC.out) (fun _ => ⟨M2.c0, M2.c1⟩) ?_
          rotate_left
          · intro w' hS; (try dsimp only at hS); (try go_split_ands); go_simp; try with_reducible rfl
          (try simp only [Act.put, List.setIfInBounds_toArray, List.set_cons_zero, List.set_cons_succ])
          refine wpAnyT_ready (rs := [12]) (by kernel_rfl) (by simp) (AllT.cons rfl (fun K hK => ?_) (AllT.nil))
          · skip
            go_simp
            refine (within_any _ _ _ (by omega) (by omega)).mono ?_
            rintro e w' ⟨rfl, rfl⟩
            go_wp2_with fail
            have M3 := M2
            refine hK _ _ (M3.arg hb HC.out) (fun _ => ⟨M3.c0, M3.c1⟩) ?_
            clear hK K
            (try simp only [Act.put, List.setIfInBounds_toArray, List.set_cons_zero, List.set_cons_succ])
            refine wpAnyT_ready (rs := [13]) (by kernel_rfl) (by simp) (AllT.cons rfl (fun K hK => ?_) (AllT.nil))
            · skip
              go_simp
              have M4 := M3.alloc (.cells #[.int .i64 (within (IntKind.i64.wrap (y.tdiv 3)) 4)] 3)
              refine hK _ _ (M4.arg hb HC.out) (fun _ => ⟨M4.c0, M4.c1⟩) ?_
              clear hK K
              (try simp only [Act.put, List.setIfInBounds_toArray, List.set_cons_zero, List.set_cons_succ])
              refine wpAnyT_ready (rs := [14]) (by kernel_rfl) (by simp) (AllT.cons rfl (fun K hK => ?_) (AllT.nil))
              · skip
                have hz5 := M4.size
                have hN5 := M4.old.size
                refine step_append_lies _ (by rfl) _ _ 29 (by rfl) (w.heap.size + 1) 3 i3 _ 1 8 Tryd.underlying29 hi3 hz3 hs3 hb3 rfl (by omega) vo _ _ (by rfl) M4.owns ⟨w1.heap.size, 0, none⟩ 1 1 [.int .i64 (within (IntKind.i64.wrap (y.tdiv 3)) 4)] (by rfl) (by rfl) (World.news_of_block (cs := #[.int .i64 (within (IntKind.i64.wrap (y.tdiv 3)) 4)]) (t := 3) (fr := (0, 0)) (heap_alloc_new w1 _)) (by simp [Value.oneCell']) (by omega) (by unfold maxLen; omega) (by omega) (by omega) _ rfl ?_
                intro g2 cap2 w5 hown5 hgrow5 hat5 hlt5
                have M5 := M4.growO (os' := (gMapTo l k).owners ++ [within (IntKind.i64.wrap (y.tdiv 3)) 4]) (by simpa using hown5) hgrow5
                refine hK _ _ (M5.arg hb HC.out) (fun _ => ⟨M5.c0, M5.c1⟩) ?_
                clear hK K
                (try simp only [Act.put, List.setIfInBounds_toArray, List.set_cons_zero, List.set_cons_succ])
                refine wpAnyT_ready (rs := [16]) (by kernel_rfl) (by simp) (AllT.cons rfl (fun K hK => ?_) (AllT.nil))
                · skip
                  have C0 := M5.c0; have F0 := M5.f0
                  go_simp
                  have M6 := M5.set0 (.slice (some ⟨g, 0, none⟩) ((gMapTo l k).cuts.length + 1) cap)
                  refine hK _ _ (M6.arg hb HC.out) (fun h => nomatch h) ?_
                  clear hK K C0 F0
                  (try simp only [Act.put, List.setIfInBounds_toArray, List.set_cons_zero, List.set_cons_succ])
                  refine wpAnyT_take1 17 (v := ?_) rfl (by kernel_rfl) (fun _ _ _ h => h) (Or.inl ⟨by rfl, ?_⟩) (M6.arg hb HC.out) (fun h => nomatch h) ?_
                  rotate_left
                  · intro w' hS; (try dsimp only at hS); (try go_split_ands); go_simp; try with_reducible rfl
                  (try simp only [Act.put, List.setIfInBounds_toArray, List.set_cons_zero, List.set_cons_succ])
                  have C1 := M6.c1; have F1 := M6.f1
                  refine wpAnyT_ready (rs := [18]) (by kernel_rfl) (by simp) (AllT.cons rfl (fun K hK => ?_) AllT.nil)
                  go_simp
                  have MZ := M6.set1 (.slice (some ⟨g2, 0, none⟩) ((gMapTo l k).owners.length + 1) cap2)
                  refine hK _ _ (MZ.arg hb HC.out) (fun h => nomatch h) ?_
                  clear hK K C1 F1
                  (try simp only [Act.put, List.setIfInBounds_toArray, List.set_cons_zero, List.set_cons_succ])
                  refine wpAnyT_done (by kernel_rfl) ?_ _
                  refine NoPanic.normal ?_
                  have MY := Lib.hid (gNext HT.out HX.out HY.out MZ); clear MZ
                  go_wp2_with fail
                  go_roundw
                  case rel => exact ⟨k + 1, by omega, by go_num, _, _, MY.out⟩
                  case measure => simp [intOf]; omega
        · have HT := Lib.hid (show takes l k = false by rw [takes, HY.out, HL.out]; simp; omega)
          have hcw := hi.arg hb hc
          have HI := Lib.hid hi
          have HC := Lib.hid hc
          clear hi hc
          go_wp2_with (go_at_call 34; refine (within_any _ _ _ (by omega) (by omega)).mono ?_; rintro e w' ⟨rfl, rfl⟩)
          go_roundw
          case rel => exact ⟨k + 1, by omega, by go_num, _, _, gSame HT.out HI.out⟩
          case measure => simp [intOf]; omega
      · have HT := Lib.hid (show takes l k = false by rw [takes, HL.out]; simp; omega)
        have HI := Lib.hid hi
        clear hi
        go_wp2_with (go_at_call 34; refine (within_any _ _ _ (by omega) (by omega)).mono ?_; rintro e w' ⟨rfl, rfl⟩)
        go_roundw
        case rel => exact ⟨k + 1, by omega, by go_num, _, _, gSame HT.out HI.out⟩
        case measure => simp [intOf]; omega
    · obtain rfl : k = 6 := by omega
      obtain ⟨a1, d1, rfl, _⟩ := Sl.of_owns hi.cuts
      obtain ⟨a2, d2, rfl, _⟩ := Sl.of_owns hi.owns
      have c0 := hi.c0
      have c1 := hi.c1
      have hz := hi.size
      have r0 : wr.cell? ⟨w.heap.size, 0, none⟩ = some (.slice none 0 0) := by rw [heap_cell hi.ret]; rfl
      have r1 : wr.cell? ⟨w.heap.size, 1, none⟩ = some (.slice none 0 0) := by rw [heap_cell hi.ret]; rfl
      have s0 := heap_free hi.ret 0
      have s1 := heap_free hi.ret 1
      have HI := Lib.hid hi
      clear hi
      go_wp2_with fail
      have HD := HI.out.done (.slice a1 (gMapTo l 6).cuts.length d1) (.slice a2 (gMapTo l 6).owners.length d2)
      generalize ((wr.setCell ⟨w.heap.size, 0, none⟩ (.slice a1 (gMapTo l 6).cuts.length d1)).setCell ⟨w.heap.size, 1, none⟩ (.slice a2 (gMapTo l 6).owners.length d2)) = W2 at HD ⊢
      have d0 : W2.cell? ⟨w.heap.size, 0, none⟩ = some (.slice a1 (gMapTo l 6).cuts.length d1) := by rw [heap_cell HD.2.2.2]; rfl
      have d1 : W2.cell? ⟨w.heap.size, 1, none⟩ = some (.slice a2 (gMapTo l 6).owners.length d2) := by rw [heap_cell HD.2.2.2]; rfl
      refine bodyPost_ret (v := .agg #[.slice a1 (gMapTo l 6).cuts.length _, .slice a2 (gMapTo l 6).owners.length _]) (by simp [results, Tryd.results62, go_sem, d0, d1]) rfl ⟨_, _, rfl, HD.1, HD.2.1, HD.2.2.1⟩
end Go.Proofs.YtdhfcelhgnjpcaaDoor
