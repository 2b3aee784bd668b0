/-
  roref.Bare: a deed without what its kinds do not name.
-/
import Derived.Test.YtdhfcelhgnjpcaaDoorDeedCheck
import Derived.Test.YtdhfcelhgnjpcaaDoorReadMap
import Derived.Test.YtdhfcelhgnjpcaaDoorMapText
namespace Go.Proofs.YtdhfcelhgnjpcaaDoor
open Go.RowKit

theorem infoOp : (Tryd.prog.info? 54).map (fun i => (i.zero, i.size, i.bytes)) = some (some (.agg #[.int .i64 0, .string ⟨#[]⟩, .string ⟨#[]⟩, .int .i64 0]), 4, 48) := by kernel_rfl

/-- What lies in memory while a list of operations is made: three blocks that are known whole, the list. -/
structure OM (N : Nat) (w : World) (o0 o1 o2 : Obj) (vo : Value) (os : List POp) (W : World) : Prop where
  owns : W.ownsRow (N + 3) 54 4 vo os.length (os.flatMap opCells)
  b0 : W.heap[N]? = some o0
  b1 : W.heap[N + 1]? = some o1
  b2 : W.heap[N + 2]? = some o2
  old : Below N w W
section
variable {N : Nat} {w : World} {o0 o1 o2 : Obj} {vo : Value} {os : List POp} {W W' : World}
theorem OM.size (h : OM N w o0 o1 o2 vo os W) : N + 2 < W.heap.size := heap_lt h.b2
theorem OM.alloc (h : OM N w o0 o1 o2 vo os W) (o : Obj) : OM N w o0 o1 o2 vo os (W.alloc o) :=
  ⟨h.owns.alloc o, heap_alloc h.b0 o, heap_alloc h.b1 o, heap_alloc h.b2 o, h.old.alloc (by have := h.size; omega) o⟩
theorem OM.drew (h : OM N w o0 o1 o2 vo os W) : OM N w o0 o1 o2 vo os W.drew := ⟨h.owns.drew, h.b0, h.b1, h.b2, h.old.drew⟩
theorem OM.below (h : OM N w o0 o1 o2 vo os W) (hb : Below W.heap.size W W') : OM N w o0 o1 o2 vo os W' :=
  have hh : ∀ {b : Nat} {o : Obj}, W.heap[b]? = some o → W'.heap[b]? = some o := fun h => (hb.block _ (heap_lt h)).trans h
  ⟨owns_below h.owns hb, hh h.b0, hh h.b1, hh h.b2, h.old.trans (hb.mono (by have := h.size; omega))⟩
theorem OM.grow (h : OM N w o0 o1 o2 vo os W) {vo' : Value} {os' : List POp} (ho : W'.ownsRow (N + 3) 54 4 vo' os'.length (os'.flatMap opCells)) (hg : W.grownBy W' vo.ownBlock) : OM N w o0 o1 o2 vo' os' W' :=
  ⟨ho, grown_heap hg h.b0 (owns_far h.owns (by omega)), grown_heap hg h.b1 (owns_far h.owns (by omega)), grown_heap hg h.b2 (owns_far h.owns (by omega)),
    h.old.grown hg (by have := h.size; omega) (fun k hk => by have := (h.owns.lt k hk).1; omega)⟩
theorem OM.set1 {A : Value} {T : TypeId} (h : OM N w o0 (.cells #[A] T (0, 0)) o2 vo os W) (v : Value) : OM N w o0 (.cells #[v] T (0, 0)) o2 vo os (W.setCell ⟨N + 1, 0, none⟩ v) :=
  ⟨owns_set h.owns (owns_far h.owns (by omega)) v, by rw [heap_set_other (by omega)]; exact h.b0, heap_set_same h.b1 v, by rw [heap_set_other (by omega)]; exact h.b2, h.old.setCell (by simp) v⟩
theorem OM.set2 {A : Value} {T : TypeId} (h : OM N w o0 o1 (.cells #[A] T (0, 0)) vo os W) (v : Value) : OM N w o0 o1 (.cells #[v] T (0, 0)) vo os (W.setCell ⟨N + 2, 0, none⟩ v) :=
  ⟨owns_set h.owns (owns_far h.owns (by omega)) v, by rw [heap_set_other (by omega)]; exact h.b0, by rw [heap_set_other (by omega)]; exact h.b1, heap_set_same h.b2 v, h.old.setCell (by simp) v⟩
theorem OM.set0 {A : Value} {T : TypeId} (h : OM N w (.cells #[A] T (0, 0)) o1 o2 vo os W) (v : Value) : OM N w (.cells #[v] T (0, 0)) o1 o2 vo os (W.setCell ⟨N, 0, none⟩ v) :=
  ⟨owns_set h.owns (owns_far h.owns (by omega)) v, heap_set_same h.b0 v, by rw [heap_set_other (by omega)]; exact h.b1, by rw [heap_set_other (by omega)]; exact h.b2, h.old.setCell (Nat.le_refl _) v⟩
end
theorem ops_of_own {W : World} {base : Nat} {e : TypeId} {ao : Option Addr} {n' c n : Nat} {os : List POp} (h : W.ownsRow base e 4 (.slice ao n' c) n (os.flatMap opCells)) : n' = n ∧ OpsAt W ao n c os :=
  ⟨(Sl.of_own h).1, ⟨(Sl.of_own h).2⟩⟩
theorem flat_snoc (os : List POp) (o : POp) : os.flatMap opCells ++ opCells o = (os ++ [o]).flatMap opCells := by simp
theorem own_snoc {W : World} {base : Nat} {e : TypeId} {v : Value} {os : List POp} {o : POp} {cs : List Value} (h : W.ownsRow base e 4 v (os.length + 1) (os.flatMap opCells ++ cs)) (hc : cs = opCells o) :
    W.ownsRow base e 4 v (os ++ [o]).length ((os ++ [o]).flatMap opCells) := by
  subst hc
  rw [← flat_snoc, List.length_append]; exact h

set_option maxHeartbeats 4000000 in
theorem bare_any (ao : Option Addr) (n c : Nat) (l : List POp) (w : World) (h : OpsAt w ao n c l) (hn : n ≤ 1099511627) :
    Calls Tryd.prog 27 #[.agg #[.slice ao n c]] w fun e w' => ∃ bo d, e = .returned (.agg #[.slice bo n d]) ∧ OpsAt w' bo n d (l.map bare) ∧ Below w.heap.size w w' := by
  obtain ⟨i0, hi0, hz0, hs0, hb0⟩ := info_parts infoOp
  have hl := h.n
  have H := Lib.hid h; clear h
  have HL := Lib.hid hl; clear hl
  have HS : OM w.heap.size w (.cells #[.slice ao n c] 36 (0, 0)) (.cells #[.slice none 0 0] 36 (0, 0)) (.cells #[.slice none 0 0] 36 (0, 0)) (.slice none 0 0) []
      (((w.alloc (.cells #[.slice ao n c] 36)).alloc (.cells #[.slice none 0 0] 36)).alloc (.cells #[.slice none 0 0] 36)) := by
    refine ⟨⟨rfl, Or.inl ⟨rfl, rfl⟩⟩, heap_alloc (heap_alloc (heap_new rfl _) _) _, heap_alloc (heap_new (by simp) _) _, heap_new (by simp) _, ?_⟩
    exact ((below_alloc w _).alloc (below_alloc w _).size _).alloc ((below_alloc w _).alloc (below_alloc w _).size _).size _
  have HS := Lib.hid HS
  go_enter Tryd.func27, Tryd.ntmps27
  go_wp2_with fail
  go_loopw [9] (fun i wr => ∃ k : Nat, k ≤ n ∧ i = .int .i64 k ∧ ∃ vo, OM w.heap.size w (.cells #[.slice ao n c] 36 (0, 0)) (.cells #[.slice none 0 0] 36 (0, 0)) (.cells #[vo] 36 (0, 0)) vo ((l.take k).map bare) wr) (fun i _ => n - (intOf i).toNat)
  case atStart => exact ⟨0, Nat.zero_le _, rfl, _, HS.out⟩
  case round =>
    obtain ⟨k, hk, rfl, vo, hi⟩ := hrel
    have hlk : ((l.take k).map bare).length = k := by simp; have := HL.out; omega
    obtain ⟨os, hos⟩ : ∃ os, (l.take k).map bare = os := ⟨_, rfl⟩
    rw [hos] at hlk hi
    have HOS := Lib.hid hos; clear hos
    have c2 : wr.cell? ⟨w.heap.size + 2, 0, none⟩ = some vo := by rw [heap_cell hi.b2]; rfl
    have hbb := hi.size
    have HI := Lib.hid hi
    have HLK := Lib.hid hlk; clear hlk
    by_cases hlt : k < n
    · obtain ⟨b, off, hao, hbs, hc0, hc1, hc2, hc3⟩ := (H.out.below hi.old).cells k hlt
      subst hao
      obtain ⟨o, ho⟩ : ∃ o, l.getD k noOp = o := ⟨_, rfl⟩
      rw [ho] at hc0 hc1 hc2 hc3
      have hnext : (l.take (k + 1)).map bare = (l.take k).map bare ++ [bare o] := by
        rw [take_snoc l k noOp (by rw [HL.out]; exact hlt), ho]; simp
      have HN := Lib.hid hnext; clear hnext ho hi
      have hkb : k + 1 ≤ 1099511628 := by omega
      by_cases h3 : o.kind = 3
      · have hbr : bare o = ⟨3, o.key, o.src, 0⟩ := by rw [bare, if_pos h3, ← h3]
        rw [h3] at hc0
        have HBR := Lib.hid hbr; clear hbr h3
        have hlk := HLK.out
        go_wp2_with (at_builtin; refine wpList_append_lies _ (by rfl) _ _ 34 (by rfl) (w.heap.size + 3) 54 i0 _ 4 48 Tryd.underlying34 hi0 hz0 hs0 hb0 rfl (by omega) vo _ _ (by rfl) ((HI.out.alloc (.cells #[.int .i64 3, .string o.key, .string o.src, .int .i64 0] 54)).alloc (.cells #[.int .i64 3, .string o.key, .string o.src, .int .i64 0] 54)).owns ⟨wr.heap.size + 1, 0, none⟩ 1 1 #[.int .i64 3, .string o.key, .string o.src, .int .i64 0].toList (by rfl) (by rfl) (World.news_of_block (cs := #[.int .i64 3, .string o.key, .string o.src, .int .i64 0]) (t := 54) (fr := (0, 0)) (heap_new (by simp) _)) (by simp [Value.oneCell']) (by omega) (by unfold maxLen; omega) (by omega) (by simp <;> omega) (wr.heap.size + 2) (by simp) ?_; intro g cap w3 hown3 hgrow3 hat3 hlt3; have M2 := Lib.hid (((HI.out.alloc (.cells #[.int .i64 3, .string o.key, .string o.src, .int .i64 0] 54)).alloc (.cells #[.int .i64 3, .string o.key, .string o.src, .int .i64 0] 54)).grow (os' := os ++ [⟨3, o.key, o.src, 0⟩]) (own_snoc hown3 rfl) hgrow3); have C0 : w3.cell? ⟨w.heap.size + 2, 0, none⟩ = some vo := (heap_cell M2.out.b2 0); have F0 : w3.frozen? ⟨w.heap.size + 2, 0, none⟩ = false := heap_free M2.out.b2 0; have hz2 := M2.out.size; clear hown3 hgrow3 hat3 hlk)
        have HZ := Lib.hid (M2.out.set2 (.slice (some ⟨g, 0, none⟩) (os.length + 1) cap))
        go_roundw
        case rel => exact ⟨k + 1, by omega, by go_num, _, by rw [HN.out, HOS.out, HBR.out]; exact HZ.out⟩
        case measure => simp [intOf]; omega
      · by_cases h5 : o.kind = 5
        · have hbr : bare o = ⟨5, o.key, o.src, o.n⟩ := by rw [bare, if_neg h3, if_pos h5, ← h5]
          rw [h5] at hc0
          have HBR := Lib.hid hbr; clear hbr h3 h5
          have hlk := HLK.out
          go_wp2_with (at_builtin; refine wpList_append_lies _ (by rfl) _ _ 34 (by rfl) (w.heap.size + 3) 54 i0 _ 4 48 Tryd.underlying34 hi0 hz0 hs0 hb0 rfl (by omega) vo _ _ (by rfl) ((HI.out.alloc (.cells #[.int .i64 5, .string o.key, .string o.src, .int .i64 o.n] 54)).alloc (.cells #[.int .i64 5, .string o.key, .string o.src, .int .i64 o.n] 54)).owns ⟨wr.heap.size + 1, 0, none⟩ 1 1 #[.int .i64 5, .string o.key, .string o.src, .int .i64 o.n].toList (by rfl) (by rfl) (World.news_of_block (cs := #[.int .i64 5, .string o.key, .string o.src, .int .i64 o.n]) (t := 54) (fr := (0, 0)) (heap_new (by simp) _)) (by simp [Value.oneCell']) (by omega) (by unfold maxLen; omega) (by omega) (by simp <;> omega) (wr.heap.size + 2) (by simp) ?_; intro g cap w3 hown3 hgrow3 hat3 hlt3; have M2 := Lib.hid (((HI.out.alloc (.cells #[.int .i64 5, .string o.key, .string o.src, .int .i64 o.n] 54)).alloc (.cells #[.int .i64 5, .string o.key, .string o.src, .int .i64 o.n] 54)).grow (os' := os ++ [⟨5, o.key, o.src, o.n⟩]) (own_snoc hown3 rfl) hgrow3); have C0 : w3.cell? ⟨w.heap.size + 2, 0, none⟩ = some vo := (heap_cell M2.out.b2 0); have F0 : w3.frozen? ⟨w.heap.size + 2, 0, none⟩ = false := heap_free M2.out.b2 0; have hz2 := M2.out.size; clear hown3 hgrow3 hat3 hlk)
          have HZ := Lib.hid (M2.out.set2 (.slice (some ⟨g, 0, none⟩) (os.length + 1) cap))
          go_roundw
          case rel => exact ⟨k + 1, by omega, by go_num, _, by rw [HN.out, HOS.out, HBR.out]; exact HZ.out⟩
          case measure => simp [intOf]; omega
        · have hbr : bare o = ⟨o.kind, o.key, ⟨#[]⟩, o.n⟩ := by rw [bare, if_neg h3, if_neg h5]; rfl
          have t3 : (o.kind == 3) = false := by simpa using h3
          have t5 : (o.kind == 5) = false := by simpa using h5
          have HBR := Lib.hid hbr; clear hbr h3 h5
          have hlk := HLK.out
          go_wp2_with (at_builtin; refine wpList_append_lies _ (by rfl) _ _ 34 (by rfl) (w.heap.size + 3) 54 i0 _ 4 48 Tryd.underlying34 hi0 hz0 hs0 hb0 rfl (by omega) vo _ _ (by rfl) ((HI.out.alloc (.cells #[.int .i64 o.kind, .string o.key, .string ⟨#[]⟩, .int .i64 o.n] 54)).alloc (.cells #[.int .i64 o.kind, .string o.key, .string ⟨#[]⟩, .int .i64 o.n] 54)).owns ⟨wr.heap.size + 1, 0, none⟩ 1 1 #[.int .i64 o.kind, .string o.key, .string ⟨#[]⟩, .int .i64 o.n].toList (by rfl) (by rfl) (World.news_of_block (cs := #[.int .i64 o.kind, .string o.key, .string ⟨#[]⟩, .int .i64 o.n]) (t := 54) (fr := (0, 0)) (heap_new (by simp) _)) (by simp [Value.oneCell']) (by omega) (by unfold maxLen; omega) (by omega) (by simp <;> omega) (wr.heap.size + 2) (by simp) ?_; intro g cap w3 hown3 hgrow3 hat3 hlt3; have M2 := Lib.hid (((HI.out.alloc (.cells #[.int .i64 o.kind, .string o.key, .string ⟨#[]⟩, .int .i64 o.n] 54)).alloc (.cells #[.int .i64 o.kind, .string o.key, .string ⟨#[]⟩, .int .i64 o.n] 54)).grow (os' := os ++ [⟨o.kind, o.key, ⟨#[]⟩, o.n⟩]) (own_snoc hown3 rfl) hgrow3); have C0 : w3.cell? ⟨w.heap.size + 2, 0, none⟩ = some vo := (heap_cell M2.out.b2 0); have F0 : w3.frozen? ⟨w.heap.size + 2, 0, none⟩ = false := heap_free M2.out.b2 0; have hz2 := M2.out.size; clear hown3 hgrow3 hat3 hlk)
          have HZ := Lib.hid (M2.out.set2 (.slice (some ⟨g, 0, none⟩) (os.length + 1) cap))
          go_roundw
          case rel => exact ⟨k + 1, by omega, by go_num, _, by rw [HN.out, HOS.out, HBR.out]; exact HZ.out⟩
          case measure => simp [intOf]; omega
    · obtain rfl : k = n := by omega
      have hall : l.map bare = os := by rw [← HOS.out, List.take_of_length_le (by rw [HL.out]; exact Nat.le_refl _)]
      have HAL := Lib.hid hall; clear hall
      obtain ⟨a5, e5, rfl, _⟩ := Sl.of_owns hi.owns
      have r0 : wr.cell? ⟨w.heap.size + 1, 0, none⟩ = some (.slice none 0 0) := by rw [heap_cell hi.b1]; rfl
      have f0 : wr.frozen? ⟨w.heap.size + 1, 0, none⟩ = false := heap_free hi.b1 0
      clear hi
      go_wp2_with fail
      have HD := HI.out.set1 (.slice a5 os.length e5)
      generalize (wr.setCell ⟨w.heap.size + 1, 0, none⟩ (.slice a5 os.length e5)) = W2 at HD ⊢
      have d0 : W2.cell? ⟨w.heap.size + 1, 0, none⟩ = some (.slice a5 os.length e5) := by rw [heap_cell HD.b1]; rfl
      refine bodyPost_ret (v := .agg #[.slice a5 os.length e5]) (by simp [results, Tryd.results27, go_sem, d0]) rfl ⟨a5, e5, by rw [HLK.out], by rw [HAL.out, ← HLK.out]; exact (ops_of_own HD.owns).2, HD.old⟩
end Go.Proofs.YtdhfcelhgnjpcaaDoor
