/-
  text.ReadMap: the map of a text, or the error.
-/
import Derived.Test.YtdhfcelhgnjpcaaDoorNum
import Derived.Test.YtdhfcelhgnjpcaaDoorSplit
import Derived.Test.YtdhfcelhgnjpcaaDoorRegion
import Derived.Test.YtdhfcelhgnjpcaaDoorNewer
import Derived.Deep.AppendLies
import Derived.Deep.DrawnRows
import Derived.Deep.RegionHeld3
import Derived.KernelRfl
namespace Go.Proofs.YtdhfcelhgnjpcaaDoor
open Go.RowKit
attribute [local go_sem ↓] Go.wp_at_zero Go.wp_at_succ

theorem infoS : (Tryd.prog.info? 9).map (fun i => (i.zero, i.size, i.bytes)) = some (some (.string ⟨#[]⟩), 1, 16) := by kernel_rfl
theorem infoI : (Tryd.prog.info? 3).map (fun i => (i.zero, i.size, i.bytes)) = some (some (.int .i64 0), 1, 8) := by kernel_rfl
theorem heap_new {w : World} {n : Nat} (h : n = w.heap.size) (o : Obj) : (w.alloc o).heap[n]? = some o := by subst h; exact heap_alloc_new w o

/-- What lies in memory while ReadMap runs: the result's box, the map's box with A and B, the words, the two lists. -/
structure RM (N : Nat) (w : World) (X : Array Value) (A B vc : Value) (cs : List Str) (vo : Value) (os : List Int) (W : World) : Prop where
  cuts : W.ownsRow (N + 3) 9 1 vc cs.length (cs.map .string)
  owns : W.ownsRow (N + 3) 3 1 vo os.length (os.map (.int .i64))
  box : W.heap[N + 1]? = some (.cells #[A, B] 39 (0, 0))
  lits : W.heap[N + 2]? = some (.cells X 9 (0, 0))
  ret : W.heap[N]? = some (.cells #[.slice none 0 0, .slice none 0 0] 39 (0, 0))
  old : Below N w W
section
variable {N : Nat} {w : World} {X : Array Value} {A B vc : Value} {cs : List Str} {vo : Value} {os : List Int} {W W' : World}
theorem RM.size (h : RM N w X A B vc cs vo os W) : N + 2 < W.heap.size := heap_lt h.lits
theorem RM.alloc (h : RM N w X A B vc cs vo os W) (o : Obj) : RM N w X A B vc cs vo os (W.alloc o) :=
  ⟨h.cuts.alloc o, h.owns.alloc o, heap_alloc h.box o, heap_alloc h.lits o, heap_alloc h.ret o, h.old.alloc (by have := h.size; omega) o⟩
theorem RM.drew (h : RM N w X A B vc cs vo os W) : RM N w X A B vc cs vo os W.drew := ⟨h.cuts.drew, h.owns.drew, h.box, h.lits, h.ret, h.old.drew⟩
theorem RM.below (h : RM N w X A B vc cs vo os W) (hb : Below W.heap.size W W') : RM N w X A B vc cs vo os W' :=
  have hh : ∀ {b : Nat} {o : Obj}, W.heap[b]? = some o → W'.heap[b]? = some o := fun h => (hb.block _ (heap_lt h)).trans h
  ⟨owns_below h.cuts hb, owns_below h.owns hb, hh h.box, hh h.lits, hh h.ret, h.old.trans (hb.mono (by have := h.size; omega))⟩
theorem RM.set0 (h : RM N w X A B vc cs vo os W) (v : Value) : RM N w X v B vc cs vo os (W.setCell ⟨N + 1, 0, none⟩ v) :=
  ⟨owns_set h.cuts (owns_far h.cuts (by omega)) v, owns_set h.owns (owns_far h.owns (by omega)) v, heap_set_same h.box v, by rw [heap_set_other (by omega)]; exact h.lits,
    by rw [heap_set_other (by omega)]; exact h.ret, h.old.setCell (by simp) v⟩
theorem RM.set1 (h : RM N w X A B vc cs vo os W) (v : Value) : RM N w X A v vc cs vo os (W.setCell ⟨N + 1, 1, none⟩ v) :=
  ⟨owns_set h.cuts (owns_far h.cuts (by omega)) v, owns_set h.owns (owns_far h.owns (by omega)) v, heap_set_same h.box v, by rw [heap_set_other (by omega)]; exact h.lits,
    by rw [heap_set_other (by omega)]; exact h.ret, h.old.setCell (by simp) v⟩
theorem RM.growC (h : RM N w X A B vc cs vo os W) {vc' : Value} {cs' : List Str} (ho : W'.ownsRow (N + 3) 9 1 vc' cs'.length (cs'.map .string)) (hg : W.grownBy W' vc.ownBlock) : RM N w X A B vc' cs' vo os W' :=
  ⟨ho, h.owns.kept hg (owns_two h.owns h.cuts (by decide)), grown_heap hg h.box (owns_far h.cuts (by omega)), grown_heap hg h.lits (owns_far h.cuts (by omega)), grown_heap hg h.ret (owns_far h.cuts (by omega)),
    h.old.grown hg (by have := h.size; omega) (fun k hk => by have := (h.cuts.lt k hk).1; omega)⟩
theorem RM.growO (h : RM N w X A B vc cs vo os W) {vo' : Value} {os' : List Int} (ho : W'.ownsRow (N + 3) 3 1 vo' os'.length (os'.map (.int .i64))) (hg : W.grownBy W' vo.ownBlock) : RM N w X A B vc cs vo' os' W' :=
  ⟨h.cuts.kept hg (owns_two h.cuts h.owns (by decide)), ho, grown_heap hg h.box (owns_far h.owns (by omega)), grown_heap hg h.lits (owns_far h.owns (by omega)), grown_heap hg h.ret (owns_far h.owns (by omega)),
    h.old.grown hg (by have := h.size; omega) (fun k hk => by have := (h.owns.lt k hk).1; omega)⟩
theorem RM.c0 (h : RM N w X A B vc cs vo os W) : W.cell? ⟨N + 1, 0, none⟩ = some A := by rw [heap_cell h.box]; rfl
theorem RM.c1 (h : RM N w X A B vc cs vo os W) : W.cell? ⟨N + 1, 1, none⟩ = some B := by rw [heap_cell h.box]; rfl
theorem RM.f0 (h : RM N w X A B vc cs vo os W) : W.frozen? ⟨N + 1, 0, none⟩ = false := heap_free h.box 0
theorem RM.f1 (h : RM N w X A B vc cs vo os W) : W.frozen? ⟨N + 1, 1, none⟩ = false := heap_free h.box 1
theorem RM.done (h : RM N w X A B vc cs vo os W) (u v : Value) :
    ((W.setCell ⟨N, 0, none⟩ u).setCell ⟨N, 1, none⟩ v).ownsRow N 9 1 vc cs.length (cs.map .string) ∧ ((W.setCell ⟨N, 0, none⟩ u).setCell ⟨N, 1, none⟩ v).ownsRow N 3 1 vo os.length (os.map (.int .i64)) ∧
      Below N w ((W.setCell ⟨N, 0, none⟩ u).setCell ⟨N, 1, none⟩ v) ∧ ((W.setCell ⟨N, 0, none⟩ u).setCell ⟨N, 1, none⟩ v).heap[N]? = some (.cells #[u, v] 39 (0, 0)) :=
  ⟨owns_base (owns_set (owns_set h.cuts (owns_far h.cuts (by omega)) u) (owns_far h.cuts (by omega)) v) (by omega),
    owns_base (owns_set (owns_set h.owns (owns_far h.owns (by omega)) u) (owns_far h.owns (by omega)) v) (by omega),
    (h.old.setCell (Nat.le_refl _) u).setCell (Nat.le_refl _) v, heap_set_same (heap_set_same h.ret u) v⟩
end
theorem RM.start (w : World) (X : Array Value) : RM w.heap.size w X (.slice none 0 0) (.slice none 0 0) (.slice none 0 0) [] (.slice none 0 0) []
    (((w.alloc (Obj.cells #[Value.slice none 0 0, Value.slice none 0 0] 39)).alloc (Obj.cells #[Value.slice none 0 0, Value.slice none 0 0] 39)).alloc (.cells X 9)) := by
  refine ⟨⟨rfl, Or.inl ⟨rfl, rfl⟩⟩, ⟨rfl, Or.inl ⟨rfl, rfl⟩⟩, ?_, ?_, ?_, ?_⟩
  · exact heap_alloc (heap_new (by simp) _) _
  · exact heap_new (by simp) _
  · exact heap_alloc (heap_alloc (heap_new rfl _) _) _
  · exact ((below_alloc w _).alloc (below_alloc w _).size _).alloc ((below_alloc w _).alloc (below_alloc w _).size _).size _

/-- How far ReadMap has come: the words that are left, and what was read. -/
def RdTo (ws : List Bs) (k : Nat) (cs : List Str) (os : List Int) : Prop :=
  rdMap true ws = (rdMap (k % 2 == 0) (ws.drop k)).map fun x => (cs ++ x.1, os ++ x.2)
theorem rdTo_start (ws : List Bs) : RdTo ws 0 [] [] := by
  unfold RdTo
  cases h : rdMap true ws <;> simp [h]
theorem rdTo_cut {ws : List Bs} {k : Nat} {cs : List Str} {os : List Int} (h : RdTo ws k cs os) (hk : k < ws.length) (ho : k % 2 = 1) : RdTo ws (k + 1) (cs ++ [S (ws.getD k [])]) os := by
  unfold RdTo at h ⊢
  rw [h, List.drop_eq_getElem_cons hk]
  have e1 : (k % 2 == 0) = false := by simp; omega
  have e2 : ((k + 1) % 2 == 0) = true := by simp; omega
  have e3 : ws[k] = ws.getD k [] := by rw [List.getD_eq_getElem?_getD, List.getElem?_eq_getElem hk]; rfl
  rw [e1, e2, rdMap, e3]
  cases rdMap true (ws.drop (k + 1)) <;> simp [S]
theorem rdTo_own {ws : List Bs} {k : Nat} {cs : List Str} {os : List Int} {v : Int} (h : RdTo ws k cs os) (hk : k < ws.length) (ho : k % 2 = 0) (hv : numV (ws.getD k []) = some v) : RdTo ws (k + 1) cs (os ++ [v]) := by
  unfold RdTo at h ⊢
  rw [h, List.drop_eq_getElem_cons hk]
  have e1 : (k % 2 == 0) = true := by simp; omega
  have e2 : ((k + 1) % 2 == 0) = false := by simp; omega
  have e3 : ws[k] = ws.getD k [] := by rw [List.getD_eq_getElem?_getD, List.getElem?_eq_getElem hk]; rfl
  rw [e1, e2, rdMap, e3, hv]
  cases rdMap false (ws.drop (k + 1)) <;> simp
theorem rdTo_no {ws : List Bs} {k : Nat} {cs : List Str} {os : List Int} (h : RdTo ws k cs os) (hk : k < ws.length) (ho : k % 2 = 0) (hv : numV (ws.getD k []) = none) : rdMap true ws = none := by
  unfold RdTo at h
  rw [h, List.drop_eq_getElem_cons hk]
  have e1 : (k % 2 == 0) = true := by simp; omega
  have e3 : ws[k] = ws.getD k [] := by rw [List.getD_eq_getElem?_getD, List.getElem?_eq_getElem hk]; rfl
  rw [e1, rdMap, e3, hv]; rfl
theorem rdTo_end {ws : List Bs} {k : Nat} {cs : List Str} {os : List Int} (h : RdTo ws k cs os) (hk : k = ws.length) : rdMap true ws = some (cs, os) := by
  unfold RdTo at h
  rw [h, List.drop_of_length_le (by omega), rdMap]; simp

theorem spl_mem_len (c : UInt8) : ∀ l : Bs, ∀ x ∈ spl c l, x.length ≤ l.length
  | [], x, h => by simp [spl] at h; subst h; simp
  | b :: r, x, h => by
    have ih := spl_mem_len c r
    by_cases hb : b = c
    · rw [spl, if_pos hb] at h
      simp only [List.mem_cons] at h
      rcases h with rfl | h
      · simp
      · have := ih x h; simp; omega
    · rw [spl_eq c b r hb] at h
      cases hr : spl c r with
      | nil => exact absurd hr (spl_ne c r)
      | cons a t =>
        rw [hr] at h ih
        simp only [List.mem_cons] at h
        rcases h with rfl | h
        · have := ih a (by simp); simp; omega
        · have := ih x (by simp [h]); simp; omega
theorem sl_none (W : World) (size : Nat) : Sl W size none 0 0 [] := ⟨by simp, Nat.le_refl _, fun _ => rfl, fun j u hu => by simp at hu⟩
theorem mapAt_empty (W : World) : MapAt W none 0 0 none 0 0 emptyMap := ⟨sl_none W 1, sl_none W 1⟩
theorem readMap_none {s : Bs} (h : rdMap true (spl 58 s) = none) : readMap s = (emptyMap, 9) := by unfold readMap; rw [h]
theorem readMap_ok {s : Bs} {cs : List Str} {os : List Int} (h : rdMap true (spl 58 s) = some (cs, os)) (hc : mapCheck ⟨cs, os⟩ = 0) : readMap s = (⟨cs, os⟩, 0) := by unfold readMap; rw [h]; exact if_pos hc
theorem readMap_bad {s : Bs} {cs : List Str} {os : List Int} (h : rdMap true (spl 58 s) = some (cs, os)) (hc : ¬ mapCheck ⟨cs, os⟩ = 0) : readMap s = (emptyMap, mapCheck ⟨cs, os⟩) := by unfold readMap; rw [h]; exact if_neg hc
theorem RM.empty {N : Nat} {w : World} {X : Array Value} {A B vc : Value} {cs : List Str} {vo : Value} {os : List Int} {W : World} (h : RM N w X A B vc cs vo os W) :
    Below N w ((W.setCell ⟨N, 0, none⟩ (.slice none 0 0)).setCell ⟨N, 1, none⟩ (.slice none 0 0)) ∧ ((W.setCell ⟨N, 0, none⟩ (.slice none 0 0)).setCell ⟨N, 1, none⟩ (.slice none 0 0)).heap[N]? = some (.cells #[.slice none 0 0, .slice none 0 0] 39 (0, 0)) :=
  ⟨(h.done _ _).2.2.1, (h.done _ _).2.2.2⟩
theorem RM.r0 {N : Nat} {w : World} {X : Array Value} {A B vc : Value} {cs : List Str} {vo : Value} {os : List Int} {W : World} (h : RM N w X A B vc cs vo os W) :
    W.cell? ⟨N, 0, none⟩ = some (.slice none 0 0) ∧ W.cell? ⟨N, 1, none⟩ = some (.slice none 0 0) ∧ W.frozen? ⟨N, 0, none⟩ = false ∧ W.frozen? ⟨N, 1, none⟩ = false :=
  ⟨by rw [heap_cell h.ret]; rfl, by rw [heap_cell h.ret]; rfl, heap_free h.ret 0, heap_free h.ret 1⟩

set_option maxHeartbeats 4000000 in
theorem readMap_new (s : Str) (hs : s.size ≤ 1099511627) (w : World) (hE : Env w) :
    Calls Tryd.prog 59 #[.string s] w fun e w' => ∃ ao n c bo m d, e = .returned (.tuple #[.agg #[.slice ao n c, .slice bo m d], .int .i64 (readMap s.data.toList).2]) ∧
      MapAt w' ao n c bo m d (readMap s.data.toList).1 ∧ Fresh w.heap.size 9 w' ao ∧ Fresh w.heap.size 3 w' bo ∧ Below w.heap.size w w' := by
  obtain ⟨i9, hi9, hz9, hs9, hb9⟩ := info_parts infoS
  obtain ⟨i3, hi3, hz3, hs3, hb3⟩ := info_parts infoI
  obtain ⟨ws, hws⟩ : ∃ ws, spl 58 s.data.toList = ws := ⟨_, rfl⟩
  have hwl : ws.length ≤ s.size + 1 := hws ▸ spl_len 58 s
  have HE := Lib.hid hE; clear hE
  have HW := Lib.hid hws; clear hws
  go_enter Tryd.func59, Tryd.ntmps59
  go_wp2_with fail
  refine (split_exact s 58 (by omega) _ (HE.out.below ((below_alloc w _).alloc (below_alloc w _).size _))).mono ?_
  rintro e w1 ⟨rfl, hw1⟩
  have hz2 : ((w.alloc (.cells #[.slice none 0 0, .slice none 0 0] 39)).alloc (.cells #[.slice none 0 0, .slice none 0 0] 39)).heap.size = w.heap.size + 2 := by simp
  simp only [HW.out, hz2] at hw1 ⊢
  clear hz2
  have HS := RM.start w ((ws.map S).map .string).toArray
  rw [← hw1] at HS
  have HS1 := Lib.hid HS; clear HS hw1
  go_wp2_with fail
  go_loopw [13] (fun i wr => ∃ k : Nat, k ≤ ws.length ∧ i = .int .i64 k ∧ ∃ vc vo cs os, RM w.heap.size w ((ws.map S).map .string).toArray vc vo vc cs vo os wr ∧ RdTo ws k cs os ∧ cs.length ≤ k ∧ os.length ≤ k) (fun i _ => ws.length - (intOf i).toNat)
  case atStart => exact ⟨0, Nat.zero_le _, rfl, _, _, [], [], HS1.out, rdTo_start ws, Nat.le_refl _, Nat.le_refl _⟩
  case round =>
    obtain ⟨k, hk, rfl, vc, vo, cs, os, hi, hrd, hcl, hol⟩ := hrel
    have HRD := Lib.hid hrd; clear hrd
    have HI := Lib.hid hi
    have c0 := hi.c0
    have c1 := hi.c1
    have f0 := hi.f0
    have f1 := hi.f1
    have hbb := hi.size
    by_cases hlt : k < ws.length
    · obtain ⟨x, hx⟩ : ∃ x, ws.getD k [] = x := ⟨_, rfl⟩
      have hlit : wr.cell? ⟨w.heap.size + 2, k, none⟩ = some (.string (S x)) := by
        rw [heap_cell hi.lits, ← hx]
        simp [List.getD_eq_getElem?_getD, List.getElem?_eq_getElem hlt]
      have HX := Lib.hid hx; clear hx hi
      by_cases hodd : k % 2 = 1
      · have hm : (k : Int).tmod 2 = 1 := by rw [Int.tmod_eq_emod_of_nonneg (by omega)]; omega
        have hkb : k + 1 ≤ 2000000000 := by omega
        have HO := Lib.hid hodd; clear hodd
        have HCL := Lib.hid hcl; clear hcl
        have HOL := Lib.hid hol; clear hol
        have HWL := Lib.hid hwl; clear hwl
        have hcl := HCL.out
        have hwl := HWL.out
        go_wp2_with (at_builtin; refine wpList_append_lies _ (by rfl) _ _ 37 (by rfl) (w.heap.size + 3) 9 i9 _ 1 16 Tryd.underlying37 hi9 hz9 hs9 hb9 rfl (by omega) vc _ _ (by rfl) (HI.out.alloc (.cells #[.string (S x)] 9)).cuts ⟨wr.heap.size, 0, none⟩ 1 1 [.string (S x)] (by rfl) (by rfl) (World.news_of_block (cs := #[.string (S x)]) (t := 9) (fr := (0, 0)) (heap_alloc_new _ _)) (by simp [Value.oneCell']) (by omega) (by unfold maxLen; omega) (by omega) (by simp; omega) (wr.heap.size + 1) (by simp) ?_; intro g cap w3 hown3 hgrow3 hat3 hlt3; have M2 := Lib.hid ((HI.out.alloc (.cells #[.string (S x)] 9)).growC (cs' := cs ++ [S x]) (by simpa using hown3) hgrow3); have C0 := M2.out.c0; have F0 := M2.out.f0; have hz2 := M2.out.size; clear hown3 hgrow3 hat3 hcl hwl)
        have HZ := Lib.hid (M2.out.set0 (.slice (some ⟨g, 0, none⟩) (cs.length + 1) cap))
        go_roundw
        case rel => exact ⟨k + 1, by omega, by go_num, _, _, _, _, HZ.out, by rw [← HX.out]; exact rdTo_cut HRD.out hlt HO.out, by simp; exact HCL.out, Nat.le_succ_of_le HOL.out⟩
        case measure => simp [intOf]; omega
      · have hm : (k : Int).tmod 2 = 0 := by rw [Int.tmod_eq_emod_of_nonneg (by omega)]; omega
        have hev : k % 2 = 0 := by omega
        have hxs : (S x).size ≤ 1099511627776 := by
          have hmem : x ∈ ws := by
            rw [← HX.out, List.getD_eq_getElem?_getD, List.getElem?_eq_getElem hlt]; exact List.getElem_mem _
          rw [← HW.out] at hmem
          have h1 := spl_mem_len 58 s.data.toList x hmem
          have h2 : s.data.toList.length = s.size := rfl
          rw [S_size]; omega
        have hnum := num_any (S x) hxs wr (HE.out.below HI.out.old)
        rw [S_bytes] at hnum
        have HNU := Lib.hid hnum; clear hnum
        have hkb : k + 1 ≤ 2000000000 := by omega
        have HO := Lib.hid hev; clear hodd hev
        have HCL := Lib.hid hcl; clear hcl
        have HOL := Lib.hid hol; clear hol
        have HWL := Lib.hid hwl; clear hwl
        cases hv : numV x with
        | none =>
          have hrm := rdTo_no HRD.out hlt HO.out (by rw [HX.out]; exact hv)
          rw [← HW.out] at hrm
          have HR := Lib.hid (readMap_none hrm); clear hrm
          have HV := Lib.hid hv; clear hv
          go_wp2_with fail
          refine HNU.out.mono ?_
          rintro e w3 ⟨v, rfl, hvv, hb3⟩
          have HI3 := Lib.hid (HI.out.below hb3)
          rw [HV.out]
          clear hvv hb3
          obtain ⟨r0, r1, s0, s1⟩ := HI3.out.r0
          have hz3 := HI3.out.size
          go_wp2_with fail
          have HD := HI3.out.empty
          generalize ((w3.setCell ⟨w.heap.size, 0, none⟩ (.slice none 0 0)).setCell ⟨w.heap.size, 1, none⟩ (.slice none 0 0)) = W2 at HD ⊢
          have d0 : W2.cell? ⟨w.heap.size, 0, none⟩ = some (.slice none 0 0) := by rw [heap_cell HD.2]; rfl
          have d1 : W2.cell? ⟨w.heap.size, 1, none⟩ = some (.slice none 0 0) := by rw [heap_cell HD.2]; rfl
          refine bodyPost_ret (v := .tuple #[.agg #[.slice none 0 0, .slice none 0 0], .int .i64 9]) (by simp [results, Tryd.results59, go_sem, d0, d1]) rfl ⟨none, 0, 0, none, 0, 0, by rw [HR.out], by rw [HR.out]; exact mapAt_empty _, Fresh.nil _ _ _, Fresh.nil _ _ _, HD.1⟩
        | some v =>
          have hrn := rdTo_own HRD.out hlt HO.out (by rw [HX.out]; exact hv)
          have HR := Lib.hid hrn; clear hrn
          have HV := Lib.hid hv; clear hv
          go_wp2_with fail
          refine HNU.out.mono ?_
          rintro e w2 ⟨v', rfl, hvv, hb2⟩
          obtain rfl := hvv v HV.out
          have HI2 := Lib.hid (HI.out.below hb2)
          rw [HV.out]
          clear hvv hb2
          have b0 := HI2.out.c0; have b1 := HI2.out.c1; have g0 := HI2.out.f0; have g1 := HI2.out.f1
          have hzz := HI2.out.size
          have hol := HOL.out
          go_wp2_with (at_builtin; refine wpList_append_lies _ (by rfl) _ _ 29 (by rfl) (w.heap.size + 3) 3 i3 _ 1 8 Tryd.underlying29 hi3 hz3 hs3 hb3 rfl (by omega) vo _ _ (by rfl) (HI2.out.alloc (.cells #[.int .i64 v'] 3)).owns ⟨w2.heap.size, 0, none⟩ 1 1 [.int .i64 v'] (by rfl) (by rfl) (World.news_of_block (cs := #[.int .i64 v']) (t := 3) (fr := (0, 0)) (heap_alloc_new _ _)) (by simp [Value.oneCell']) (by omega) (by unfold maxLen; omega) (by omega) (by simp; omega) (w2.heap.size + 1) (by simp) ?_; intro g cap w3 hown3 hgrow3 hat3 hlt3; have M2 := Lib.hid ((HI2.out.alloc (.cells #[.int .i64 v'] 3)).growO (os' := os ++ [v']) (by simpa using hown3) hgrow3); have C0 := M2.out.c1; have F0 := M2.out.f1; have hz2 := M2.out.size; clear hown3 hgrow3 hat3 hol)
          have HZ := Lib.hid (M2.out.set1 (.slice (some ⟨g, 0, none⟩) (os.length + 1) cap))
          go_roundw
          case rel => exact ⟨k + 1, by omega, by go_num, _, _, _, _, HZ.out, HR.out, Nat.le_succ_of_le HCL.out, by simp; exact HOL.out⟩
          case measure => simp [intOf]; omega
    · obtain rfl : k = ws.length := by omega
      have hrn := rdTo_end HRD.out rfl
      rw [← HW.out] at hrn
      have HR := Lib.hid hrn; clear hrn
      obtain ⟨a1, e1, rfl, hs1⟩ := Sl.of_owns hi.cuts
      obtain ⟨a2, e2, rfl, hs2⟩ := Sl.of_owns hi.owns
      have hmap : MapAt wr a1 cs.length e1 a2 os.length e2 ⟨cs, os⟩ := ⟨hs1, hs2⟩
      have HM := Lib.hid hmap; clear hmap hs1 hs2 hi
      have hchk := check_any a1 a2 cs.length e1 os.length e2 ⟨cs, os⟩ wr HM.out (by omega)
      have HCH := Lib.hid hchk; clear hchk
      have HCL := Lib.hid hcl; clear hcl
      have HOL := Lib.hid hol; clear hol
      by_cases hc : mapCheck ⟨cs, os⟩ = 0
      · have hcb : (mapCheck ⟨cs, os⟩ != 0) = false := by rw [hc]; rfl
        have HRM := Lib.hid (readMap_ok HR.out hc); clear hc
        go_wp2_with fail
        refine HCH.out.mono ?_
        rintro e w3 ⟨rfl, hb3⟩
        have HI3 := Lib.hid (HI.out.below hb3)
        clear hb3
        obtain ⟨r0, r1, s0, s1⟩ := HI3.out.r0
        have hz3 := HI3.out.size
        have b0 := HI3.out.c0; have b1 := HI3.out.c1
        go_wp2_with fail
        have HD := HI3.out.done (.slice a1 cs.length e1) (.slice a2 os.length e2)
        generalize ((w3.setCell ⟨w.heap.size, 0, none⟩ (.slice a1 cs.length e1)).setCell ⟨w.heap.size, 1, none⟩ (.slice a2 os.length e2)) = W2 at HD ⊢
        have d0 : W2.cell? ⟨w.heap.size, 0, none⟩ = some (.slice a1 cs.length e1) := by rw [heap_cell HD.2.2.2]; rfl
        have d1 : W2.cell? ⟨w.heap.size, 1, none⟩ = some (.slice a2 os.length e2) := by rw [heap_cell HD.2.2.2]; rfl
        refine bodyPost_ret (v := .tuple #[.agg #[.slice a1 cs.length e1, .slice a2 os.length e2], .int .i64 0]) (by simp [results, Tryd.results59, go_sem, d0, d1]) rfl
          ⟨_, _, _, _, _, _, by rw [HRM.out], by rw [HRM.out]; exact ⟨(Sl.of_own HD.1).2, (Sl.of_own HD.2.1).2⟩, Fresh.of_own HD.1, Fresh.of_own HD.2.1, HD.2.2.1⟩
      · have hcb : (mapCheck ⟨cs, os⟩ != 0) = true := by simpa using hc
        have HRM := Lib.hid (readMap_bad HR.out hc); clear hc
        go_wp2_with fail
        refine HCH.out.mono ?_
        rintro e w3 ⟨rfl, hb3⟩
        have HI3 := Lib.hid (HI.out.below hb3)
        clear hb3
        obtain ⟨r0, r1, s0, s1⟩ := HI3.out.r0
        have hz3 := HI3.out.size
        go_wp2_with fail
        have HD := HI3.out.empty
        generalize ((w3.setCell ⟨w.heap.size, 0, none⟩ (.slice none 0 0)).setCell ⟨w.heap.size, 1, none⟩ (.slice none 0 0)) = W2 at HD ⊢
        have d0 : W2.cell? ⟨w.heap.size, 0, none⟩ = some (.slice none 0 0) := by rw [heap_cell HD.2]; rfl
        have d1 : W2.cell? ⟨w.heap.size, 1, none⟩ = some (.slice none 0 0) := by rw [heap_cell HD.2]; rfl
        refine bodyPost_ret (v := .tuple #[.agg #[.slice none 0 0, .slice none 0 0], .int .i64 (mapCheck ⟨cs, os⟩)]) (by simp [results, Tryd.results59, go_sem, d0, d1]) rfl ⟨none, 0, 0, none, 0, 0, by rw [HRM.out], by rw [HRM.out]; exact mapAt_empty _, Fresh.nil _ _ _, Fresh.nil _ _ _, HD.1⟩
theorem readMap_any (s : Str) (hs : s.size ≤ 1099511627) (w : World) (hE : Env w) :
    Calls Tryd.prog 59 #[.string s] w fun e w' => ∃ ao n c bo m d, e = .returned (.tuple #[.agg #[.slice ao n c, .slice bo m d], .int .i64 (readMap s.data.toList).2]) ∧
      MapAt w' ao n c bo m d (readMap s.data.toList).1 ∧ Below w.heap.size w w' :=
  (readMap_new s hs w hE).mono fun _ _ ⟨ao, n, c, bo, m, d, h1, h2, _, _, h3⟩ => ⟨ao, n, c, bo, m, d, h1, h2, h3⟩
end Go.Proofs.YtdhfcelhgnjpcaaDoor
