/-
  text.readOp: the operation of a word.
-/
import Derived.Test.YtdhfcelhgnjpcaaDoorIndexAny
import Derived.Test.YtdhfcelhgnjpcaaDoorDeedCheck
import Derived.Test.YtdhfcelhgnjpcaaDoorNum
import Derived.Test.YtdhfcelhgnjpcaaDoorReadMap
namespace Go.Proofs.YtdhfcelhgnjpcaaDoor
open Go.RowKit

theorem index_star : ∀ l : Bs, Lib.index l [42] = match cutStar l with | none => -1 | some x => (x.1.length : Int)
  | [] => rfl
  | b :: r => by
    have ih := index_star r
    by_cases h : b = 42
    · subst h
      rw [Lib.index]; simp [List.isPrefixOf, cutStar]
    · have hp : ([42] : List UInt8).isPrefixOf (b :: r) = false := by simp [List.isPrefixOf, Ne.symm h]
      have hix : Lib.index (b :: r) [42] = if Lib.index r [42] == -1 then -1 else Lib.index r [42] + 1 := by rw [Lib.index, hp]; simp
      rw [hix, ih, cutStar, if_neg h]
      cases cutStar r with
      | none => rfl
      | some x =>
        have : ¬ ((x.1.length : Int) == -1) = true := by simp <;> omega
        simp [this]
theorem cut_star (l : Bs) : Lib.cut l [42] = match cutStar l with | none => (l, [], false) | some x => (x.1, x.2, true) := by
  have h := index_star l
  cases hs : cutStar l with
  | none => rw [hs] at h; simp only at h; simp [Lib.cut, h]
  | some x =>
    obtain ⟨f, t⟩ := x
    rw [hs] at h
    have hl := cutStar_some hs
    simp only at h
    subst hl
    simp [Lib.cut, h]
theorem ext_head (a : Bs) (c : UInt8) (r : Bs) : (S (a ++ c :: r)).extract 0 a.length = S a := by
  apply str_eq; rw [Lib.extract_data, S_bytes, S_bytes]; simp
theorem ext_tail (a : Bs) (c : UInt8) (r : Bs) : (S (a ++ c :: r)).extract (a.length + 1) (S (a ++ c :: r)).size = S r := by
  apply str_eq; rw [Lib.extract_data, S_bytes, S_bytes, S_size]; simp
  exact List.take_of_length_le (by omega)
theorem at_mark (a : Bs) (c : UInt8) (r : Bs) (h : a.length < (S (a ++ c :: r)).size) : (S (a ++ c :: r))[a.length]'h = c := by
  have := Lib.data_getElem? (S (a ++ c :: r)) a.length h
  rw [S_bytes] at this; simpa using this.symm

theorem at_mark' {s : Str} {a : Bs} {c : UInt8} {r : Bs} (hS : s = S (a ++ c :: r)) (h : a.length < s.size) : s[a.length]'h = c := by subst hS; exact at_mark a c r h
theorem ret4 {w W : World} {a b c d : Value} {T : TypeId} (h : W.heap[w.heap.size]? = some (.cells #[a, b, c, d] T (0, 0))) (hb : Below w.heap.size w W) (v0 v1 v2 v3 : Value) :
    ((((W.setCell ⟨w.heap.size, 0, none⟩ v0).setCell ⟨w.heap.size, 1, none⟩ v1).setCell ⟨w.heap.size, 2, none⟩ v2).setCell ⟨w.heap.size, 3, none⟩ v3).heap[w.heap.size]? = some (.cells #[v0, v1, v2, v3] T (0, 0)) ∧
      Below w.heap.size w ((((W.setCell ⟨w.heap.size, 0, none⟩ v0).setCell ⟨w.heap.size, 1, none⟩ v1).setCell ⟨w.heap.size, 2, none⟩ v2).setCell ⟨w.heap.size, 3, none⟩ v3) :=
  ⟨heap_set_same (heap_set_same (heap_set_same (heap_set_same h v0) v1) v2) v3, (((hb.setCell (Nat.le_refl _) v0).setCell (Nat.le_refl _) v1).setCell (Nat.le_refl _) v2).setCell (Nat.le_refl _) v3⟩
set_option maxHeartbeats 4000000 in
theorem readOp_any (s : Str) (hs : s.size ≤ 1099511627) (w : World) (hE : Env w) :
    Calls Tryd.prog 50 #[.string s] w fun e w' => ∃ o : POp, e = .returned (.tuple #[opVal o, .bool (rdOp s.data.toList).isSome]) ∧ (∀ x, rdOp s.data.toList = some x → o = x) ∧ Below w.heap.size w w' := by
  have HE := Lib.hid hE; clear hE
  have hin := fun W => indexMark_any s (by omega) W
  cases hc : cutMark s.data.toList with
  | none =>
    have hr : rdOp s.data.toList = none := by rw [rdOp, hc]; rfl
    have hm : markAt s.data.toList = -1 := by rw [markAt, hc]
    rw [hm] at hin
    have HR := Lib.hid hr; clear hr hm hc
    have HIN := Lib.hid hin; clear hin
    go_enter Tryd.func50, Tryd.ntmps50
    go_wp2_with fail
    refine (HIN.out _).mono ?_
    rintro e w1 ⟨rfl, hb1⟩
    have hret : w1.heap[w.heap.size]? = some (.cells #[.int .i64 0, .string ⟨#[]⟩, .string ⟨#[]⟩, .int .i64 0] 54 (0, 0)) := (hb1.block _ (by simp)).trans (heap_new rfl _)
    have hB1 := (below_alloc w (.cells #[.int .i64 0, .string ⟨#[]⟩, .string ⟨#[]⟩, .int .i64 0] 54)).trans (hb1.mono (below_alloc w _).size)
    have HB1 := Lib.hid hB1
    have q0 : w1.cell? ⟨w.heap.size, 0, none⟩ = some (.int .i64 0) := heap_cell hret 0
    have q1 : w1.cell? ⟨w.heap.size, 1, none⟩ = some (.string ⟨#[]⟩) := heap_cell hret 1
    have q2 : w1.cell? ⟨w.heap.size, 2, none⟩ = some (.string ⟨#[]⟩) := heap_cell hret 2
    have q3 : w1.cell? ⟨w.heap.size, 3, none⟩ = some (.int .i64 0) := heap_cell hret 3
    have f0 := heap_free hret 0; have f1 := heap_free hret 1; have f2 := heap_free hret 2; have f3 := heap_free hret 3
    have hz := heap_lt hret
    have HRT := Lib.hid hret; clear hret hB1 hb1
    go_wp2_with fail
    have HD := ret4 HRT.out HB1.out (.int .i64 0) (.string ⟨#[]⟩) (.string ⟨#[]⟩) (.int .i64 0)
    generalize ((((w1.setCell ⟨w.heap.size, 0, none⟩ (.int .i64 0)).setCell ⟨w.heap.size, 1, none⟩ (.string ⟨#[]⟩)).setCell ⟨w.heap.size, 2, none⟩ (.string ⟨#[]⟩)).setCell ⟨w.heap.size, 3, none⟩ (.int .i64 0)) = W2 at HD ⊢
    have d0 : W2.cell? ⟨w.heap.size, 0, none⟩ = some (.int .i64 0) := heap_cell HD.1 0
    have d1 : W2.cell? ⟨w.heap.size, 1, none⟩ = some (.string ⟨#[]⟩) := heap_cell HD.1 1
    have d2 : W2.cell? ⟨w.heap.size, 2, none⟩ = some (.string ⟨#[]⟩) := heap_cell HD.1 2
    have d3 : W2.cell? ⟨w.heap.size, 3, none⟩ = some (.int .i64 0) := heap_cell HD.1 3
    refine bodyPost_ret (v := .tuple #[.agg #[.int .i64 0, .string ⟨#[]⟩, .string ⟨#[]⟩, .int .i64 0], .bool false]) (by simp [results, Tryd.results50, go_sem, d0, d1, d2, d3]) rfl ⟨⟨0, ⟨#[]⟩, ⟨#[]⟩, 0⟩, by rw [HR.out]; rfl, by rw [HR.out]; (intro x h; cases h), HD.2⟩
  | some x =>
    obtain ⟨a, c, r⟩ := x
    obtain ⟨hsl, hmk, _⟩ := cutMark_some hc
    have hm : markAt s.data.toList = (a.length : Int) := by rw [markAt, hc]
    have hS : s = S (a ++ c :: r) := by rw [← S_eta s, hsl]
    rw [hm] at hin
    have hsz : s.size = a.length + 1 + r.length := by rw [hS, S_size]; simp; omega
    have hx1 : s.extract 0 a.length = S a := by rw [hS]; exact ext_head a c r
    have hx2 : s.extract (a.length + 1) s.size = S r := by rw [hS]; exact ext_tail a c r
    have hx3 := at_mark' hS (by omega)
    clear hsl hm hS
    have hal : (a.length : Int) < s.size := by omega
    have hal' : a.length < s.size := by omega
    have HIN := Lib.hid hin; clear hin
    have HC := Lib.hid hc; clear hc
    have hx2' : s.extract (a.length + 1) (a.length + 1 + r.length) = S r := by rw [← hsz]; exact hx2
    have HX2 := Lib.hid hx2'; clear hx2 hx2'
    rcases (show c = 61 ∨ c = 43 ∨ c = 63 ∨ c = 60 by
      simp only [isMark, Bool.or_eq_true, beq_iff_eq] at hmk
      rcases hmk with ((h | h) | h) | h
      · exact .inl h
      · exact .inr (.inl h)
      · exact .inr (.inr (.inr h))
      · exact .inr (.inr (.inl h))) with rfl | rfl | rfl | rfl
    · go_enter Tryd.func50, Tryd.ntmps50
      go_wp2_with fail
      refine (HIN.out _).mono ?_
      rintro e w1 ⟨rfl, hb1⟩
      have hret : w1.heap[w.heap.size]? = some (.cells #[.int .i64 0, .string ⟨#[]⟩, .string ⟨#[]⟩, .int .i64 0] 54 (0, 0)) := (hb1.block _ (by simp)).trans (heap_new rfl _)
      have hB1 := (below_alloc w (.cells #[.int .i64 0, .string ⟨#[]⟩, .string ⟨#[]⟩, .int .i64 0] 54)).trans (hb1.mono (below_alloc w _).size)
      have HB1 := Lib.hid hB1
      have hz := heap_lt hret
      have HRT := Lib.hid hret; clear hret hB1 hb1
      go_wp2_with fail
      rw [HX2.out]
      have HBX := Lib.hid (HB1.out.alloc HB1.out.size (.cells #[.int .i64 1, .string (S a), .string ⟨#[]⟩, .int .i64 0] 54))
      refine (num_any (S r) (by rw [S_size]; omega) _ (HE.out.below HBX.out)).mono ?_
      rintro e w3 ⟨n, rfl, hnv, hb3⟩
      rw [S_bytes] at hnv ⊢
      have hob : w3.heap[w1.heap.size]? = some (.cells #[.int .i64 1, .string (S a), .string ⟨#[]⟩, .int .i64 0] 54) := (hb3.block _ (by simp)).trans (heap_new rfl _)
      have hre : w3.heap[w.heap.size]? = some (.cells #[.int .i64 0, .string ⟨#[]⟩, .string ⟨#[]⟩, .int .i64 0] 54 (0, 0)) := (hb3.block _ (by simp; omega)).trans (heap_alloc HRT.out _)
      have HB3 := Lib.hid (HBX.out.trans (hb3.mono HBX.out.size)); clear hb3
      have q0 : w3.cell? ⟨w.heap.size, 0, none⟩ = some (.int .i64 0) := heap_cell hre 0
      have q1 : w3.cell? ⟨w.heap.size, 1, none⟩ = some (.string ⟨#[]⟩) := heap_cell hre 1
      have q2 : w3.cell? ⟨w.heap.size, 2, none⟩ = some (.string ⟨#[]⟩) := heap_cell hre 2
      have q3 : w3.cell? ⟨w.heap.size, 3, none⟩ = some (.int .i64 0) := heap_cell hre 3
      have f0 := heap_free hre 0; have f1 := heap_free hre 1; have f2 := heap_free hre 2; have f3 := heap_free hre 3
      have p0 : w3.cell? ⟨w1.heap.size, 0, none⟩ = some (.int .i64 1) := heap_cell hob 0
      have p1 : w3.cell? ⟨w1.heap.size, 1, none⟩ = some (.string (S a)) := heap_cell hob 1
      have p2 : w3.cell? ⟨w1.heap.size, 2, none⟩ = some (.string ⟨#[]⟩) := heap_cell hob 2
      have p3 : w3.cell? ⟨w1.heap.size, 3, none⟩ = some (.int .i64 0) := heap_cell hob 3
      have g3 := heap_free hob 3
      have hl1 := heap_lt hob; have hl2 := heap_lt hre
      have HRE := Lib.hid hre; clear hre hob
      go_wp2_with fail
      have HD := ret4 (W := w3.setCell ⟨w1.heap.size, 3, none⟩ (.int .i64 n)) (by rw [heap_set_other (by omega)]; exact HRE.out) (HB3.out.setCell (by simp; omega) _) (.int .i64 1) (.string (S a)) (.string ⟨#[]⟩) (.int .i64 n)
      generalize (((((w3.setCell ⟨w1.heap.size, 3, none⟩ (.int .i64 n)).setCell ⟨w.heap.size, 0, none⟩ (.int .i64 1)).setCell ⟨w.heap.size, 1, none⟩ (.string (S a))).setCell ⟨w.heap.size, 2, none⟩ (.string ⟨#[]⟩)).setCell ⟨w.heap.size, 3, none⟩ (.int .i64 n)) = W2 at HD ⊢
      have d0 : W2.cell? ⟨w.heap.size, 0, none⟩ = some (.int .i64 1) := heap_cell HD.1 0
      have d1 : W2.cell? ⟨w.heap.size, 1, none⟩ = some (.string (S a)) := heap_cell HD.1 1
      have d2 : W2.cell? ⟨w.heap.size, 2, none⟩ = some (.string ⟨#[]⟩) := heap_cell HD.1 2
      have d3 : W2.cell? ⟨w.heap.size, 3, none⟩ = some (.int .i64 n) := heap_cell HD.1 3
      have hrd : rdOp s.data.toList = (numV r).map fun n => ⟨1, S a, noStr, n⟩ := by rw [rdOp, HC.out]; rfl
      refine bodyPost_ret (v := .tuple #[.agg #[.int .i64 1, .string (S a), .string ⟨#[]⟩, .int .i64 n], .bool (numV r).isSome]) (by simp [results, Tryd.results50, go_sem, d0, d1, d2, d3]) rfl
        ⟨⟨1, S a, ⟨#[]⟩, n⟩, by rw [hrd, Option.isSome_map]; rfl, ?_, HD.2⟩
      intro x hx
      rw [hrd] at hx
      cases hv : numV r with
      | none => rw [hv] at hx; cases hx
      | some v => rw [hv] at hx; cases hx; rw [hnv v hv]; rfl
    · go_enter Tryd.func50, Tryd.ntmps50
      go_wp2_with fail
      refine (HIN.out _).mono ?_
      rintro e w1 ⟨rfl, hb1⟩
      have hret : w1.heap[w.heap.size]? = some (.cells #[.int .i64 0, .string ⟨#[]⟩, .string ⟨#[]⟩, .int .i64 0] 54 (0, 0)) := (hb1.block _ (by simp)).trans (heap_new rfl _)
      have hB1 := (below_alloc w (.cells #[.int .i64 0, .string ⟨#[]⟩, .string ⟨#[]⟩, .int .i64 0] 54)).trans (hb1.mono (below_alloc w _).size)
      have HB1 := Lib.hid hB1
      have hz := heap_lt hret
      have HRT := Lib.hid hret; clear hret hB1 hb1
      go_wp2_with fail
      rw [HX2.out]
      have HBX := Lib.hid (HB1.out.alloc HB1.out.size (.cells #[.int .i64 2, .string (S a), .string ⟨#[]⟩, .int .i64 0] 54))
      refine (num_any (S r) (by rw [S_size]; omega) _ (HE.out.below HBX.out)).mono ?_
      rintro e w3 ⟨n, rfl, hnv, hb3⟩
      rw [S_bytes] at hnv ⊢
      have hob : w3.heap[w1.heap.size]? = some (.cells #[.int .i64 2, .string (S a), .string ⟨#[]⟩, .int .i64 0] 54) := (hb3.block _ (by simp)).trans (heap_new rfl _)
      have hre : w3.heap[w.heap.size]? = some (.cells #[.int .i64 0, .string ⟨#[]⟩, .string ⟨#[]⟩, .int .i64 0] 54 (0, 0)) := (hb3.block _ (by simp; omega)).trans (heap_alloc HRT.out _)
      have HB3 := Lib.hid (HBX.out.trans (hb3.mono HBX.out.size)); clear hb3
      have q0 : w3.cell? ⟨w.heap.size, 0, none⟩ = some (.int .i64 0) := heap_cell hre 0
      have q1 : w3.cell? ⟨w.heap.size, 1, none⟩ = some (.string ⟨#[]⟩) := heap_cell hre 1
      have q2 : w3.cell? ⟨w.heap.size, 2, none⟩ = some (.string ⟨#[]⟩) := heap_cell hre 2
      have q3 : w3.cell? ⟨w.heap.size, 3, none⟩ = some (.int .i64 0) := heap_cell hre 3
      have f0 := heap_free hre 0; have f1 := heap_free hre 1; have f2 := heap_free hre 2; have f3 := heap_free hre 3
      have p0 : w3.cell? ⟨w1.heap.size, 0, none⟩ = some (.int .i64 2) := heap_cell hob 0
      have p1 : w3.cell? ⟨w1.heap.size, 1, none⟩ = some (.string (S a)) := heap_cell hob 1
      have p2 : w3.cell? ⟨w1.heap.size, 2, none⟩ = some (.string ⟨#[]⟩) := heap_cell hob 2
      have p3 : w3.cell? ⟨w1.heap.size, 3, none⟩ = some (.int .i64 0) := heap_cell hob 3
      have g3 := heap_free hob 3
      have hl1 := heap_lt hob; have hl2 := heap_lt hre
      have HRE := Lib.hid hre; clear hre hob
      go_wp2_with fail
      have HD := ret4 (W := w3.setCell ⟨w1.heap.size, 3, none⟩ (.int .i64 n)) (by rw [heap_set_other (by omega)]; exact HRE.out) (HB3.out.setCell (by simp; omega) _) (.int .i64 2) (.string (S a)) (.string ⟨#[]⟩) (.int .i64 n)
      generalize (((((w3.setCell ⟨w1.heap.size, 3, none⟩ (.int .i64 n)).setCell ⟨w.heap.size, 0, none⟩ (.int .i64 2)).setCell ⟨w.heap.size, 1, none⟩ (.string (S a))).setCell ⟨w.heap.size, 2, none⟩ (.string ⟨#[]⟩)).setCell ⟨w.heap.size, 3, none⟩ (.int .i64 n)) = W2 at HD ⊢
      have d0 : W2.cell? ⟨w.heap.size, 0, none⟩ = some (.int .i64 2) := heap_cell HD.1 0
      have d1 : W2.cell? ⟨w.heap.size, 1, none⟩ = some (.string (S a)) := heap_cell HD.1 1
      have d2 : W2.cell? ⟨w.heap.size, 2, none⟩ = some (.string ⟨#[]⟩) := heap_cell HD.1 2
      have d3 : W2.cell? ⟨w.heap.size, 3, none⟩ = some (.int .i64 n) := heap_cell HD.1 3
      have hrd : rdOp s.data.toList = (numV r).map fun n => ⟨2, S a, noStr, n⟩ := by rw [rdOp, HC.out]; rfl
      refine bodyPost_ret (v := .tuple #[.agg #[.int .i64 2, .string (S a), .string ⟨#[]⟩, .int .i64 n], .bool (numV r).isSome]) (by simp [results, Tryd.results50, go_sem, d0, d1, d2, d3]) rfl
        ⟨⟨2, S a, ⟨#[]⟩, n⟩, by rw [hrd, Option.isSome_map]; rfl, ?_, HD.2⟩
      intro x hx
      rw [hrd] at hx
      cases hv : numV r with
      | none => rw [hv] at hx; cases hx
      | some v => rw [hv] at hx; cases hx; rw [hnv v hv]; rfl
    · go_enter Tryd.func50, Tryd.ntmps50
      go_wp2_with fail
      refine (HIN.out _).mono ?_
      rintro e w1 ⟨rfl, hb1⟩
      have hret : w1.heap[w.heap.size]? = some (.cells #[.int .i64 0, .string ⟨#[]⟩, .string ⟨#[]⟩, .int .i64 0] 54 (0, 0)) := (hb1.block _ (by simp)).trans (heap_new rfl _)
      have hB1 := (below_alloc w (.cells #[.int .i64 0, .string ⟨#[]⟩, .string ⟨#[]⟩, .int .i64 0] 54)).trans (hb1.mono (below_alloc w _).size)
      have HB1 := Lib.hid hB1
      have hz := heap_lt hret
      have HRT := Lib.hid hret; clear hret hB1 hb1
      go_wp2_with fail
      rw [HX2.out]
      have HBX := Lib.hid (HB1.out.alloc HB1.out.size (.cells #[.int .i64 4, .string (S a), .string ⟨#[]⟩, .int .i64 0] 54))
      refine (num_any (S r) (by rw [S_size]; omega) _ (HE.out.below HBX.out)).mono ?_
      rintro e w3 ⟨n, rfl, hnv, hb3⟩
      rw [S_bytes] at hnv ⊢
      have hob : w3.heap[w1.heap.size]? = some (.cells #[.int .i64 4, .string (S a), .string ⟨#[]⟩, .int .i64 0] 54) := (hb3.block _ (by simp)).trans (heap_new rfl _)
      have hre : w3.heap[w.heap.size]? = some (.cells #[.int .i64 0, .string ⟨#[]⟩, .string ⟨#[]⟩, .int .i64 0] 54 (0, 0)) := (hb3.block _ (by simp; omega)).trans (heap_alloc HRT.out _)
      have HB3 := Lib.hid (HBX.out.trans (hb3.mono HBX.out.size)); clear hb3
      have q0 : w3.cell? ⟨w.heap.size, 0, none⟩ = some (.int .i64 0) := heap_cell hre 0
      have q1 : w3.cell? ⟨w.heap.size, 1, none⟩ = some (.string ⟨#[]⟩) := heap_cell hre 1
      have q2 : w3.cell? ⟨w.heap.size, 2, none⟩ = some (.string ⟨#[]⟩) := heap_cell hre 2
      have q3 : w3.cell? ⟨w.heap.size, 3, none⟩ = some (.int .i64 0) := heap_cell hre 3
      have f0 := heap_free hre 0; have f1 := heap_free hre 1; have f2 := heap_free hre 2; have f3 := heap_free hre 3
      have p0 : w3.cell? ⟨w1.heap.size, 0, none⟩ = some (.int .i64 4) := heap_cell hob 0
      have p1 : w3.cell? ⟨w1.heap.size, 1, none⟩ = some (.string (S a)) := heap_cell hob 1
      have p2 : w3.cell? ⟨w1.heap.size, 2, none⟩ = some (.string ⟨#[]⟩) := heap_cell hob 2
      have p3 : w3.cell? ⟨w1.heap.size, 3, none⟩ = some (.int .i64 0) := heap_cell hob 3
      have g3 := heap_free hob 3
      have hl1 := heap_lt hob; have hl2 := heap_lt hre
      have HRE := Lib.hid hre; clear hre hob
      go_wp2_with fail
      have HD := ret4 (W := w3.setCell ⟨w1.heap.size, 3, none⟩ (.int .i64 n)) (by rw [heap_set_other (by omega)]; exact HRE.out) (HB3.out.setCell (by simp; omega) _) (.int .i64 4) (.string (S a)) (.string ⟨#[]⟩) (.int .i64 n)
      generalize (((((w3.setCell ⟨w1.heap.size, 3, none⟩ (.int .i64 n)).setCell ⟨w.heap.size, 0, none⟩ (.int .i64 4)).setCell ⟨w.heap.size, 1, none⟩ (.string (S a))).setCell ⟨w.heap.size, 2, none⟩ (.string ⟨#[]⟩)).setCell ⟨w.heap.size, 3, none⟩ (.int .i64 n)) = W2 at HD ⊢
      have d0 : W2.cell? ⟨w.heap.size, 0, none⟩ = some (.int .i64 4) := heap_cell HD.1 0
      have d1 : W2.cell? ⟨w.heap.size, 1, none⟩ = some (.string (S a)) := heap_cell HD.1 1
      have d2 : W2.cell? ⟨w.heap.size, 2, none⟩ = some (.string ⟨#[]⟩) := heap_cell HD.1 2
      have d3 : W2.cell? ⟨w.heap.size, 3, none⟩ = some (.int .i64 n) := heap_cell HD.1 3
      have hrd : rdOp s.data.toList = (numV r).map fun n => ⟨4, S a, noStr, n⟩ := by rw [rdOp, HC.out]; rfl
      refine bodyPost_ret (v := .tuple #[.agg #[.int .i64 4, .string (S a), .string ⟨#[]⟩, .int .i64 n], .bool (numV r).isSome]) (by simp [results, Tryd.results50, go_sem, d0, d1, d2, d3]) rfl
        ⟨⟨4, S a, ⟨#[]⟩, n⟩, by rw [hrd, Option.isSome_map]; rfl, ?_, HD.2⟩
      intro x hx
      rw [hrd] at hx
      cases hv : numV r with
      | none => rw [hv] at hx; cases hx
      | some v => rw [hv] at hx; cases hx; rw [hnv v hv]; rfl
    · go_enter Tryd.func50, Tryd.ntmps50
      go_wp2_with fail
      refine (HIN.out _).mono ?_
      rintro e w1 ⟨rfl, hb1⟩
      have hret : w1.heap[w.heap.size]? = some (.cells #[.int .i64 0, .string ⟨#[]⟩, .string ⟨#[]⟩, .int .i64 0] 54 (0, 0)) := (hb1.block _ (by simp)).trans (heap_new rfl _)
      have hB1 := (below_alloc w (.cells #[.int .i64 0, .string ⟨#[]⟩, .string ⟨#[]⟩, .int .i64 0] 54)).trans (hb1.mono (below_alloc w _).size)
      have HB1 := Lib.hid hB1
      have hz := heap_lt hret
      have HRT := Lib.hid hret; clear hret hB1 hb1
      go_wp2_with fail
      rw [HX2.out]
      have HBX := Lib.hid (HB1.out.alloc HB1.out.size (.cells #[.int .i64 3, .string (S a), .string (S r), .int .i64 0] 54))
      obtain ⟨mx, hmx⟩ := (HE.out.below HBX.out).max
      refine (Tryd.strings_Cut (S r) ⟨#[42]⟩ mx _ (by rw [S_size]; omega) hmx).mono ?_
      rintro e w2 ⟨rfl, nd, rfl⟩
      have hct : Lib.cut (S r).data.toList (⟨#[42]⟩ : ByteArray).data.toList = (match cutStar r with | none => (r, [], false) | some x => (x.1, x.2, true)) := by rw [S_bytes]; exact cut_star r
      rw [hct]
      clear hct
      have hob : ((w1.alloc (.cells #[.int .i64 3, .string (S a), .string (S r), .int .i64 0] 54)).drewN nd).heap[w1.heap.size]? = some (.cells #[.int .i64 3, .string (S a), .string (S r), .int .i64 0] 54 (0, 0)) := by
        have := (below_drewN (Below.refl (w1.heap.size + 1) (w1.alloc (.cells #[.int .i64 3, .string (S a), .string (S r), .int .i64 0] 54))) nd).block w1.heap.size (by omega)
        exact this.trans (heap_new rfl _)
      have hre : ((w1.alloc (.cells #[.int .i64 3, .string (S a), .string (S r), .int .i64 0] 54)).drewN nd).heap[w.heap.size]? = some (.cells #[.int .i64 0, .string ⟨#[]⟩, .string ⟨#[]⟩, .int .i64 0] 54 (0, 0)) := by
        have := (below_drewN (Below.refl (w1.heap.size + 1) (w1.alloc (.cells #[.int .i64 3, .string (S a), .string (S r), .int .i64 0] 54))) nd).block w.heap.size (by omega)
        exact this.trans (heap_alloc HRT.out _)
      have HB2 := Lib.hid (below_drewN HBX.out nd)
      generalize (w1.alloc (.cells #[.int .i64 3, .string (S a), .string (S r), .int .i64 0] 54)).drewN nd = w2 at hob hre HB2 ⊢
      cases hst : cutStar r with
      | none =>
        have q0 : w2.cell? ⟨w.heap.size, 0, none⟩ = some (.int .i64 0) := heap_cell hre 0
        have q1 : w2.cell? ⟨w.heap.size, 1, none⟩ = some (.string ⟨#[]⟩) := heap_cell hre 1
        have q2 : w2.cell? ⟨w.heap.size, 2, none⟩ = some (.string ⟨#[]⟩) := heap_cell hre 2
        have q3 : w2.cell? ⟨w.heap.size, 3, none⟩ = some (.int .i64 0) := heap_cell hre 3
        have f0 := heap_free hre 0; have f1 := heap_free hre 1; have f2 := heap_free hre 2; have f3 := heap_free hre 3
        have p0 : w2.cell? ⟨w1.heap.size, 0, none⟩ = some (.int .i64 3) := heap_cell hob 0
        have p1 : w2.cell? ⟨w1.heap.size, 1, none⟩ = some (.string (S a)) := heap_cell hob 1
        have p2 : w2.cell? ⟨w1.heap.size, 2, none⟩ = some (.string (S r)) := heap_cell hob 2
        have p3 : w2.cell? ⟨w1.heap.size, 3, none⟩ = some (.int .i64 0) := heap_cell hob 3
        have g0 := heap_free hob 0; have g2 := heap_free hob 2; have g3 := heap_free hob 3
        have hl1 := heap_lt hob; have hl2 := heap_lt hre
        have HRE := Lib.hid hre; clear hre hob
        go_wp2_with fail
        have HD := ret4 HRE.out HB2.out (.int .i64 3) (.string (S a)) (.string (S r)) (.int .i64 0)
        generalize ((((w2.setCell ⟨w.heap.size, 0, none⟩ (.int .i64 3)).setCell ⟨w.heap.size, 1, none⟩ (.string (S a))).setCell ⟨w.heap.size, 2, none⟩ (.string (S r))).setCell ⟨w.heap.size, 3, none⟩ (.int .i64 0)) = W2 at HD ⊢
        have d0 : W2.cell? ⟨w.heap.size, 0, none⟩ = some (.int .i64 3) := heap_cell HD.1 0
        have d1 : W2.cell? ⟨w.heap.size, 1, none⟩ = some (.string (S a)) := heap_cell HD.1 1
        have d2 : W2.cell? ⟨w.heap.size, 2, none⟩ = some (.string (S r)) := heap_cell HD.1 2
        have d3 : W2.cell? ⟨w.heap.size, 3, none⟩ = some (.int .i64 0) := heap_cell HD.1 3
        have hrd : rdOp s.data.toList = some ⟨3, S a, S r, 0⟩ := by rw [rdOp, HC.out]; simp [hst]
        refine bodyPost_ret (v := .tuple #[.agg #[.int .i64 3, .string (S a), .string (S r), .int .i64 0], .bool true]) (by simp [results, Tryd.results50, go_sem, d0, d1, d2, d3]) rfl
          ⟨⟨3, S a, S r, 0⟩, by rw [hrd]; rfl, ?_, HD.2⟩
        intro x hx
        rw [hrd] at hx; cases hx; rfl
      | some y =>
        obtain ⟨f, t⟩ := y
        have q0 : w2.cell? ⟨w.heap.size, 0, none⟩ = some (.int .i64 0) := heap_cell hre 0
        have q1 : w2.cell? ⟨w.heap.size, 1, none⟩ = some (.string ⟨#[]⟩) := heap_cell hre 1
        have q2 : w2.cell? ⟨w.heap.size, 2, none⟩ = some (.string ⟨#[]⟩) := heap_cell hre 2
        have q3 : w2.cell? ⟨w.heap.size, 3, none⟩ = some (.int .i64 0) := heap_cell hre 3
        have f0 := heap_free hre 0; have f1 := heap_free hre 1; have f2 := heap_free hre 2; have f3 := heap_free hre 3
        have p0 : w2.cell? ⟨w1.heap.size, 0, none⟩ = some (.int .i64 3) := heap_cell hob 0
        have p1 : w2.cell? ⟨w1.heap.size, 1, none⟩ = some (.string (S a)) := heap_cell hob 1
        have p2 : w2.cell? ⟨w1.heap.size, 2, none⟩ = some (.string (S r)) := heap_cell hob 2
        have p3 : w2.cell? ⟨w1.heap.size, 3, none⟩ = some (.int .i64 0) := heap_cell hob 3
        have g0 := heap_free hob 0; have g2 := heap_free hob 2; have g3 := heap_free hob 3
        have hl1 := heap_lt hob; have hl2 := heap_lt hre
        have HRE := Lib.hid hre; have HOB := Lib.hid hob; clear hre hob
        have htl : t.length ≤ r.length := by rw [cutStar_some hst]; simp <;> omega
        go_wp2_with fail
        change Calls _ _ #[.string (S t)] ((w2.setCell ⟨w1.heap.size, 0, none⟩ (.int .i64 5)).setCell ⟨w1.heap.size, 2, none⟩ (.string (S f))) _
        have hob5 : ((w2.setCell ⟨w1.heap.size, 0, none⟩ (.int .i64 5)).setCell ⟨w1.heap.size, 2, none⟩ (.string (S f))).heap[w1.heap.size]? = some (.cells #[.int .i64 5, .string (S a), .string (S f), .int .i64 0] 54 (0, 0)) := heap_set_same (heap_set_same HOB.out _) _
        have hre5 : ((w2.setCell ⟨w1.heap.size, 0, none⟩ (.int .i64 5)).setCell ⟨w1.heap.size, 2, none⟩ (.string (S f))).heap[w.heap.size]? = some (.cells #[.int .i64 0, .string ⟨#[]⟩, .string ⟨#[]⟩, .int .i64 0] 54 (0, 0)) := by rw [heap_set_other (by omega), heap_set_other (by omega)]; exact HRE.out
        have HB4 := Lib.hid ((HB2.out.setCell (p := ⟨w1.heap.size, 0, none⟩) (Nat.le_of_lt hz) (.int .i64 5)).setCell (p := ⟨w1.heap.size, 2, none⟩) (Nat.le_of_lt hz) (.string (S f)))
        generalize (w2.setCell ⟨w1.heap.size, 0, none⟩ (.int .i64 5)).setCell ⟨w1.heap.size, 2, none⟩ (.string (S f)) = w4 at hob5 hre5 HB4 ⊢
        clear q0 q1 q2 q3 f0 f1 f2 f3 p0 p1 p2 p3 g0 g2 g3 hl1 hl2
        refine (num_any (S t) (by rw [S_size]; omega) w4 (HE.out.below HB4.out)).mono ?_
        rintro e w3 ⟨n, rfl, hnv, hb3⟩
        rw [S_bytes] at hnv ⊢
        have hob : w3.heap[w1.heap.size]? = _ := (hb3.block _ (heap_lt hob5)).trans hob5
        have hre : w3.heap[w.heap.size]? = _ := (hb3.block _ (heap_lt hre5)).trans hre5
        have HB3 := Lib.hid (HB4.out.trans (hb3.mono HB4.out.size)); clear hb3 hob5 hre5
        have q0 : w3.cell? ⟨w.heap.size, 0, none⟩ = some (.int .i64 0) := heap_cell hre 0
        have q1 : w3.cell? ⟨w.heap.size, 1, none⟩ = some (.string ⟨#[]⟩) := heap_cell hre 1
        have q2 : w3.cell? ⟨w.heap.size, 2, none⟩ = some (.string ⟨#[]⟩) := heap_cell hre 2
        have q3 : w3.cell? ⟨w.heap.size, 3, none⟩ = some (.int .i64 0) := heap_cell hre 3
        have f0 := heap_free hre 0; have f1 := heap_free hre 1; have f2 := heap_free hre 2; have f3 := heap_free hre 3
        have p0 : w3.cell? ⟨w1.heap.size, 0, none⟩ = some (.int .i64 5) := heap_cell hob 0
        have p1 : w3.cell? ⟨w1.heap.size, 1, none⟩ = some (.string (S a)) := heap_cell hob 1
        have p2 : w3.cell? ⟨w1.heap.size, 2, none⟩ = some (.string (S f)) := heap_cell hob 2
        have p3 : w3.cell? ⟨w1.heap.size, 3, none⟩ = some (.int .i64 0) := heap_cell hob 3
        have g0 := heap_free hob 0; have g2 := heap_free hob 2; have g3 := heap_free hob 3
        have hl1 := heap_lt hob; have hl2 := heap_lt hre
        have HRE := Lib.hid hre; clear hre hob
        have HST := Lib.hid hst; clear hst
        go_wp2_with fail
        have HD := ret4 (W := w3.setCell ⟨w1.heap.size, 3, none⟩ (.int .i64 n)) (by rw [heap_set_other (by omega)]; exact HRE.out) (HB3.out.setCell (by simp; omega) _) (.int .i64 5) (.string (S a)) (.string (S f)) (.int .i64 n)
        generalize (((((w3.setCell ⟨w1.heap.size, 3, none⟩ (.int .i64 n)).setCell ⟨w.heap.size, 0, none⟩ (.int .i64 5)).setCell ⟨w.heap.size, 1, none⟩ (.string (S a))).setCell ⟨w.heap.size, 2, none⟩ (.string (S f))).setCell ⟨w.heap.size, 3, none⟩ (.int .i64 n)) = W2 at HD ⊢
        have d0 : W2.cell? ⟨w.heap.size, 0, none⟩ = some (.int .i64 5) := heap_cell HD.1 0
        have d1 : W2.cell? ⟨w.heap.size, 1, none⟩ = some (.string (S a)) := heap_cell HD.1 1
        have d2 : W2.cell? ⟨w.heap.size, 2, none⟩ = some (.string (S f)) := heap_cell HD.1 2
        have d3 : W2.cell? ⟨w.heap.size, 3, none⟩ = some (.int .i64 n) := heap_cell HD.1 3
        have hrd : rdOp s.data.toList = (numV t).map fun n => ⟨5, S a, S f, n⟩ := by rw [rdOp, HC.out]; simp [HST.out]
        refine bodyPost_ret (v := .tuple #[.agg #[.int .i64 5, .string (S a), .string (S f), .int .i64 n], .bool (numV t).isSome]) (by simp [results, Tryd.results50, go_sem, d0, d1, d2, d3]) rfl
          ⟨⟨5, S a, S f, n⟩, by rw [hrd, Option.isSome_map]; rfl, ?_, HD.2⟩
        intro x hx
        rw [hrd] at hx
        cases hv : numV t with
        | none => rw [hv] at hx; cases hx
        | some v => rw [hv] at hx; cases hx; rw [hnv v hv]
end Go.Proofs.YtdhfcelhgnjpcaaDoor
