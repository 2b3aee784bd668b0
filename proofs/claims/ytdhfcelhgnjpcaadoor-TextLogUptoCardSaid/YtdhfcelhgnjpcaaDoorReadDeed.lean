/-
  text.ReadDeed: the deed of a text, or the error.
-/
import Derived.Test.YtdhfcelhgnjpcaaDoorReadOp
import Derived.Test.YtdhfcelhgnjpcaaDoorBare
namespace Go.Proofs.YtdhfcelhgnjpcaaDoor
open Go.RowKit

/-- How far ReadDeed has come. -/
def RdD (ws : List Bs) (k : Nat) (os : List POp) : Prop := rdOps ws = (rdOps (ws.drop k)).map fun l => os ++ l
theorem rdD_start (ws : List Bs) : RdD ws 0 [] := by
  unfold RdD; cases h : rdOps ws <;> simp [h]
theorem rdD_next {ws : List Bs} {k : Nat} {os : List POp} {o : POp} (h : RdD ws k os) (hk : k < ws.length) (ho : rdOp (ws.getD k []) = some o) : RdD ws (k + 1) (os ++ [o]) := by
  unfold RdD at h ⊢
  have e3 : ws[k] = ws.getD k [] := by rw [List.getD_eq_getElem?_getD, List.getElem?_eq_getElem hk]; rfl
  rw [h, List.drop_eq_getElem_cons hk, rdOps, e3, ho]
  cases rdOps (ws.drop (k + 1)) <;> simp
theorem rdD_no {ws : List Bs} {k : Nat} {os : List POp} (h : RdD ws k os) (hk : k < ws.length) (ho : rdOp (ws.getD k []) = none) : rdOps ws = none := by
  unfold RdD at h
  have e3 : ws[k] = ws.getD k [] := by rw [List.getD_eq_getElem?_getD, List.getElem?_eq_getElem hk]; rfl
  rw [h, List.drop_eq_getElem_cons hk, rdOps, e3, ho]; rfl
theorem rdD_end {ws : List Bs} {k : Nat} {os : List POp} (h : RdD ws k os) (hk : k = ws.length) : rdOps ws = some os := by
  unfold RdD at h
  rw [h, List.drop_of_length_le (by omega), rdOps]; simp
theorem readDeed_none {s : Bs} (h : rdOps (spl 59 s) = none) : readDeed s = ([], 9) := by unfold readDeed; rw [h]
theorem readDeed_ok {s : Bs} {l : List POp} (h : rdOps (spl 59 s) = some l) (hc : deedCheck l = 0) : readDeed s = (l, 0) := by unfold readDeed; rw [h]; exact if_pos hc
theorem readDeed_no {s : Bs} {l : List POp} (h : rdOps (spl 59 s) = some l) (hc : ¬ deedCheck l = 0) : readDeed s = ([], deedCheck l) := by unfold readDeed; rw [h]; exact if_neg hc
theorem opsAt_empty (W : World) : OpsAt W none 0 0 [] := ⟨sl_none W 4⟩

set_option maxHeartbeats 4000000 in
set_option maxRecDepth 100000 in
theorem readDeed_new (s : Str) (hs : s.size ≤ 1099511627) (w : World) (hE : Env w) :
    Calls Tryd.prog 25 #[.string s] w fun e w' => ∃ ao n c, e = .returned (.tuple #[.agg #[.slice ao n c], .int .i64 (readDeed s.data.toList).2]) ∧ OpsAt w' ao n c (readDeed s.data.toList).1 ∧ Fresh w.heap.size 54 w' ao ∧ Below w.heap.size w w' := by
  obtain ⟨i0, hi0, hz0, hs0, hb0⟩ := info_parts infoOp
  obtain ⟨ws, hws⟩ : ∃ ws, spl 59 s.data.toList = ws := ⟨_, rfl⟩
  have hwl : ws.length ≤ s.size + 1 := hws ▸ spl_len 59 s
  have HE := Lib.hid hE; clear hE
  have HW := Lib.hid hws; clear hws
  go_enter Tryd.func25, Tryd.ntmps25
  go_wp2_with fail
  refine (split_exact s 59 (by omega) _ (HE.out.below ((below_alloc w _).alloc (below_alloc w _).size _))).mono ?_
  rintro e w1 ⟨rfl, hw1⟩
  have hz2 : ((w.alloc (.cells #[.slice none 0 0] 36)).alloc (.cells #[.slice none 0 0] 36)).heap.size = w.heap.size + 2 := by simp
  simp only [HW.out, hz2] at hw1 ⊢
  clear hz2
  have HS : OM w.heap.size w (.cells #[.slice none 0 0] 36 (0, 0)) (.cells #[.slice none 0 0] 36 (0, 0)) (.cells ((ws.map S).map .string).toArray 9 (0, 0)) (.slice none 0 0) [] w1 := by
    subst hw1
    refine ⟨⟨rfl, Or.inl ⟨rfl, rfl⟩⟩, heap_alloc (heap_alloc (heap_new rfl _) _) _, heap_alloc (heap_new (by simp) _) _, heap_new (by simp) _, ?_⟩
    exact ((below_alloc w _).alloc (below_alloc w _).size _).alloc ((below_alloc w _).alloc (below_alloc w _).size _).size _
  have HS1 := Lib.hid HS; clear HS hw1
  go_wp2_with fail
  go_loopw [13] (fun i wr => ∃ k : Nat, k ≤ ws.length ∧ i = .int .i64 k ∧ ∃ vo os, OM w.heap.size w (.cells #[.slice none 0 0] 36 (0, 0)) (.cells #[vo] 36 (0, 0)) (.cells ((ws.map S).map .string).toArray 9 (0, 0)) vo os wr ∧ RdD ws k os ∧ os.length ≤ k) (fun i _ => ws.length - (intOf i).toNat)
  case atStart => exact ⟨0, Nat.zero_le _, rfl, _, [], HS1.out, rdD_start ws, Nat.le_refl _⟩
  case round =>
    obtain ⟨k, hk, rfl, vo, os, hi, hrd, hol⟩ := hrel
    have HRD := Lib.hid hrd; clear hrd
    have HI := Lib.hid hi
    have hbb := hi.size
    by_cases hlt : k < ws.length
    · obtain ⟨x, hx⟩ : ∃ x, ws.getD k [] = x := ⟨_, rfl⟩
      have hlit : wr.cell? ⟨w.heap.size + 2, k, none⟩ = some (.string (S x)) := by
        rw [heap_cell hi.b2, ← hx]
        simp [List.getD_eq_getElem?_getD, List.getElem?_eq_getElem hlt]
      have HX := Lib.hid hx; clear hx
      have hxs : (S x).size ≤ 1099511627 := by
        have hmem : x ∈ ws := by
          rw [← HX.out, List.getD_eq_getElem?_getD, List.getElem?_eq_getElem hlt]; exact List.getElem_mem _
        rw [← HW.out] at hmem
        have h1 := spl_mem_len 59 s.data.toList x hmem
        have h2 : s.data.toList.length = s.size := rfl
        rw [S_size]; omega
      have hop := readOp_any (S x) hxs wr (HE.out.below HI.out.old)
      rw [S_bytes] at hop
      have HOP := Lib.hid hop; clear hop hi
      have hkb : k + 1 ≤ 2000000000 := by omega
      have HOL := Lib.hid hol; clear hol
      have HWL := Lib.hid hwl; clear hwl
      cases hv : rdOp x with
      | none =>
        have hrm := rdD_no HRD.out hlt (by rw [HX.out]; exact hv)
        rw [← HW.out] at hrm
        have HR := Lib.hid (readDeed_none hrm); clear hrm
        have HV := Lib.hid hv; clear hv
        go_wp2_with fail
        refine HOP.out.mono ?_
        rintro e w3 ⟨o, rfl, hvv, hb3⟩
        have HI3 := Lib.hid (HI.out.below hb3)
        rw [HV.out]
        clear hvv hb3
        have hz3 := HI3.out.size
        have r0 : w3.cell? ⟨w.heap.size, 0, none⟩ = some (.slice none 0 0) := heap_cell HI3.out.b0 0
        have s0 : w3.frozen? ⟨w.heap.size, 0, none⟩ = false := heap_free HI3.out.b0 0
        have hlN : w.heap.size < w3.heap.size := by omega
        simp only [opVal]
        obtain ⟨kk, ky, sr, nn⟩ := o
        go_wp2_with fail
        have HD := (HI3.out.set0 (.slice none 0 0)).alloc (.cells #[.int .i64 kk, .string ky, .string sr, .int .i64 nn] 54)
        generalize (w3.setCell ⟨w.heap.size, 0, none⟩ (.slice none 0 0)).alloc (.cells #[.int .i64 kk, .string ky, .string sr, .int .i64 nn] 54) = W2 at HD ⊢
        have d0 : W2.cell? ⟨w.heap.size, 0, none⟩ = some (.slice none 0 0) := heap_cell HD.b0 0
        refine bodyPost_ret (v := .tuple #[.agg #[.slice none 0 0], .int .i64 9]) (by simp [results, Tryd.results25, go_sem, d0]) rfl ⟨none, 0, 0, by rw [HR.out], by rw [HR.out]; exact opsAt_empty _, Fresh.nil _ _ _, HD.old⟩
      | some o =>
        have hrn := rdD_next HRD.out hlt (by rw [HX.out]; exact hv)
        have HR := Lib.hid hrn; clear hrn
        have HV := Lib.hid hv; clear hv
        go_wp2_with fail
        refine HOP.out.mono ?_
        rintro e w2 ⟨o', rfl, hvv, hb2⟩
        obtain rfl := hvv o HV.out
        have HI2 := Lib.hid (HI.out.below hb2)
        rw [HV.out]
        clear hvv hb2
        have b1 : w2.cell? ⟨w.heap.size + 1, 0, none⟩ = some vo := heap_cell HI2.out.b1 0
        have g1 : w2.frozen? ⟨w.heap.size + 1, 0, none⟩ = false := heap_free HI2.out.b1 0
        have hzz := HI2.out.size
        have hlN : w.heap.size + 1 < w2.heap.size := by omega
        have hol := HOL.out
        obtain ⟨kk, ky, sr, nn⟩ := o'
        simp only [opVal]
        go_wp2_with (at_builtin; refine wpList_append_lies _ (by rfl) _ _ 34 (by rfl) (w.heap.size + 3) 54 i0 _ 4 48 Tryd.underlying34 hi0 hz0 hs0 hb0 rfl (by omega) vo _ _ (by rfl) ((HI2.out.alloc (.cells #[.int .i64 kk, .string ky, .string sr, .int .i64 nn] 54)).alloc (.cells #[.int .i64 kk, .string ky, .string sr, .int .i64 nn] 54)).owns ⟨w2.heap.size + 1, 0, none⟩ 1 1 #[.int .i64 kk, .string ky, .string sr, .int .i64 nn].toList (by rfl) (by rfl) (World.news_of_block (cs := #[.int .i64 kk, .string ky, .string sr, .int .i64 nn]) (t := 54) (fr := (0, 0)) (heap_new (by simp) _)) (by simp [Value.oneCell']) (by omega) (by unfold maxLen; omega) (by omega) (by simp <;> omega) (w2.heap.size + 2) (by simp) ?_; intro g cap w3 hown3 hgrow3 hat3 hlt3; have M2 := Lib.hid (((HI2.out.alloc (.cells #[.int .i64 kk, .string ky, .string sr, .int .i64 nn] 54)).alloc (.cells #[.int .i64 kk, .string ky, .string sr, .int .i64 nn] 54)).grow (os' := os ++ [⟨kk, ky, sr, nn⟩]) (own_snoc hown3 rfl) hgrow3); have C0 : w3.cell? ⟨w.heap.size + 1, 0, none⟩ = some vo := (heap_cell M2.out.b1 0); have F0 : w3.frozen? ⟨w.heap.size + 1, 0, none⟩ = false := heap_free M2.out.b1 0; have hz2 := M2.out.size; clear hown3 hgrow3 hat3 hol)
        have HZ := Lib.hid (M2.out.set1 (.slice (some ⟨g, 0, none⟩) (os.length + 1) cap))
        go_roundw
        case rel => exact ⟨k + 1, by omega, by go_num, _, _, HZ.out, HR.out, by simp; exact HOL.out⟩
        case measure => simp [intOf]; omega
    · obtain rfl : k = ws.length := by omega
      have hrn := rdD_end HRD.out rfl
      rw [← HW.out] at hrn
      have HR := Lib.hid hrn; clear hrn
      obtain ⟨a1, e1, rfl, _⟩ := Sl.of_owns hi.owns
      have hO : OpsAt wr a1 os.length e1 os := (ops_of_own hi.owns).2
      have hchk := deedCheck_any a1 os.length e1 os wr hO (by omega)
      have HCH := Lib.hid hchk; clear hchk hO
      have c1 : wr.cell? ⟨w.heap.size + 1, 0, none⟩ = some (.slice a1 os.length e1) := heap_cell hi.b1 0
      clear hi
      have HOL := Lib.hid hol; clear hol
      by_cases hc : deedCheck os = 0
      · have hcb : (deedCheck os != 0) = false := by rw [hc]; rfl
        have HRM := Lib.hid (readDeed_ok HR.out hc); clear hc
        go_wp2_with fail
        refine HCH.out.mono ?_
        rintro e w3 ⟨rfl, hb3⟩
        have HI3 := Lib.hid (HI.out.below hb3)
        clear hb3
        have r0 : w3.cell? ⟨w.heap.size, 0, none⟩ = some (.slice none 0 0) := heap_cell HI3.out.b0 0
        have s0 : w3.frozen? ⟨w.heap.size, 0, none⟩ = false := heap_free HI3.out.b0 0
        have b1 : w3.cell? ⟨w.heap.size + 1, 0, none⟩ = some (.slice a1 os.length e1) := heap_cell HI3.out.b1 0
        have hz3 := HI3.out.size
        have hlN : w.heap.size < w3.heap.size := by omega
        go_wp2_with fail
        have HD := HI3.out.set0 (.slice a1 os.length e1)
        generalize w3.setCell ⟨w.heap.size, 0, none⟩ (.slice a1 os.length e1) = W2 at HD ⊢
        have d0 : W2.cell? ⟨w.heap.size, 0, none⟩ = some (.slice a1 os.length e1) := heap_cell HD.b0 0
        refine bodyPost_ret (v := .tuple #[.agg #[.slice a1 os.length e1], .int .i64 0]) (by simp [results, Tryd.results25, go_sem, d0]) rfl ⟨_, _, _, by rw [HRM.out], by rw [HRM.out]; exact (ops_of_own HD.owns).2, (Fresh.of_own HD.owns).mono (by omega), HD.old⟩
      · have hcb : (deedCheck os != 0) = true := by simpa using hc
        have HRM := Lib.hid (readDeed_no HR.out hc); clear hc
        go_wp2_with fail
        refine HCH.out.mono ?_
        rintro e w3 ⟨rfl, hb3⟩
        have HI3 := Lib.hid (HI.out.below hb3)
        clear hb3
        have r0 : w3.cell? ⟨w.heap.size, 0, none⟩ = some (.slice none 0 0) := heap_cell HI3.out.b0 0
        have s0 : w3.frozen? ⟨w.heap.size, 0, none⟩ = false := heap_free HI3.out.b0 0
        have hz3 := HI3.out.size
        have hlN : w.heap.size < w3.heap.size := by omega
        go_wp2_with fail
        have HD := HI3.out.set0 (.slice none 0 0)
        generalize w3.setCell ⟨w.heap.size, 0, none⟩ (.slice none 0 0) = W2 at HD ⊢
        have d0 : W2.cell? ⟨w.heap.size, 0, none⟩ = some (.slice none 0 0) := heap_cell HD.b0 0
        refine bodyPost_ret (v := .tuple #[.agg #[.slice none 0 0], .int .i64 (deedCheck os)]) (by simp [results, Tryd.results25, go_sem, d0]) rfl ⟨none, 0, 0, by rw [HRM.out], by rw [HRM.out]; exact opsAt_empty _, Fresh.nil _ _ _, HD.old⟩
theorem readDeed_any (s : Str) (hs : s.size ≤ 1099511627) (w : World) (hE : Env w) :
    Calls Tryd.prog 25 #[.string s] w fun e w' => ∃ ao n c, e = .returned (.tuple #[.agg #[.slice ao n c], .int .i64 (readDeed s.data.toList).2]) ∧ OpsAt w' ao n c (readDeed s.data.toList).1 ∧ Below w.heap.size w w' :=
  (readDeed_new s hs w hE).mono fun _ _ ⟨ao, n, c, h1, h2, _, h3⟩ => ⟨ao, n, c, h1, h2, h3⟩
end Go.Proofs.YtdhfcelhgnjpcaaDoor
