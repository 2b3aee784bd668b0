/-
  rokeep.TextEntry answers true: an entry is read as it was written, and no more than its line; of a line one byte of which is another one it is told that it is wrong.
-/
import Derived.Test.YtdhfcelhgnjpcaaDoorReadEntry
import Derived.Test.YtdhfcelhgnjpcaaDoorSameEntry
import Derived.Test.YtdhfcelhgnjpcaaDoorWithin
import Derived.Deep.DeepCutAuto
import Derived.Deep.RegionHeld3
import Derived.Deep.DrawnRows
import Derived.Laws.BitsAllLaws
import Derived.IntWalk
import Derived.Laws.IdiomStrings
namespace Go.Proofs.YtdhfcelhgnjpcaaDoor
open Go.RowKit

theorem ab_sum : (sumV ((⟨#[97, 98]⟩ : Str).data.toList) : Int) = 293 := by decide
theorem bare2_isMap (x : PEntry) : (bare2 x).isMap = x.isMap := by
  unfold bare2; split
  · rename_i h; exact h.symm
  · rename_i h; simpa using h
theorem bareEntry_isMap (x : PEntry) : (bareEntry x).isMap = x.isMap := by
  unfold bareEntry; split
  · rename_i h; exact h.symm
  · rename_i h; simpa using h
theorem bare2_map (x : PEntry) : (bareEntry x).map = (bare2 x).map := by
  unfold bare2 bareEntry; split <;> rfl
theorem bare2_deed (x : PEntry) : (bareEntry x).deed.map bare = (bare2 x).deed := by
  unfold bare2 bareEntry; split <;> rfl

theorem entry_f0 (a b c d : Value) (W : World) : (Instr.field 41 (.agg #[a, b, c, d]) 0).run Tryd.prog W = .ok (.agg #[a]) W := by kernel_rfl
theorem entry_f2 (a b c d : Value) (W : World) : (Instr.field 41 (.agg #[a, b, c, d]) 2).run Tryd.prog W = .ok (.agg #[c, d]) W := by kernel_rfl
theorem xor_byte (c : UInt8) (b : Int) (h0 : 0 ≤ b) (h1 : b < 256) (hb : b ≠ 0) : ∃ u : UInt8, bits .xor .u8 (c.toNat : Int) b = (u.toNat : Int) ∧ u ≠ c := by
  obtain ⟨n, rfl⟩ := Int.eq_ofNat_of_zero_le h0
  have hc := c.toNat_lt
  have hlt : c.toNat ^^^ n < 256 := Nat.xor_lt_two_pow (n := 8) (by omega) (by omega)
  refine ⟨UInt8.ofNat (c.toNat ^^^ n), ?_, fun e => ?_⟩
  · rw [u8_xor_nat _ _ (by omega) (by omega)]
    rw [UInt8.toNat_ofNat', Nat.mod_eq_of_lt hlt]
  · have h2 := congrArg UInt8.toNat e
    have h3 : (UInt8.ofNat (c.toNat ^^^ n)).toNat = c.toNat ^^^ n := by rw [UInt8.toNat_ofNat', Nat.mod_eq_of_lt hlt]
    rw [h3] at h2
    have h4 : n = 0 := by
      have := congrArg (fun m => c.toNat ^^^ m) h2
      simpa [← Nat.xor_assoc] using this
    omega
theorem changed_text {x : PEntry} {L k : Nat} {t : Str} {u : UInt8} (hc : entryCheck x = 0) (_hL : (entryText x).length = L) (ht : S (entryText x) = t) (hts : t.size = L) (hk : k + 1 < t.size) (hkt : k < t.size) (hu : u ≠ t[k]) :
    ¬ (readEntry (t.extract 0 k ++ S [u] ++ t.extract (k + 1) t.size).data.toList).2.2 = 0 := by
  have hline : entryText x = lineOf (entryBody x) := by rw [entryText, if_pos hc]
  have hb : t.data.toList = lineOf (entryBody x) := by rw [← ht, S_bytes, hline]
  have hlen : (lineOf (entryBody x)).length = t.size := by rw [← hb]; rfl
  have e : (t.extract 0 k ++ S [u] ++ t.extract (k + 1) t.size).data.toList = (lineOf (entryBody x)).set k u := by
    have e2 : (t.extract (k + 1) t.size).data.toList = (lineOf (entryBody x)).drop (k + 1) := by
      rw [Lib.extract_data, hb]
      exact List.take_of_length_le (by simp; omega)
    rw [ByteArray.data_append, ByteArray.data_append, Array.toList_append, Array.toList_append, S_bytes, e2, Lib.extract_data, hb, List.set_eq_take_append_cons_drop, if_pos (by omega)]
    simp
  rw [e]
  refine changed_bad (okBody_entry hc) (i := k) (by omega) (by simp) (fun j hj => ?_) ?_
  · rw [List.getElem?_set_ne (fun h => hj h.symm)]
  · rw [List.getElem?_set_self (by omega)]
    intro h
    apply hu
    have h2 : (lineOf (entryBody x))[k]? = some t[k] := by
      rw [← hb]; exact Lib.data_getElem? t k hkt
    rw [h2] at h
    exact Option.some.inj h
theorem EntAt.empty {w w' : World} {eo : Option Addr} {en ec : Nat} {ao : Option Addr} {n c : Nat} {bo : Option Addr} {m d : Nat} (h : EntAt w eo en ec ao n c bo m d noEntry) : EntAt w' eo en ec ao n c bo m d noEntry ∧ en = 0 ∧ n = 0 ∧ m = 0 := by
  have e1 := h.deed.n; have e2 := h.map.n; have e3 := h.map.m
  simp only [noEntry, emptyMap, List.length_nil] at e1 e2 e3
  refine ⟨⟨⟨⟨h.deed.sl.len, h.deed.sl.le, h.deed.sl.nil, fun j u hu => by simp [noEntry] at hu⟩⟩, ⟨h.map.cuts.len, h.map.cuts.le, h.map.cuts.nil, fun j u hu => by simp [noEntry, emptyMap] at hu⟩, ⟨h.map.owns.len, h.map.owns.le, h.map.owns.nil, fun j u hu => by simp [noEntry, emptyMap] at hu⟩⟩, e1.symm, e2.symm, e3.symm⟩
theorem bare2_len {w w' : World} {eo : Option Addr} {en ec : Nat} {ao : Option Addr} {n c : Nat} {bo : Option Addr} {m d : Nat} {eo' : Option Addr} {en' ec' : Nat} {ao' : Option Addr} {n' c' : Nat} {bo' : Option Addr} {m' d' : Nat} {x : PEntry}
    (h : EntAt w eo en ec ao n c bo m d x) (h' : EntAt w' eo' en' ec' ao' n' c' bo' m' d' (bare2 x)) : en' ≤ en ∧ n' ≤ n ∧ m' ≤ m := by
  have e1 := h.deed.n; have e2 := h.map.n; have e3 := h.map.m
  have f1 := h'.deed.n; have f2 := h'.map.n; have f3 := h'.map.m
  by_cases hx : x.isMap = true
  · rw [bare2, if_pos hx] at f1 f2 f3
    simp only [List.length_nil] at f1 f2 f3; omega
  · rw [bare2, if_neg hx] at f1 f2 f3
    simp only [List.length_map, emptyMap, List.length_nil] at f1 f2 f3; omega
attribute [local go_sem ↓] Go.wp_at_zero Go.wp_at_succ
set_option maxHeartbeats 4000000 in
set_option maxRecDepth 100000 in
theorem textEntry_law (eo : Option Addr) (en ec : Nat) (ao bo : Option Addr) (n c m d : Nat) (x : PEntry) (more : Str) (i b : Int) (w : World) (h : EntAt w eo en ec ao n c bo m d x) (hen : en ≤ 1099511627) (hn : n ≤ 1099511627) (hm : m ≤ 1099511627) (hmore : more.size ≤ 1048576)
    (hb0 : 0 ≤ b) (hb1 : b < 256) (hI : ∀ o ∈ x.deed, I64 o.n) (hE : Env w) :
    Calls Tryd.prog 5 #[.agg #[.slice eo en ec, .bool x.isMap, .slice ao n c, .slice bo m d], .string more, .int .i64 i, .int .u8 b] w fun e w' => e = .returned (.bool true) ∧ Below w.heap.size w w' := by
  have H := Lib.hid h; clear h
  have HE := Lib.hid hE; clear hE
  have HI := Lib.hid hI; clear hI
  obtain ⟨w0, hw0⟩ : ∃ w0, w.alloc (.cells #[.slice eo en ec, .bool x.isMap, .slice ao n c, .slice bo m d] 41) = w0 := ⟨_, rfl⟩
  have ho0 : Own w [.cells #[.slice eo en ec, .bool x.isMap, .slice ao n c, .slice bo m d] 41 (0, 0)] w0 := hw0 ▸ ((Own.start w).push (by simp) _).1
  have HO0 := Lib.hid ho0; clear ho0
  have c0 : w0.cell? ⟨w.heap.size, 0, none⟩ = some (.slice eo en ec) := HO0.out.cell 0 0 rfl
  have c1 : w0.cell? ⟨w.heap.size, 1, none⟩ = some (.bool x.isMap) := HO0.out.cell 0 1 rfl
  have c2 : w0.cell? ⟨w.heap.size, 2, none⟩ = some (.slice ao n c) := HO0.out.cell 0 2 rfl
  have c3 : w0.cell? ⟨w.heap.size, 3, none⟩ = some (.slice bo m d) := HO0.out.cell 0 3 rfl
  have fl0 := entry_f0
  have fl2 := entry_f2
  go_enter Tryd.func5, Tryd.ntmps5
  go_wp2_with fail
  refine (sum_any ⟨#[97, 98]⟩ (by decide) w0).mono ?_
  rintro e w1 ⟨rfl, rfl⟩
  rw [ab_sum]
  go_wp2_with fail
  refine (textEntry_any eo en ec ao bo n c m d x w0 (H.out.below HO0.out.old) (by omega) (by omega) HI.out (HE.out.below HO0.out.old)).mono ?_
  rintro e w1 ⟨rfl, hb1⟩
  have HO1 := Lib.hid (HO0.out.below hb1)
  clear hb1 hw0 c0 c1 c2 c3
  by_cases hc : entryCheck x = 0
  · have hcb : (entryCheck x != 0) = false := by rw [hc]; rfl
    have hlen := entryText_len hc
    obtain ⟨L, hL⟩ : ∃ L, (entryText x).length = L := ⟨_, rfl⟩
    obtain ⟨t, ht⟩ : ∃ t, S (entryText x) = t := ⟨_, rfl⟩
    have hts : t.size = L := by rw [← ht, S_size, hL]
    have hre : readEntry (t ++ more).data.toList = (bare2 x, (L : Int), 0) := by
      have e : (t ++ more).data.toList = entryText x ++ more.data.toList := by rw [← ht, ByteArray.data_append, Array.toList_append, S_bytes]
      rw [e, readEntry_text hc, hL]
    rw [hL] at hlen
    rw [ht]
    have HC := Lib.hid hc; clear hc
    have HL := Lib.hid hL; clear hL
    have HT := Lib.hid ht; clear ht
    have HRE := Lib.hid hre; clear hre
    have htsz : t.size ≤ 263 := by omega
    have HTS := Lib.hid hts; clear hts
    go_wp2_with fail
    have htm : (t ++ more).size ≤ 1099511627 := by rw [ByteArray.size_append]; omega
    refine (readEntry_any (t ++ more) htm w1 (HE.out.below HO1.out.old)).mono ?_
    rintro e w2 ⟨eo2, en2, ec2, ao2, n2, c2, bo2, m2, d2, rfl, hM, hb2⟩
    rw [HRE.out] at hM ⊢
    have HO2 := Lib.hid (HO1.out.below hb2); clear hb2
    rw [bare2_isMap]
    simp only
    go_wp2_with fail
    have hlen2 : en2 ≤ en ∧ n2 ≤ n ∧ m2 ≤ m := bare2_len H.out hM
    obtain ⟨hen2, hn2, hm2⟩ := hlen2
    have hLt : ((L : Int) != (t.size : Int)) = false := by rw [HTS.out]; simp
    have HOc := Lib.hid (HO2.out.alloc (.cells #[.slice eo2 en2 ec2, .bool x.isMap, .slice ao2 n2 c2, .slice bo2 m2 d2] 41)).drew
    have HKc := Lib.hid (show (w2.alloc (.cells #[.slice eo2 en2 ec2, .bool x.isMap, .slice ao2 n2 c2, .slice bo2 m2 d2] 41)).drew.heap[w2.heap.size]? = some (.cells #[.slice eo2 en2 ec2, .bool x.isMap, .slice ao2 n2 c2, .slice bo2 m2 d2] 41 (0, 0)) from heap_new1 w2 _)
    have HMc := Lib.hid (hM.below (below_alloc w2 (.cells #[.slice eo2 en2 ec2, .bool x.isMap, .slice ao2 n2 c2, .slice bo2 m2 d2] 41))).drew
    generalize hW : w2.alloc (.cells #[.slice eo2 en2 ec2, .bool x.isMap, .slice ao2 n2 c2, .slice bo2 m2 d2] 41) = W0 at HOc HKc HMc ⊢
    clear hW hM
    have q0 : W0.cell? ⟨w2.heap.size, 0, none⟩ = some (.slice eo2 en2 ec2) := heap_cell HKc.out 0
    have q1 : W0.cell? ⟨w2.heap.size, 1, none⟩ = some (.bool x.isMap) := heap_cell HKc.out 1
    have q2 : W0.cell? ⟨w2.heap.size, 2, none⟩ = some (.slice ao2 n2 c2) := heap_cell HKc.out 2
    have q3 : W0.cell? ⟨w2.heap.size, 3, none⟩ = some (.slice bo2 m2 d2) := heap_cell HKc.out 3
    have p0 : W0.cell? ⟨w.heap.size, 0, none⟩ = some (.slice eo en ec) := HOc.out.cell 0 0 rfl
    have p1 : W0.cell? ⟨w.heap.size, 1, none⟩ = some (.bool x.isMap) := HOc.out.cell 0 1 rfl
    have p2 : W0.cell? ⟨w.heap.size, 2, none⟩ = some (.slice ao n c) := HOc.out.cell 0 2 rfl
    have p3 : W0.cell? ⟨w.heap.size, 3, none⟩ = some (.slice bo m d) := HOc.out.cell 0 3 rfl
    go_region_held3 (fun W => W.cell? ⟨w2.heap.size, 0, none⟩ = some (.slice eo2 en2 ec2) ∧ W.cell? ⟨w2.heap.size, 1, none⟩ = some (.bool x.isMap) ∧ W.cell? ⟨w2.heap.size, 2, none⟩ = some (.slice ao2 n2 c2) ∧ W.cell? ⟨w2.heap.size, 3, none⟩ = some (.slice bo2 m2 d2) ∧ W.cell? ⟨w.heap.size, 0, none⟩ = some (.slice eo en ec) ∧ W.cell? ⟨w.heap.size, 1, none⟩ = some (.bool x.isMap) ∧ W.cell? ⟨w.heap.size, 2, none⟩ = some (.slice ao n c) ∧ W.cell? ⟨w.heap.size, 3, none⟩ = some (.slice bo m d)) (go_keep) ((first | (go_at_call 33; refine (bareEntry_any eo en ec ao bo n c m d x _ (H.out.below HOc.out.old)).mono ?_; rintro e w3 ⟨eo3, en3, ec3, ao3, n3, c3, bo3, m3, d3, rfl, hB, hle1, hle2, hle3, hbb⟩; have HB := Lib.hid hB; have HOc := Lib.hid (HOc.out.below hbb); have HMc := Lib.hid (HMc.out.below hbb); have HKc := Lib.hid ((hbb.block _ (heap_lt HKc.out)).trans HKc.out); have q0 : w3.cell? ⟨w2.heap.size, 0, none⟩ = some (.slice eo2 en2 ec2) := heap_cell HKc.out 0; have q1 : w3.cell? ⟨w2.heap.size, 1, none⟩ = some (.bool x.isMap) := heap_cell HKc.out 1; have q2 : w3.cell? ⟨w2.heap.size, 2, none⟩ = some (.slice ao2 n2 c2) := heap_cell HKc.out 2; have q3 : w3.cell? ⟨w2.heap.size, 3, none⟩ = some (.slice bo2 m2 d2) := heap_cell HKc.out 3; have p0 : w3.cell? ⟨w.heap.size, 0, none⟩ = some (.slice eo en ec) := HOc.out.cell 0 0 rfl; have p1 : w3.cell? ⟨w.heap.size, 1, none⟩ = some (.bool x.isMap) := HOc.out.cell 0 1 rfl; have p2 : w3.cell? ⟨w.heap.size, 2, none⟩ = some (.slice ao n c) := HOc.out.cell 0 2 rfl; have p3 : w3.cell? ⟨w.heap.size, 3, none⟩ = some (.slice bo m d) := HOc.out.cell 0 3 rfl; clear hbb hB) | (go_at_call 32; refine (sameMap_any ao2 bo2 n2 c2 m2 d2 ao3 bo3 n3 c3 m3 d3 (bare2 x).map (bareEntry x).map _ HMc.out.map HB.out.map (by omega) (by omega) (by omega) (by omega)).mono ?_; rintro e w4 ⟨rfl, hbb⟩; rw [bare2_map, sameMap_refl]; have HOc := Lib.hid (HOc.out.below hbb); have HMc := Lib.hid (HMc.out.below hbb); have HKc := Lib.hid ((hbb.block _ (heap_lt HKc.out)).trans HKc.out); have q0 : w4.cell? ⟨w2.heap.size, 0, none⟩ = some (.slice eo2 en2 ec2) := heap_cell HKc.out 0; have q1 : w4.cell? ⟨w2.heap.size, 1, none⟩ = some (.bool x.isMap) := heap_cell HKc.out 1; have q2 : w4.cell? ⟨w2.heap.size, 2, none⟩ = some (.slice ao2 n2 c2) := heap_cell HKc.out 2; have q3 : w4.cell? ⟨w2.heap.size, 3, none⟩ = some (.slice bo2 m2 d2) := heap_cell HKc.out 3; have p0 : w4.cell? ⟨w.heap.size, 0, none⟩ = some (.slice eo en ec) := HOc.out.cell 0 0 rfl; have p1 : w4.cell? ⟨w.heap.size, 1, none⟩ = some (.bool x.isMap) := HOc.out.cell 0 1 rfl; have p2 : w4.cell? ⟨w.heap.size, 2, none⟩ = some (.slice ao n c) := HOc.out.cell 0 2 rfl; have p3 : w4.cell? ⟨w.heap.size, 3, none⟩ = some (.slice bo m d) := HOc.out.cell 0 3 rfl; clear hbb) | (go_at_call 27; refine (bare_any eo3 en3 ec3 (bareEntry x).deed _ HB.out.deed (by omega)).mono ?_; rintro e w5 ⟨b5, d5, rfl, hO5, hbb⟩; have HO5 := Lib.hid hO5; have HOc := Lib.hid (HOc.out.below hbb); have HMc := Lib.hid (HMc.out.below hbb); have HKc := Lib.hid ((hbb.block _ (heap_lt HKc.out)).trans HKc.out); have q0 : w5.cell? ⟨w2.heap.size, 0, none⟩ = some (.slice eo2 en2 ec2) := heap_cell HKc.out 0; have q1 : w5.cell? ⟨w2.heap.size, 1, none⟩ = some (.bool x.isMap) := heap_cell HKc.out 1; have q2 : w5.cell? ⟨w2.heap.size, 2, none⟩ = some (.slice ao2 n2 c2) := heap_cell HKc.out 2; have q3 : w5.cell? ⟨w2.heap.size, 3, none⟩ = some (.slice bo2 m2 d2) := heap_cell HKc.out 3; have p0 : w5.cell? ⟨w.heap.size, 0, none⟩ = some (.slice eo en ec) := HOc.out.cell 0 0 rfl; have p1 : w5.cell? ⟨w.heap.size, 1, none⟩ = some (.bool x.isMap) := HOc.out.cell 0 1 rfl; have p2 : w5.cell? ⟨w.heap.size, 2, none⟩ = some (.slice ao n c) := HOc.out.cell 0 2 rfl; have p3 : w5.cell? ⟨w.heap.size, 3, none⟩ = some (.slice bo m d) := HOc.out.cell 0 3 rfl; clear hbb hO5) | (go_at_call 26; refine (sameDeed_any eo2 b5 en2 ec2 en3 d5 (bare2 x).deed ((bareEntry x).deed.map bare) _ HMc.out.deed HO5.out (by omega) (by omega)).mono ?_; rintro e w6 ⟨rfl, hbb⟩; rw [show decide ((bare2 x).deed = (bareEntry x).deed.map bare) = true from decide_eq_true (bare2_deed x).symm]; have HOc := Lib.hid (HOc.out.below hbb); have HMc := Lib.hid (HMc.out.below hbb); have HKc := Lib.hid ((hbb.block _ (heap_lt HKc.out)).trans HKc.out); have q0 : w6.cell? ⟨w2.heap.size, 0, none⟩ = some (.slice eo2 en2 ec2) := heap_cell HKc.out 0; have q1 : w6.cell? ⟨w2.heap.size, 1, none⟩ = some (.bool x.isMap) := heap_cell HKc.out 1; have q2 : w6.cell? ⟨w2.heap.size, 2, none⟩ = some (.slice ao2 n2 c2) := heap_cell HKc.out 2; have q3 : w6.cell? ⟨w2.heap.size, 3, none⟩ = some (.slice bo2 m2 d2) := heap_cell HKc.out 3; have p0 : w6.cell? ⟨w.heap.size, 0, none⟩ = some (.slice eo en ec) := HOc.out.cell 0 0 rfl; have p1 : w6.cell? ⟨w.heap.size, 1, none⟩ = some (.bool x.isMap) := HOc.out.cell 0 1 rfl; have p2 : w6.cell? ⟨w.heap.size, 2, none⟩ = some (.slice ao n c) := HOc.out.cell 0 2 rfl; have p3 : w6.cell? ⟨w.heap.size, 3, none⟩ = some (.slice bo m d) := HOc.out.cell 0 3 rfl; clear hbb)))
    have hKz : w2.heap.size < w6.heap.size := heap_lt HKc.out
    have hNK : w.heap.size < w2.heap.size := HO2.out.lt (i := 0) (by simp)
    clear q0 q1 q2 q3 p0 p1 p2 p3 hLt
    clear fl0 fl2
    by_cases hb : b = 0
    · subst hb
      go_wp2_with fail
      go_ret
      exact ⟨rfl, HOc.out.old⟩
    · have hbb : (b == 0) = false := by simpa using hb
      have hL2 : 2 ≤ t.size := by
        have h1 := line_len (entryBody x)
        have h2 : entryText x = lineOf (entryBody x) := by rw [entryText, if_pos HC.out]
        have h3 := HL.out
        rw [h2, h1] at h3
        rw [HTS.out]; omega
      have hw0 := within_lo i ((t.size : Int) - 1)
      have hw1 := within_hi i ((t.size : Int) - 1) (by omega)
      obtain ⟨k, hk⟩ : ∃ k : Nat, within i ((t.size : Int) - 1) = k := ⟨(within i ((t.size : Int) - 1)).toNat, by omega⟩
      rw [hk] at hw0 hw1
      have hkt : k + 1 < t.size := by omega
      have HKK := Lib.hid hk; clear hk hb
      go_wp2_with fail
      refine (within_any i ((t.size : Int) - 1) w6 (by omega) (by omega)).mono ?_
      rintro e w7 ⟨rfl, rfl⟩
      rw [HKK.out]
      have hkn : (0 : Int) ≤ (k : Int) := by omega
      have hkt' : (k : Int) < (t.size : Int) := by omega
      have hkt2 : (k : Int) + 1 ≤ (t.size : Int) := by omega
      have hkt3 : k < t.size := by omega
      have hkt4 : (k : Int) ≤ (t.size : Int) := by omega
      have hkt5 : k + 1 ≤ t.size := by omega
      have hkt6 : k ≤ t.size := by omega
      obtain ⟨u, hu, hut⟩ := xor_byte (t[k]) b hb0 hb1 (by intro e; subst e; simp at hbb)
      have ht2 := changed_text HC.out HL.out HT.out HTS.out (by omega) hkt3 hut
      have hs1 : (t.extract 0 k).size ≤ 300 := by rw [ByteArray.size_extract]; omega
      have hs2 : (S [u]).size ≤ 1 := by rw [S_size]; simp
      have hs3 : (t.extract (k + 1) t.size).size ≤ 300 := by rw [ByteArray.size_extract]; omega
      have hcv : (convert 68 9 (.slice (some ⟨w6.heap.size, 0, none⟩) 1 1)).run Tryd.prog (w6.alloc (.cells #[.int .u8 (u.toNat : Int)] 5)).drew = .ok (.string (S [u])) (w6.alloc (.cells #[.int .u8 (u.toNat : Int)] 5)).drew :=
        run_convert_bytes_back _ 68 9 5 ⟨w6.heap.size, 0, none⟩ 1 [u] Tryd.underlying68 Tryd.underlying5 Tryd.underlying9 (fun j hj => by
          obtain rfl : j = 0 := by simpa using hj
          exact heap_cell (heap_new1 w6 _) 0)
      have HOd := Lib.hid (HOc.out.alloc (.cells #[.int .u8 (u.toNat : Int)] 5)).drew
      have HKd := Lib.hid (show (w6.alloc (.cells #[.int .u8 (u.toNat : Int)] 5)).drew.heap[w2.heap.size]? = _ from heap_alloc HKc.out _)
      obtain ⟨er, her⟩ : ∃ er, (readEntry (t.extract 0 k ++ S [u] ++ t.extract (k + 1) t.size).data.toList).2.2 = er := ⟨_, rfl⟩
      have hrd : readEntry (t.extract 0 k ++ S [u] ++ t.extract (k + 1) t.size).data.toList = (noEntry, 0, er) := by
        have h1 := readEntry_bad ht2
        rw [← her]
        exact Prod.ext h1.1 (Prod.ext h1.2 rfl)
      have herb : (er != 0) = true := by rw [← her]; simpa using ht2
      have HRD := Lib.hid hrd; clear hrd her ht2
      have hsz2 : (t.extract 0 k ++ S [u] ++ t.extract (k + 1) t.size).size ≤ 1099511627 := by rw [ByteArray.size_append, ByteArray.size_append]; omega
      clear hut
      go_wp2_with fail
      have hwr1 : (0 : Int) ≤ (k : Int) + 1 := by omega
      have hwr2 : ((k : Int) + 1).toNat = k + 1 := by omega
      have hwr3 : IntKind.i64.wrap ((k : Int) + 1) = (k : Int) + 1 := IntWalk.i64_in _ (by omega)
      go_region_with (first | (go_at_call 31; refine (readEntry_any (t.extract 0 k ++ S [u] ++ t.extract (k + 1) t.size) hsz2 _ (HE.out.below HOd.out.old)).mono ?_; rintro e w8 ⟨eo8, en8, ec8, ao8, n8, c8, bo8, m8, d8, rfl, hM8, hbb8⟩; rw [HRD.out] at hM8 ⊢; simp only [noEntry]; have HM8 := Lib.hid hM8; have HO8 := Lib.hid (HOd.out.below hbb8); have HK8 := Lib.hid ((hbb8.block _ (heap_lt HKd.out)).trans HKd.out); have q0 : w8.cell? ⟨w2.heap.size, 0, none⟩ = some (.slice eo2 en2 ec2) := heap_cell HK8.out 0; have q1 : w8.cell? ⟨w2.heap.size, 1, none⟩ = some (.bool x.isMap) := heap_cell HK8.out 1; have q2 : w8.cell? ⟨w2.heap.size, 2, none⟩ = some (.slice ao2 n2 c2) := heap_cell HK8.out 2; have q3 : w8.cell? ⟨w2.heap.size, 3, none⟩ = some (.slice bo2 m2 d2) := heap_cell HK8.out 3; have g0 : w8.frozen? ⟨w2.heap.size, 0, none⟩ = false := heap_free HK8.out 0; have g1 : w8.frozen? ⟨w2.heap.size, 1, none⟩ = false := heap_free HK8.out 1; have g2 : w8.frozen? ⟨w2.heap.size, 2, none⟩ = false := heap_free HK8.out 2; have g3 : w8.frozen? ⟨w2.heap.size, 3, none⟩ = false := heap_free HK8.out 3; have hz8 : w2.heap.size < w8.heap.size := heap_lt HK8.out; clear hbb8 hM8))
      have HKe := Lib.hid (heap_set_same (heap_set_same (heap_set_same (heap_set_same HK8.out (o := 0) (.slice eo8 en8 ec8)) (o := 1) (.bool false)) (o := 2) (.slice ao8 n8 c8)) (o := 3) (.slice bo8 m8 d8))
      have HOe := Lib.hid (Own.far (Own.far (Own.far (Own.far HO8.out (b := w2.heap.size) (by simp; omega) 0 (.slice eo8 en8 ec8)) (b := w2.heap.size) (by simp; omega) 1 (.bool false)) (b := w2.heap.size) (by simp; omega) 2 (.slice ao8 n8 c8)) (b := w2.heap.size) (by simp; omega) 3 (.slice bo8 m8 d8))
      clear hwr1 hwr2 hwr3 q0 q1 q2 q3 g0 g1 g2 g3 hcv hu
      generalize ((((w8.setCell ⟨w2.heap.size, 0, none⟩ (.slice eo8 en8 ec8)).setCell ⟨w2.heap.size, 1, none⟩ (.bool false)).setCell ⟨w2.heap.size, 2, none⟩ (.slice ao8 n8 c8)).setCell ⟨w2.heap.size, 3, none⟩ (.slice bo8 m8 d8)) = w9 at HKe HOe ⊢
      have y0 : w9.cell? ⟨w2.heap.size, 0, none⟩ = some (.slice eo8 en8 ec8) := heap_cell HKe.out 0
      have y1 : w9.cell? ⟨w2.heap.size, 1, none⟩ = some (.bool false) := heap_cell HKe.out 1
      have y2 : w9.cell? ⟨w2.heap.size, 2, none⟩ = some (.slice ao8 n8 c8) := heap_cell HKe.out 2
      have y3 : w9.cell? ⟨w2.heap.size, 3, none⟩ = some (.slice bo8 m8 d8) := heap_cell HKe.out 3
      obtain ⟨hA, rfl, rfl, rfl⟩ := EntAt.empty (w' := w9) HM8.out
      have HA := Lib.hid hA; clear hA
      go_wp2_with fail
      refine (sameEntry_any eo8 0 ec8 ao8 bo8 0 c8 0 d8 none 0 0 none none 0 0 0 0 noEntry noEntry w9 HA.out (entAt_none _) (by omega) (by omega) (by omega) (by omega) (by omega) (by omega)).mono ?_
      rintro e w10 ⟨rfl, hb10⟩
      rw [show sameEntry noEntry noEntry = true from by simp [sameEntry, sameMap]]
      have HOf := Lib.hid (HOe.out.below hb10); clear hb10
      go_wp2_with fail
      go_ret
      exact ⟨rfl, HOf.out.old⟩
  · have hcb : (entryCheck x != 0) = true := by simpa using hc
    have htx : entryText x = [] := by rw [entryText, if_neg hc]
    rw [htx]
    have he1 : (S []).toList.isEmpty = true := by rw [S_toList]; rfl
    clear hc htx
    go_wp2_with fail
    go_ret
    exact ⟨rfl, HO1.out.old⟩
end Go.Proofs.YtdhfcelhgnjpcaaDoor
