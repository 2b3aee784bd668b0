/-
  rokeep.TextLog answers true: a log is read as it was written; cut off anywhere it says what its whole lines say.
-/
import Derived.Test.YtdhfcelhgnjpcaaDoorLog
import Derived.Test.YtdhfcelhgnjpcaaDoorEqEnts
import Derived.Test.YtdhfcelhgnjpcaaDoorGEntries
namespace Go.Proofs.YtdhfcelhgnjpcaaDoor
open Go.RowKit

def lm : PEntry := ⟨[], true, ⟨[], [1]⟩⟩
theorem lm_check : entryCheck lm = 0 := by decide
theorem lm_sum : sumV [109, 97, 112, 32, 49] = 1012 := by decide
theorem lm_text : S (entryText lm) = ⟨#[109, 97, 112, 32, 49, 32, 49, 48, 49, 50, 10]⟩ := by
  have hb : entryBody lm = [109, 97, 112, 32, 49] := by
    simp [entryBody, lm, mapPre, mapText, words, join1, Lib.itoa, Lib.decDigits]
  have h : entryText lm = [109, 97, 112, 32, 49, 32, 49, 48, 49, 50, 10] := by
    rw [entryText, if_pos lm_check, hb, lineOf, lm_sum]
    simp [Lib.itoa, Lib.decDigits]
  rw [h]; rfl
theorem ok_small {x : PEntry} (h : entryCheck x = 0) : (x.isMap = false → x.deed.length ≤ 8) ∧ (x.isMap = true → x.map.cuts.length ≤ 12 ∧ x.map.owners.length ≤ 13) := by
  constructor
  · intro hm
    rw [entryCheck, if_neg (by rw [hm]; decide)] at h
    exact (deedCheck_zero.1 h).2.1
  · intro hm
    rw [entryCheck, if_pos hm] at h
    have hok := (mapOk_iff _).1 h
    have := hok.most; have := hok.len
    omega
theorem bare2_lens {x : PEntry} (h : entryCheck x = 0) : entLen (bare2 x) := by
  have hs := ok_small h
  unfold bare2 entLen
  by_cases hm : x.isMap = true
  · rw [if_pos hm]
    have := hs.2 hm
    simp only [List.length_nil]; omega
  · rw [if_neg hm]
    have := hs.1 (by simpa using hm)
    simp [emptyMap]; omega
theorem gEntriesTo_shape (ds : List (List POp)) (ms : List (List Int)) : ∀ k, ∀ x ∈ gEntriesTo ds ms k, (x.isMap = true → x.deed = []) ∧ (x.isMap = false → x.map = emptyMap)
  | 0, x, hx => by cases hx
  | k + 1, x, hx => by
    rw [gEntriesTo] at hx
    rcases List.mem_append.1 hx with hx | hx
    · exact gEntriesTo_shape ds ms k x hx
    · rcases List.mem_cons.1 hx with rfl | hx
      · exact ⟨fun h => by simp at h, fun _ => rfl⟩
      · split at hx
        · rw [List.mem_singleton.1 hx]; exact ⟨fun _ => rfl, fun h => by simp at h⟩
        · cases hx
theorem gEntries_lens {ls ms : List (List Int)} : ∀ x ∈ gEntries ls ms, x.deed.length ≤ 8 ∧ x.map.cuts.length ≤ 12 ∧ x.map.owners.length ≤ 13 := fun x hx => by
  have h := ok_small (gEntries_ok ls ms x hx)
  have hs := gEntriesTo_shape _ _ _ x hx
  cases hm : x.isMap
  · rw [hs.2 hm]; have := h.1 hm; simp [emptyMap]; omega
  · rw [hs.1 hm]; have := h.2 hm; simp; omega
theorem EntsAt.take {w : World} {ao : Option Addr} {n c : Nat} {es : List Ent} (h : EntsAt w ao n c es) (j : Nat) (hj : j ≤ n) : EntsAt w ao j c (es.take j) := by
  have hl := h.n
  have hle := h.sl.le
  refine ⟨⟨by rw [ent_len, List.length_take]; omega, by omega, h.sl.nil, fun i u hu => h.sl.cell i u ?_⟩, fun e he => h.ents e (List.mem_of_mem_take he)⟩
  have hi : i < j * 4 := by
    have := (List.getElem?_eq_some_iff.1 hu).1
    rw [ent_len, List.length_take] at this; omega
  have e1 := ent_at es (i / 4) (i % 4) (by omega)
  have e2 := ent_at (es.take j) (i / 4) (i % 4) (by omega)
  rw [show i / 4 * 4 + i % 4 = i from by omega] at e1 e2
  rw [hu, List.getElem?_take, if_pos (by omega)] at e2
  rw [e1, e2]
theorem texts_take_next {xs : List PEntry} {k : Nat} {x : PEntry} (h : xs[k]? = some x) : texts (xs.take (k + 1)) = texts (xs.take k) ++ entryText x := by
  obtain ⟨hk, he⟩ := List.getElem?_eq_some_iff.1 h
  rw [List.take_succ_eq_append_getElem hk, he, texts_snoc]

set_option maxHeartbeats 8000000 in
set_option maxRecDepth 100000 in
theorem textLog_law (ao : Option Addr) (n c : Nat) (bo : Option Addr) (m d : Nat) (rs ms : List IRow) (cut : Int) (w : World) (h : RowsAt w ao n c rs) (h' : RowsAt w bo m d ms) (hn : n ≤ 1099511627) (hm : m ≤ 1099511627) (hr : ∀ r ∈ rs, r.n ≤ 1099511627) (hr' : ∀ r ∈ ms, r.n ≤ 1099511627) (hE : Env w) :
    Calls Tryd.prog 6 #[.slice ao n c, .slice bo m d, .int .i64 cut] w fun e w' => e = .returned (.bool true) ∧ Below w.heap.size w w' := by
  have H := Lib.hid h; clear h
  have H' := Lib.hid h'; clear h'
  have HR := Lib.hid hr; clear hr
  have HR' := Lib.hid hr'; clear hr'
  have HE := Lib.hid hE; clear hE
  obtain ⟨w0, hw0⟩ : ∃ w0, w.alloc (.cells #[.int .i64 1] 3) = w0 := ⟨_, rfl⟩
  have hb0 : Below w.heap.size w w0 := hw0 ▸ below_alloc w _
  have hent : EntAt w0 none 0 0 none 0 0 (some ⟨w.heap.size, 0, none⟩) 1 1 lm := by
    subst hw0
    refine ⟨opsAt_empty _, sl_none _ 1, ?_⟩
    refine ⟨rfl, Nat.le_refl _, (fun h => nomatch h), fun j u hu => ⟨_, _, rfl, ?_⟩⟩
    rw [Nat.zero_add, heap_cell (heap_new1 w _)]
    simpa [lm] using hu
  have HB0 := Lib.hid hb0; clear hb0
  have HENT := Lib.hid hent; clear hent
  go_enter Tryd.func6, Tryd.ntmps6
  go_wp2_with fail
  refine (textEntry_any none 0 0 none (some ⟨w.heap.size, 0, none⟩) 0 0 1 1 lm w0 HENT.out (by omega) (by omega) (fun o ho => by cases ho) (HE.out.below HB0.out)).mono ?_
  rintro e w1 ⟨rfl, hb1⟩
  rw [lm_text, lm_check]
  have HB1 := Lib.hid (below_more HB0.out hb1 (Nat.le_refl _)); clear hb1 hw0
  go_wp2_with fail
  refine (entries_any ao n c bo m d rs ms w1 (H.out.below HB1.out) (H'.out.below HB1.out) hn hm HR.out HR'.out).mono ?_
  rintro e w2 ⟨vo, es, rfl, hM, hes⟩
  have hB2 := below_more HB1.out hM.old (Nat.le_refl _)
  obtain ⟨a2, c2, rfl, hEA, _⟩ := hM.at_
  have HB2 := Lib.hid hB2; clear hB2
  have HEA := Lib.hid hEA; clear hEA hM
  obtain ⟨xs, hxs⟩ : ∃ xs, gEntries (rs.map IRow.l) (ms.map IRow.l) = xs := ⟨_, rfl⟩
  have hok : ∀ x ∈ xs, entryCheck x = 0 := hxs ▸ gEntries_ok _ _
  have hi64 : ∀ x ∈ xs, ∀ o ∈ x.deed, I64 o.n := hxs ▸ gEntries_i64 _ _
  have hln : ∀ x ∈ xs, x.deed.length ≤ 8 ∧ x.map.cuts.length ≤ 12 ∧ x.map.owners.length ≤ 13 := hxs ▸ gEntries_lens
  have hxl : xs.length ≤ 24 := hxs ▸ gEntries_len _ _
  rw [hxs] at hes
  have hesl : es.length = xs.length := by rw [← hes, List.length_map]
  have hes24 : es.length ≤ 24 := by omega
  have HES := Lib.hid hes; clear hes hxs
  have HESL := Lib.hid hesl; clear hesl
  have HOK := Lib.hid hok; clear hok
  have HI := Lib.hid hi64; clear hi64
  have HLN := Lib.hid hln; clear hln
  go_wp2_with fail
  go_loopw [9, 37] (fun t i wr => ∃ k : Nat, k ≤ es.length ∧ i = .int .i64 k ∧ t = .string (S (texts (xs.take k))) ∧ Below w2.heap.size w2 wr) (fun _ i _ => es.length - (intOf i).toNat)
  case atStart => exact ⟨0, Nat.zero_le _, rfl, rfl, Below.refl _ _⟩
  case round =>
    obtain ⟨k, hk, rfl, rfl, hbw⟩ := hrel
    have HBW := Lib.hid hbw; clear hbw
    by_cases hlt : k < es.length
    · obtain ⟨b1, f1, x, hao, _, hx, hxo, cx0, cx1, cx2, cx3⟩ := (HEA.out.below HBW.out).cells k hlt
      subst hao
      have hxx : xs[k]? = some x.x := by rw [← HES.out, List.getElem?_map, hx]; rfl
      have hxm := List.mem_of_getElem? hxx
      have hck := HOK.out _ hxm
      have hxn := HLN.out _ hxm
      have hlen1 : x.en ≤ 8 ∧ x.m ≤ 13 := by
        have e1 := hxo.ent.deed.n; have e3 := hxo.ent.map.m; omega
      obtain ⟨hx1, hx2⟩ := hlen1
      have hnx := texts_take_next hxx
      have htk : (S (texts (xs.take k))).size ≤ 7000 := by
        rw [S_size]
        have h1 := texts_len (xs.take k) (fun y hy => HOK.out y (List.mem_of_mem_take hy))
        have : (xs.take k).length ≤ 24 := by rw [List.length_take]; omega
        omega
      have hte : (S (entryText x.x)).size ≤ 263 := by rw [S_size]; exact entryText_len hck
      have hcb : (entryCheck x.x != 0) = false := by rw [hck]; rfl
      have HXI := Lib.hid (HI.out _ hxm)
      have HNX := Lib.hid hnx; clear hnx hxx hxm hck hxn hx
      have HXO := Lib.hid hxo; clear hxo
      have HBA := Lib.hid (below_alloc wr (.cells #[.slice x.eo x.en x.ec, .bool x.x.isMap, .slice x.ao x.n x.c, .slice x.bo x.m x.d] 41))
      go_wp2_with fail
      have HBX := Lib.hid (below_more HB2.out (HBW.out.trans (HBA.out.mono HBW.out.size)) (Nat.le_refl _))
      refine (textEntry_any x.eo x.en x.ec x.ao x.bo x.n x.c x.m x.d x.x _ (HXO.out.below HBA.out).ent (by omega) (by omega) HXI.out (HE.out.below HBX.out)).mono ?_
      rintro e w4 ⟨rfl, hb4⟩
      have HB4 := Lib.hid ((HBW.out.trans (HBA.out.mono HBW.out.size)).trans (hb4.mono (Nat.le_trans HBW.out.size HBA.out.size))); clear hb4
      go_wp2_with fail
      go_roundw
      case rel => exact ⟨k + 1, by omega, by go_num, by rw [HNX.out, ← S_add], HB4.out⟩
      case measure => simp [intOf]; omega
    · obtain rfl : k = es.length := by omega
      have hall : xs.take es.length = xs := List.take_of_length_le (by rw [HESL.out]; exact Nat.le_refl _)
      rw [hall]
      clear hall
      obtain ⟨t, ht⟩ : ∃ t, S (texts xs) = t := ⟨_, rfl⟩
      rw [ht]
      have htd : t.data.toList = texts xs := by rw [← ht, S_bytes]
      obtain ⟨L, hL⟩ : ∃ L, (texts xs).length = L := ⟨_, rfl⟩
      have hts : t.size = L := by rw [← ht, S_size, hL]
      have hL7 : L ≤ 7000 := by rw [← hL]; have := texts_len xs HOK.out; omega
      have htz : t.size ≤ 7000 := by omega
      have htz' : (t.size : Int) ≤ 7000 := by omega
      have hlv : logV t.data.toList = (xs.map bare2, (L : Int), 0) := by
        have := logV_texts (r := []) HOK.out (by simp) (by rw [List.append_nil]; omega)
        rw [List.append_nil] at this
        rw [htd, this, hL]
      have HLV := Lib.hid hlv; clear hlv
      have HTD := Lib.hid htd; clear htd
      have HTS := Lib.hid hts; clear hts
      have HL := Lib.hid hL; clear hL ht
      have HB3 := Lib.hid (below_more HB2.out HBW.out (Nat.le_refl _))
      go_wp2_with fail
      refine (log_any t (by omega) wr (HE.out.below HB3.out)).mono ?_
      rintro e w5 ⟨vo5, es5, rfl, hM5, hx5⟩
      rw [HLV.out] at hx5 ⊢
      obtain ⟨a5, c5, rfl, hEA5, _⟩ := hM5.at_
      have HB5 := Lib.hid (below_more HB3.out hM5.old (Nat.le_refl _))
      have HEA5 := Lib.hid hEA5; clear hEA5 hM5
      have h5l : es5.length = es.length := by
        have h1 := congrArg List.length hx5
        simp only [List.length_map] at h1
        rw [h1, HESL.out]
      have hne1 : ((es5.length : Int) != (es.length : Int)) = false := by rw [h5l]; simp
      have hne2 : ((L : Int) != (t.size : Int)) = false := by rw [HTS.out]; simp
      have hle5 : es5.length ≤ 24 := by omega
      have HX5 := Lib.hid hx5; clear hx5
      have H5L := Lib.hid h5l; clear h5l
      have hw0 := within_lo cut ((t.size : Int) + 1)
      have hw1 := within_hi cut ((t.size : Int) + 1) (by omega)
      obtain ⟨q, hq⟩ : ∃ q : Nat, within cut ((t.size : Int) + 1) = q := ⟨(within cut ((t.size : Int) + 1)).toNat, by omega⟩
      rw [hq] at hw0 hw1
      have hqt : q ≤ t.size := by omega
      have hqt' : (q : Int) ≤ (t.size : Int) := by omega
      have HQ := Lib.hid hq; clear hq
      go_wp2_with fail
      refine (within_any cut ((t.size : Int) + 1) w5 (by omega) (by omega)).mono ?_
      rintro e w6 ⟨rfl, rfl⟩
      rw [HQ.out]
      obtain ⟨j, r, hj, hr, hcut⟩ := texts_cut xs q HOK.out
      obtain ⟨tq, htq⟩ : ∃ tq, t.extract 0 q = tq := ⟨_, rfl⟩
      have htqd : tq.data.toList = texts (xs.take j) ++ r := by
        rw [← htq, Lib.extract_data, HTD.out, ← hcut]; simp
      have htqs : tq.size = q := by rw [← htq, ByteArray.size_extract]; omega
      obtain ⟨u, hu⟩ : ∃ u, (texts (xs.take j)).length = u := ⟨_, rfl⟩
      have hokj : ∀ x ∈ xs.take j, entryCheck x = 0 := fun x hx => HOK.out x (List.mem_of_mem_take hx)
      have huq : u ≤ q := by
        have h1 : tq.data.toList.length = q := htqs
        rw [htqd, List.length_append, hu] at h1; omega
      have hlvq : logV tq.data.toList = ((xs.take j).map bare2, (u : Int), 0) := by
        have := logV_texts (r := r) hokj hr (by have h1 : tq.data.toList.length = q := htqs; rw [htqd] at h1; omega)
        rw [htqd, this, hu]
      have hcnt : Lib.countByte tq.data.toList 10 = j := by
        unfold Lib.countByte
        rw [htqd, count_texts _ _ hokj hr, List.length_take]; omega
      have hmid : (t.extract u q).data.toList = r := by
        rw [Lib.extract_data, HTD.out]
        have h1 : (texts xs).take q = texts (xs.take j) ++ r := hcut
        have h2 : ((texts xs).take q).drop u = r := by rw [h1, ← hu]; simp
        rw [List.drop_take] at h2
        exact h2
      have hidx : Lib.indexByte (t.extract u q).data.toList 10 = -1 := by rw [hmid]; exact idx_none (cut1_none r hr)
      have hqz : q ≤ 7000 := by omega
      have HTQ := Lib.hid htq; clear htq
      have HTQS := Lib.hid htqs; clear htqs htqd
      have HLQ := Lib.hid hlvq; clear hlvq
      have HCNT := Lib.hid hcnt; clear hcnt
      have HIDX := Lib.hid hidx; clear hidx hmid hcut hu hr
      have HOKJ := Lib.hid hokj; clear hokj
      have huq' : (u : Int) ≤ (q : Int) := by omega
      have hun : (0 : Int) ≤ (u : Int) := by omega
      have hqn : (0 : Int) ≤ (q : Int) := by omega
      have hjx : j ≤ es5.length := by rw [H5L.out, HESL.out]; exact hj
      clear hj
      go_wp2_with fail
      rw [HTQ.out]
      refine (log_any tq (by rw [HTQS.out]; omega) w5 (HE.out.below HB5.out)).mono ?_
      rintro e w7 ⟨vo7, es7, rfl, hM7, hx7⟩
      rw [HLQ.out] at hx7 ⊢
      obtain ⟨a7, c7, rfl, hEA7, _⟩ := hM7.at_
      have HB7 := Lib.hid (below_more HB5.out hM7.old (Nat.le_refl _))
      have HEA57 := Lib.hid (HEA5.out.below hM7.old)
      have HEA7 := Lib.hid hEA7; clear hEA7 hM7
      have h7l : es7.length = j := by
        have h1 := congrArg List.length hx7
        simp only [List.length_map, List.length_take] at h1
        rw [h1]; have := HESL.out; have := H5L.out; omega
      have HX7 := Lib.hid hx7; clear hx7
      rw [h7l]
      have HEA7' := Lib.hid (h7l ▸ HEA7.out : EntsAt w7 a7 j c7 es7); clear HEA7
      have H7L := Lib.hid h7l; clear h7l
      go_wp2_with fail
      refine (Tryd.strings_Contains_one (t.extract u q) 10 w7).mono ?_
      rintro e w8 ⟨rfl, hw8⟩
      obtain rfl := hw8.symm
      rw [HIDX.out]
      go_wp2_with fail
      rw [HTQ.out]
      refine (Tryd.strings_Count_one tq 10 w7).mono ?_
      rintro e w8 ⟨rfl, hw8⟩
      obtain rfl := hw8.symm
      rw [HCNT.out]
      have hjb : (j : Int) ≤ (es5.length : Int) := by omega
      have hj0 : (0 : Int) ≤ (j : Int) := by omega
      have hcc : (j : Int) ≤ (c5 : Int) := by have := HEA5.out.sl.le; omega
      have hcc' : j ≤ c5 := by have := HEA5.out.sl.le; omega
      go_wp2_with fail
      refine (eqEnts_any a7 a5 j c7 j c5 es7 (es5.take j) w7 HEA7'.out (HEA57.out.take j hjx) (by omega) rfl ?_ ?_).mono ?_
      · rw [HX7.out, List.map_take, List.map_take, HX5.out]
      · intro h hh
        have : h.x ∈ (xs.take j).map bare2 := by rw [← HX7.out]; exact List.mem_map_of_mem hh
        obtain ⟨y, hy, hye⟩ := List.mem_map.1 this
        rw [← hye]; exact bare2_lens (HOKJ.out y hy)
      rintro e w9 ⟨rfl, hb9⟩
      go_wp2_with fail
      go_ret
      exact ⟨rfl, below_more HB7.out hb9 (Nat.le_refl _)⟩
end Go.Proofs.YtdhfcelhgnjpcaaDoor
