/-
  text.Log: the entries of a text, how much of it is used, the error.
-/
import Derived.Test.YtdhfcelhgnjpcaaDoorEntries
namespace Go.Proofs.YtdhfcelhgnjpcaaDoor
open Go.RowKit

theorem logV_large {s : Bs} (h : 20000 < s.length) : logV s = ([], 0, 2) := by rw [logV, if_pos h]
theorem logV_small {s : Bs} (h : ¬ 20000 < s.length) : logV s = logFrom (s.length + 1) s := by rw [logV, if_neg h]
theorem ext_rest (s : Str) (u : Nat) : (s.extract u s.size).data.toList = s.data.toList.drop u := by
  rw [Lib.extract_data]
  exact List.take_of_length_le (by simp)

set_option maxHeartbeats 4000000 in
set_option maxRecDepth 100000 in
theorem log_any (s : Str) (hs : s.size ≤ 1099511627) (w : World) (hE : Env w) :
    Calls Tryd.prog 36 #[.string s] w fun e w' => ∃ vo es, e = .returned (.tuple #[vo, .int .i64 (logV s.data.toList).2.1, .int .i64 (logV s.data.toList).2.2]) ∧ EM w vo es w' ∧ es.map Ent.x = (logV s.data.toList).1 := by
  obtain ⟨i0, hi0, hz0, hs0, hb0⟩ := info_parts infoE
  have hsl : s.data.toList.length = s.size := rfl
  have HE := Lib.hid hE; clear hE
  by_cases hlt : 20000 < s.size
  · have HR := Lib.hid (logV_large (s := s.data.toList) (by rw [hsl]; exact hlt))
    have HSL := Lib.hid hsl; clear hsl
    go_enter Tryd.func36, Tryd.ntmps36
    go_wp2_with fail
    go_ret3
    exact ⟨.slice none 0 0, [], by rw [HR.out]; rfl, EM.start w, by rw [HR.out]; rfl⟩
  · have HR := Lib.hid (logV_small (s := s.data.toList) (by rw [hsl]; exact hlt))
    have HST := Lib.hid (logSt_start s.data.toList)
    have HSL := Lib.hid hsl; clear hsl
    have hlt' : s.size ≤ 20000 := by omega
    have HEM := Lib.hid (EM.start w)
    go_enter Tryd.func36, Tryd.ntmps36
    go_wp2_with fail
    go_loopw [5, 6] (fun t i wr => ∃ u : Nat, u ≤ s.size ∧ i = .int .i64 u ∧ ∃ es, LogSt s.data.toList u (es.map Ent.x) ∧ EM w t es wr ∧ es.length ≤ u) (fun _ i _ => s.size - (intOf i).toNat)
    case atStart => exact ⟨0, Nat.zero_le _, rfl, [], HST.out, HEM.out, Nat.le_refl _⟩
    case round =>
      obtain ⟨u, hu, rfl, es, hst, hem, hel⟩ := hrel
      have HLS := Lib.hid hst; clear hst
      have HM := Lib.hid hem; clear hem
      have HEL := Lib.hid hel; clear hel
      by_cases hlu : u < s.size
      · have hlu' : u < s.data.toList.length := by rw [HSL.out]; exact hlu
        have hui : (u : Int) ≤ (s.size : Int) := by omega
        obtain ⟨q, hq⟩ : ∃ q, s.extract u s.size = q := ⟨_, rfl⟩
        have hqd : q.data.toList = s.data.toList.drop u := by rw [← hq]; exact ext_rest s u
        have hqs : q.size ≤ 1099511627 := by rw [← hq, ByteArray.size_extract]; omega
        have hre := readEntry_new q hqs wr (HE.out.below HM.out.old)
        rw [hqd] at hre
        have HQ := Lib.hid hq; clear hq hqd
        have HRE := Lib.hid hre; clear hre
        have HLU := Lib.hid hlu'; clear hlu'
        obtain ⟨re, hred⟩ : ∃ re, readEntry (s.data.toList.drop u) = re := ⟨_, rfl⟩
        have HRED := Lib.hid hred; clear hred
        go_wp2_with fail
        rw [HQ.out]
        refine HRE.out.mono ?_
        rw [HRED.out]
        rintro e w2 ⟨eo, en, ec, ao, n, c, bo, m, d, rfl, hX, hf1, hf2, hf3, hb2⟩
        have HM2 := Lib.hid (HM.out.below hb2); clear hb2
        have HX := Lib.hid (show Ent.Ok w2 ⟨eo, en, ec, ao, n, c, bo, m, d, re.1⟩ from ⟨hX, hf1.typed, hf2.typed, hf3.typed⟩); clear hX hf1 hf2 hf3
        by_cases h7 : re.2.2 = 7
        · have h7b : (re.2.2 == 7) = true := by rw [h7]; rfl
          have HV := Lib.hid (logSt_short HLS.out HLU.out (by rw [HRED.out]; exact h7)); clear h7
          go_wp2_with fail
          go_ret3
          exact ⟨_, es, by rw [HR.out, HV.out]; rfl, HM2.out.alloc _, by rw [HR.out, HV.out]⟩
        · have h7b : (re.2.2 == 7) = false := by simpa using h7
          by_cases h0 : re.2.2 = 0
          · have h0b : (re.2.2 != 0) = false := by rw [h0]; rfl
            obtain ⟨hnx, hpos, hlen⟩ := logSt_next HLS.out HLU.out (by rw [HRED.out]; exact h0)
            rw [HRED.out] at hnx hpos hlen
            rw [HSL.out] at hlen
            obtain ⟨k, hk⟩ : ∃ k : Nat, re.2.1 = k := ⟨re.2.1.toNat, by omega⟩
            rw [hk] at hnx hpos hlen
            rw [hk]
            simp only [Int.toNat_natCast] at hnx hlen
            have HNX := Lib.hid hnx; clear hnx
            clear h0 h7 hk
            have hkp : 1 ≤ k := by omega
            have hels := HEL.out
            go_wp2_with (at_builtin; refine wpList_append_lies _ (by rfl) _ _ 23 (by rfl) w.heap.size 41 i0 _ 4 80 Tryd.underlying23 hi0 hz0 hs0 hb0 rfl (by omega) _ _ _ (by rfl) ((HM2.out.alloc (.cells #[.slice eo en ec, .bool re.1.isMap, .slice ao n c, .slice bo m d] 41)).alloc (.cells #[.slice eo en ec, .bool re.1.isMap, .slice ao n c, .slice bo m d] 41)).owns ⟨w2.heap.size + 1, 0, none⟩ 1 1 #[.slice eo en ec, .bool re.1.isMap, .slice ao n c, .slice bo m d].toList (by rfl) (by rfl) (World.news_of_block (cs := #[.slice eo en ec, .bool re.1.isMap, .slice ao n c, .slice bo m d]) (t := 41) (fr := (0, 0)) (heap_new (by simp) _)) (by simp [Value.oneCell']) (by omega) (by unfold maxLen; omega) (by omega) (by have h1 := HM2.out.old.size; simp; omega) (w2.heap.size + 2) (by simp) ?_; intro g cap w3 hown3 hgrow3 hat3 hlt3; have M2 := Lib.hid (((HM2.out.alloc (.cells #[.slice eo en ec, .bool re.1.isMap, .slice ao n c, .slice bo m d] 41)).alloc (.cells #[.slice eo en ec, .bool re.1.isMap, .slice ao n c, .slice bo m d] 41)).grow (x := ⟨eo, en, ec, ao, n, c, bo, m, d, re.1⟩) hown3 hgrow3 ((HX.out.below (below_alloc _ _)).below (below_alloc _ _))); clear hown3 hgrow3 hat3 hels)
            go_roundw
            case rel =>
              refine ⟨u + k, by omega, by go_num, es ++ [⟨eo, en, ec, ao, n, c, bo, m, d, re.1⟩], ?_, M2.out, by have := HEL.out; simp; omega⟩
              rw [List.map_append]
              exact HNX.out
            case measure => simp [intOf]; omega
          · have h0b : (re.2.2 != 0) = true := by simpa using h0
            have HV := Lib.hid (logSt_bad HLS.out HLU.out (by rw [HRED.out]; exact h7) (by rw [HRED.out]; exact h0))
            clear h0 h7
            go_wp2_with fail
            go_ret3
            exact ⟨.slice none 0 0, [], by rw [HR.out, HV.out, HRED.out]; rfl, ⟨⟨rfl, Or.inl ⟨rfl, rfl⟩⟩, fun h hh => (by cases hh), (HM2.out.alloc _).old⟩, by rw [HR.out, HV.out]; rfl⟩
      · obtain rfl : u = s.size := by omega
        have HV := Lib.hid (logSt_end HLS.out HSL.out.symm)
        go_wp2_with fail
        go_ret3
        exact ⟨_, es, by rw [HR.out, HV.out]; rfl, HM.out, by rw [HR.out, HV.out]⟩
end Go.Proofs.YtdhfcelhgnjpcaaDoor
