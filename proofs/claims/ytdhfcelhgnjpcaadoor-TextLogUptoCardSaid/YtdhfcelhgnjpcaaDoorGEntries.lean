/-
  rokeep.entries: entries drawn out of numbers.
-/
import Derived.Test.YtdhfcelhgnjpcaaDoorDeeds
import Derived.Test.YtdhfcelhgnjpcaaDoorEntries
import Derived.Test.YtdhfcelhgnjpcaaDoorMap
namespace Go.Proofs.YtdhfcelhgnjpcaaDoor
open Go.RowKit

def gEntriesTo (ds : List (List POp)) (ms : List (List Int)) : Nat → List PEntry
  | 0 => []
  | k + 1 => gEntriesTo ds ms k ++ (⟨ds.getD k [], false, emptyMap⟩ :: if k < ms.length then [⟨[], true, gMap (ms.getD k [])⟩] else [])
def gEntries (ls ms : List (List Int)) : List PEntry := gEntriesTo (gDeeds (ls.take 12)) ms (gDeeds (ls.take 12)).length
theorem gEntriesTo_ok (ds : List (List POp)) (ms : List (List Int)) (h : ∀ d ∈ ds, deedCheck d = 0) : ∀ k, k ≤ ds.length → ∀ x ∈ gEntriesTo ds ms k, entryCheck x = 0
  | 0, _, x, hx => by cases hx
  | k + 1, hk, x, hx => by
    rw [gEntriesTo] at hx
    rcases List.mem_append.1 hx with hx | hx
    · exact gEntriesTo_ok ds ms h k (by omega) x hx
    · rcases List.mem_cons.1 hx with rfl | hx
      · have : ds.getD k [] ∈ ds := by rw [List.getD_eq_getElem?_getD, List.getElem?_eq_getElem (by omega)]; exact List.getElem_mem _
        have h0 := h _ this
        simpa [entryCheck] using h0
      · split at hx
        · rw [List.mem_singleton.1 hx]
          have := (mapOk_iff _).2 (gMap_ok (ms.getD k []))
          simpa [entryCheck] using this
        · cases hx
theorem gEntries_ok (ls ms : List (List Int)) : ∀ x ∈ gEntries ls ms, entryCheck x = 0 := gEntriesTo_ok _ _ gDeeds_check _ (Nat.le_refl _)
theorem gEntriesTo_len (ds : List (List POp)) (ms : List (List Int)) : ∀ k, (gEntriesTo ds ms k).length ≤ 2 * k
  | 0 => by simp [gEntriesTo]
  | k + 1 => by
    have := gEntriesTo_len ds ms k
    rw [gEntriesTo, List.length_append]
    split <;> simp <;> omega
theorem gDeeds12 (ls : List (List Int)) : (gDeeds (ls.take 12)).length ≤ 12 := Nat.le_trans (gDeeds_len _) (by simp; omega)
theorem gEntries_len (ls ms : List (List Int)) : (gEntries ls ms).length ≤ 24 := by
  have h1 := gEntriesTo_len (gDeeds (ls.take 12)) ms (gDeeds (ls.take 12)).length
  have h2 := gDeeds12 ls
  unfold gEntries; omega
theorem gEntriesTo_n (ds : List (List POp)) (ms : List (List Int)) (h : ∀ d ∈ ds, ∀ o ∈ d, 0 ≤ o.n ∧ o.n < 9) : ∀ k, k ≤ ds.length → ∀ x ∈ gEntriesTo ds ms k, ∀ o ∈ x.deed, 0 ≤ o.n ∧ o.n < 9
  | 0, _, x, hx => by cases hx
  | k + 1, hk, x, hx => by
    rw [gEntriesTo] at hx
    rcases List.mem_append.1 hx with hx | hx
    · exact gEntriesTo_n ds ms h k (by omega) x hx
    · rcases List.mem_cons.1 hx with rfl | hx
      · have : ds.getD k [] ∈ ds := by rw [List.getD_eq_getElem?_getD, List.getElem?_eq_getElem (by omega)]; exact List.getElem_mem _
        exact h _ this
      · split at hx
        · rw [List.mem_singleton.1 hx]; intro o ho; cases ho
        · cases hx
theorem gEntries_i64 (ls ms : List (List Int)) : ∀ x ∈ gEntries ls ms, ∀ o ∈ x.deed, I64 o.n := fun x hx o ho => by
  have := gEntriesTo_n _ ms (fun d hd => gDeeds_n d hd) _ (Nat.le_refl _) x hx o ho
  unfold I64; omega
theorem EM.lift {w w1 W : World} {vo : Value} {es : List Ent} (h : EM w1 vo es W) (hb : Below w.heap.size w w1) : EM w vo es W := ⟨owns_base h.owns hb.size, h.ents, below_more hb h.old (Nat.le_refl _)⟩
theorem DsM.cell {w W : World} {ao : Option Addr} {n c : Nat} {ds : List DRow} (h : DsM w (.slice ao n c) ds W) (k : Nat) (hk : k < ds.length) :
    ∃ b off d, ao = some ⟨b, off, none⟩ ∧ b < W.heap.size ∧ ds[k]? = some d ∧ d.Ok W ∧ W.cell? ⟨b, off + k, none⟩ = some (.slice d.ao d.n d.c) := by
  obtain ⟨a, c', hv, hs⟩ := Sl.of_owns h.owns
  simp only [Value.slice.injEq] at hv
  obtain ⟨rfl, rfl, rfl⟩ := hv
  obtain ⟨b, off, h1, h2⟩ := hs.cell k ds[k].cell (by rw [List.getElem?_map, List.getElem?_eq_getElem hk]; rfl)
  exact ⟨b, off, ds[k], h1, World.block_lt_of_cell? W _ h2, List.getElem?_eq_getElem hk, h.rows _ (List.getElem_mem _), h2⟩

set_option maxHeartbeats 8000000 in
set_option maxRecDepth 100000 in
theorem entries_any (ao : Option Addr) (n c : Nat) (bo : Option Addr) (m d : Nat) (rs ms : List IRow) (w : World) (h : RowsAt w ao n c rs) (h' : RowsAt w bo m d ms) (hn : n ≤ 1099511627) (hm : m ≤ 1099511627) (hr : ∀ r ∈ rs, r.n ≤ 1099511627) (hr' : ∀ r ∈ ms, r.n ≤ 1099511627) :
    Calls Tryd.prog 35 #[.slice ao n c, .slice bo m d] w fun e w' => ∃ vo es, e = .returned vo ∧ EM w vo es w' ∧ es.map Ent.x = gEntries (rs.map IRow.l) (ms.map IRow.l) := by
  obtain ⟨i0, hi0, hz0, hs0, hb0⟩ := info_parts infoE
  have hml := h'.n
  have H := Lib.hid h; clear h
  have H' := Lib.hid h'; clear h'
  have HML := Lib.hid hml; clear hml
  have HR := Lib.hid hr; clear hr
  have HR' := Lib.hid hr'; clear hr'
  go_enter Tryd.func35, Tryd.ntmps35
  go_wp2_with fail
  refine (deeds_any ao n c 12 rs w H.out hn HR.out (by omega)).mono ?_
  rintro e w1 ⟨vo, ds, rfl, hD, hds⟩
  rw [List.map_take] at hds
  obtain ⟨a1, c1, hv, hs1⟩ := Sl.of_owns hD.owns
  subst hv
  have hlen : ds.length ≤ 12 := by
    have h1 := congrArg List.length hds
    rw [List.length_map] at h1
    have := gDeeds12 (rs.map IRow.l)
    omega
  have HD := Lib.hid hD; clear hD hs1
  have HDS := Lib.hid hds; clear hds
  have HS1 := Lib.hid (EM.start w1)
  go_wp2_with fail
  go_loopw [5, 11] (fun t i wr => ∃ k : Nat, k ≤ ds.length ∧ i = .int .i64 k ∧ ∃ es, EM w1 t es wr ∧ es.map Ent.x = gEntriesTo (ds.map DRow.l) (ms.map IRow.l) k ∧ es.length ≤ 2 * k) (fun _ i _ => ds.length - (intOf i).toNat)
  case atStart => exact ⟨0, Nat.zero_le _, rfl, [], HS1.out, rfl, by simp⟩
  case round =>
    obtain ⟨k, hk, rfl, es, hem, hes, hel⟩ := hrel
    have HM := Lib.hid hem; clear hem
    have HES := Lib.hid hes; clear hes
    have HEL := Lib.hid hel; clear hel
    have HBW := Lib.hid HM.out.old
    by_cases hlt : k < ds.length
    · obtain ⟨db, doff, dd, hao, _, hdk, hdo, hdc⟩ := (HD.out.below HBW.out).cell k hlt
      subst hao
      obtain ⟨da, dn, dc, dl⟩ := dd
      simp only at hdc
      have hel24 : es.length ≤ 24 := by have := HEL.out; omega
      have HDK := Lib.hid hdk; clear hdk
      have HDO := Lib.hid (show Ent.Ok wr ⟨da, dn, dc, none, 0, 0, none, 0, 0, ⟨dl, false, emptyMap⟩⟩ from ⟨⟨hdo.ops, mapAt_empty wr⟩, hdo.t, TypedAt.nil _ _, TypedAt.nil _ _⟩); clear hdo
      have HMX := Lib.hid (HM.out.alloc (.cells #[.slice da dn dc] 36))
      have hdl : (ds.map DRow.l).getD k [] = dl := by
        rw [List.getD_eq_getElem?_getD, List.getElem?_map, HDK.out]; rfl
      have HDL := Lib.hid hdl; clear hdl
      go_upto_region 6 with (at_builtin; refine wpList_append_lies _ (by rfl) _ _ 23 (by rfl) w1.heap.size 41 i0 _ 4 80 Tryd.underlying23 hi0 hz0 hs0 hb0 rfl (by omega) _ _ _ (by rfl) (HMX.out.alloc (.cells #[.slice da dn dc, .bool false, .slice none 0 0, .slice none 0 0] 41)).owns ⟨wr.heap.size + 1, 0, none⟩ 1 1 #[.slice da dn dc, .bool false, .slice none 0 0, .slice none 0 0].toList (by rfl) (by rfl) (World.news_of_block (cs := #[.slice da dn dc, .bool false, .slice none 0 0, .slice none 0 0]) (t := 41) (fr := (0, 0)) (heap_new (by simp) _)) (by simp [Value.oneCell']) (by omega) (by unfold maxLen; omega) (by omega) (by have h1 := HM.out.old.size; simp; omega) (wr.heap.size + 2) (by simp) ?_; intro g cap w3 hown3 hgrow3 hat3 hlt3; have M3 := Lib.hid ((HMX.out.alloc (.cells #[.slice da dn dc, .bool false, .slice none 0 0, .slice none 0 0] 41)).grow (x := ⟨da, dn, dc, none, 0, 0, none, 0, 0, ⟨dl, false, emptyMap⟩⟩) hown3 hgrow3 ((HDO.out.below (below_alloc wr _)).below (below_alloc _ _))); clear hown3 hgrow3 hat3)
      have HW3 := Lib.hid M3.out.old
      have hl3 : (es ++ [(⟨da, dn, dc, none, 0, 0, none, 0, 0, ⟨dl, false, emptyMap⟩⟩ : Ent)]).length = es.length + 1 := by simp
      obtain ⟨es3, hes3⟩ : ∃ es3, es ++ [(⟨da, dn, dc, none, 0, 0, none, 0, 0, ⟨dl, false, emptyMap⟩⟩ : Ent)] = es3 := ⟨_, rfl⟩
      rw [hes3] at hl3
      have hm3 : es3.map Ent.x = gEntriesTo (ds.map DRow.l) (ms.map IRow.l) k ++ [⟨(ds.map DRow.l).getD k [], false, emptyMap⟩] := by rw [← hes3, List.map_append, HES.out, HDL.out]; rfl
      rw [hes3] at M3
      by_cases hkm : k < m
      · obtain ⟨rb, roff, r, hbo, _, hrk, hro, hrc⟩ := (H'.out.below (below_more (HD.out.old) HW3.out (Nat.le_refl _))).row k hkm
        subst hbo
        obtain ⟨ra, rn, rc, rl⟩ := r
        simp only at hrc
        have hrn : rn ≤ 1099511627 := HR'.out _ (List.mem_of_getElem? hrk)
        have hrl : (ms.map IRow.l).getD k [] = rl := by rw [List.getD_eq_getElem?_getD, List.getElem?_map, hrk]; rfl
        have HRL := Lib.hid hrl; clear hrl hrk
        have HRO := Lib.hid (show Sl w3 1 ra rn rc (rl.map (.int .i64)) from hro); clear hro
        have hkmi : (k : Int) < (m : Int) := by omega
        have HM3 := Lib.hid hm3; clear hm3
        have HL3 := Lib.hid hl3; clear hl3
        have HE3 := Lib.hid hes3; clear hes3
        go_wp2_with fail
        refine (gmap_any ra rn rc rl w3 HRO.out).mono ?_
        rintro e w4 ⟨vc, vo, rfl, hvc, hvo, hb4⟩
        obtain ⟨ca, cc, rfl, hsc⟩ := Sl.of_owns hvc
        obtain ⟨oa, oc, rfl, hso⟩ := Sl.of_owns hvo
        generalize hcn : (gMap rl).cuts.length = cn at hvc hsc ⊢
        generalize hon : (gMap rl).owners.length = on at hvo hso ⊢
        have HMO := Lib.hid (show Ent.Ok w4 ⟨none, 0, 0, ca, cn, cc, oa, on, oc, ⟨[], true, gMap rl⟩⟩ from ⟨⟨opsAt_empty w4, ⟨hsc, hso⟩⟩, TypedAt.nil _ _, TypedAt.of_own hvc, TypedAt.of_own hvo⟩)
        have M4 := Lib.hid (M3.out.below hb4)
        clear hb4 hvc hvo hsc hso hcn hon
        have hes24 : es3.length ≤ 25 := by rw [HL3.out]; omega
        go_wp2_with (at_builtin; refine wpList_append_lies _ (by rfl) _ _ 23 (by rfl) w1.heap.size 41 i0 _ 4 80 Tryd.underlying23 hi0 hz0 hs0 hb0 rfl (by omega) _ _ _ (by rfl) (M4.out.alloc (.cells #[.slice none 0 0, .bool true, .slice ca cn cc, .slice oa on oc] 41)).owns ⟨w4.heap.size, 0, none⟩ 1 1 #[.slice none 0 0, .bool true, .slice ca cn cc, .slice oa on oc].toList (by rfl) (by rfl) (World.news_of_block (cs := #[.slice none 0 0, .bool true, .slice ca cn cc, .slice oa on oc]) (t := 41) (fr := (0, 0)) (heap_new1 w4 _)) (by simp [Value.oneCell']) (by omega) (by unfold maxLen; omega) (by omega) (by have h1 := M4.out.old.size; simp; omega) (w4.heap.size + 1) (by simp) ?_; intro g5 cap5 w5 hown5 hgrow5 hat5 hlt5; have M5 := Lib.hid ((M4.out.alloc (.cells #[.slice none 0 0, .bool true, .slice ca cn cc, .slice oa on oc] 41)).grow (x := ⟨none, 0, 0, ca, cn, cc, oa, on, oc, ⟨[], true, gMap rl⟩⟩) hown5 hgrow5 (HMO.out.below (below_alloc w4 _))); clear hown5 hgrow5 hat5)
        go_roundw
        case rel =>
          refine ⟨k + 1, by omega, by go_num, _, M5.out, ?_, ?_⟩
          · rw [List.map_append, HM3.out, gEntriesTo, if_pos (by rw [List.length_map, HML.out]; exact hkm), HRL.out, List.append_assoc]; rfl
          · rw [List.length_append, HL3.out]; have := HEL.out; simp; omega
        case measure => simp [intOf]; omega
      · have hkmi : ¬ (k : Int) < (m : Int) := by omega
        have hkmd : decide ((k : Int) < (m : Int)) = false := by simpa using hkmi
        have HM3 := Lib.hid hm3; clear hm3
        have HL3 := Lib.hid hl3; clear hl3
        have HE3 := Lib.hid hes3; clear hes3
        go_wp2_with fail
        go_roundw
        case rel =>
          refine ⟨k + 1, by omega, by go_num, es3, M3.out, ?_, ?_⟩
          · rw [HM3.out, gEntriesTo, if_neg (by rw [List.length_map, HML.out]; exact hkm)]
          · rw [HL3.out]; have := HEL.out; omega
        case measure => simp [intOf]; omega
    · obtain rfl : k = ds.length := by omega
      go_wp2_with fail
      go_ret
      refine ⟨_, es, rfl, HM.out.lift HD.out.old, ?_⟩
      rw [HES.out, gEntries, ← HDS.out, List.length_map]
end Go.Proofs.YtdhfcelhgnjpcaaDoor
