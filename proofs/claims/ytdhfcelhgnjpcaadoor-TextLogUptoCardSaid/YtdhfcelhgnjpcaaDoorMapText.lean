/-
  text.Map: a map as text.
-/
import Derived.Test.YtdhfcelhgnjpcaaDoorMapPlain
import Derived.Test.YtdhfcelhgnjpcaaDoorEnv
namespace Go.Proofs.YtdhfcelhgnjpcaaDoor
open Go.RowKit

set_option maxHeartbeats 2000000 in
theorem textMap_any (ao bo : Option Addr) (n c m d : Nat) (p : PMap) (w : World) (h : MapAt w ao n c bo m d p) (hn : m ≤ 1099511627776) (hE : Env w) :
    Calls Tryd.prog 53 #[.agg #[.slice ao n c, .slice bo m d]] w fun e w' => e = .returned (.tuple #[.string (S (mapTextE p)), .int .i64 (mapCheck p)]) ∧ Below w.heap.size w w' := by
  have H := Lib.hid h; clear h
  have HE := Lib.hid hE; clear hE
  obtain ⟨w0, hw0⟩ : ∃ w0, w.alloc (.cells #[.slice ao n c, .slice bo m d] 39) = w0 := ⟨_, rfl⟩
  have hb0 : Below w.heap.size w w0 := hw0 ▸ below_alloc w _
  have hbox : w0.heap[w.heap.size]? = some (.cells #[.slice ao n c, .slice bo m d] 39 (0, 0)) := by subst hw0; exact heap_alloc_at2 w _
  have hlt0 : w.heap.size < w0.heap.size := heap_lt hbox
  have HB0 := Lib.hid hb0; clear hb0
  have hcA : w0.cell? ⟨w.heap.size, 0, none⟩ = some (.slice ao n c) := heap_cell hbox 0
  have hcB : w0.cell? ⟨w.heap.size, 1, none⟩ = some (.slice bo m d) := heap_cell hbox 1
  have HBX := Lib.hid hbox; clear hbox
  by_cases hc0 : mapCheck p = 0
  · have hok := (mapOk_iff p).1 hc0
    have ht : mapTextE p = mapText p := if_pos hc0
    have HOK := Lib.hid hok; clear hok
    have HT := Lib.hid ht; clear ht
    go_enter Tryd.func53, Tryd.ntmps53
    go_wp2_with fail
    refine (check_any ao bo n c m d p w0 (H.out.below HB0.out) hn).mono ?_
    rintro e w1 ⟨rfl, hb1⟩
    have hB1 := below_more HB0.out hb1 (Nat.le_refl _)
    have HB1 := Lib.hid hB1; clear hB1
    have hA1 : w1.cell? ⟨w.heap.size, 0, none⟩ = some (.slice ao n c) := (hb1.cell (p := ⟨w.heap.size, 0, none⟩) hlt0).trans hcA
    have hBB1 : w1.cell? ⟨w.heap.size, 1, none⟩ = some (.slice bo m d) := (hb1.cell (p := ⟨w.heap.size, 1, none⟩) hlt0).trans hcB
    have hlt1 : w.heap.size < w1.heap.size := Nat.lt_of_lt_of_le hlt0 hb1.size
    have HM1 := Lib.hid (H.out.below HB1.out)
    have HE1 := Lib.hid (HE.out.below HB1.out)
    clear hb1 hcA hcB hw0
    have hnl : p.cuts.length = n := H.out.n
    have hml : p.owners.length = m := H.out.m
    have hmn : m = n + 1 := by have := HOK.out.len; omega
    have hn12 : n ≤ 12 := by have := HOK.out.most; omega
    have hown : ∀ k, k < m → -9223372036854775808 ≤ p.owners.getD k 0 ∧ p.owners.getD k 0 ≤ 9223372036854775807 := by
      intro k hk
      have := HOK.out.owns (p.owners.getD k 0) (by
        rw [List.getD_eq_getElem?_getD, List.getElem?_eq_getElem (by omega)]; exact List.getElem_mem _)
      omega
    have HNL := Lib.hid hnl; clear hnl
    have HML := Lib.hid hml; clear hml
    have HMN := Lib.hid hmn; clear hmn
    have hcb : (mapCheck p != 0) = false := by rw [hc0]; rfl
    have HC0 := Lib.hid hc0; clear hc0
    obtain ⟨b0, off0, hbo, hb0, hc0⟩ := HM1.out.owns.int 0 (by rw [HMN.out]; omega)
    subst hbo
    have hm0 : (0 : Int) < m := by rw [HMN.out]; omega
    have ho0 := hown 0 (by rw [HMN.out]; omega)
    obtain ⟨x0, hx0⟩ : ∃ x, p.owners.getD 0 0 = x := ⟨_, rfl⟩
    rw [hx0] at hc0 ho0
    rw [Nat.add_zero] at hc0
    have HX0 := Lib.hid hx0; clear hx0
    go_wp2_with fail
    refine (itoa_any x0 ho0.1 ho0.2 w1 HE1.out).mono ?_
    rintro e w2 ⟨rfl, hb2⟩
    have hA2 : w2.cell? ⟨w.heap.size, 0, none⟩ = some (.slice ao n c) := (hb2.cell (p := ⟨w.heap.size, 0, none⟩) hlt1).trans hA1
    have HB2 := Lib.hid hb2; clear hb2
    go_wp2_with fail
    go_loopw [5, 21] (fun t i wr => ∃ k : Nat, k ≤ n ∧ i = .int .i64 k ∧ t = .string (S (mapTo p k)) ∧ Below w1.heap.size w1 wr) (fun _ i _ => n - (intOf i).toNat)
    case atStart => exact ⟨0, Nat.zero_le _, rfl, by rw [mapTo, HX0.out], HB2.out⟩
    case round =>
      obtain ⟨k, hk, rfl, rfl, hb⟩ := hrel
      have hAr : wr.cell? ⟨w.heap.size, 0, none⟩ = some (.slice ao n c) := (hb.cell (p := ⟨w.heap.size, 0, none⟩) hlt1).trans hA1
      have hBr : wr.cell? ⟨w.heap.size, 1, none⟩ = some (.slice (some ⟨b0, off0, none⟩) m d) := (hb.cell (p := ⟨w.heap.size, 1, none⟩) hlt1).trans hBB1
      have hltr : w.heap.size < wr.heap.size := Nat.lt_of_lt_of_le hlt1 hb.size
      have HMr := Lib.hid (HM1.out.below hb)
      have HEr := Lib.hid (HE1.out.below hb)
      have HB := Lib.hid hb; clear hb
      clear hc0 hA1 hBB1 hA2
      by_cases hlt : k < n
      · obtain ⟨b, off, rfl, hbs, hc⟩ := HMr.out.cuts.str k hlt
        obtain ⟨x, hx⟩ : ∃ x, p.cuts.getD k noStr = x := ⟨_, rfl⟩
        rw [hx] at hc
        have HX := Lib.hid hx; clear hx
        have hkm : k + 1 < m := by rw [HMN.out]; omega
        obtain ⟨b', off', hbb, hbs', hc'⟩ := HMr.out.owns.int (k + 1) hkm
        simp only [Option.some.injEq, Addr.mk.injEq, and_true] at hbb
        obtain ⟨rfl, rfl⟩ := hbb
        have hok := hown (k + 1) hkm
        obtain ⟨y, hy⟩ : ∃ y, p.owners.getD (k + 1) 0 = y := ⟨_, rfl⟩
        rw [hy] at hc' hok
        have HY := Lib.hid hy; clear hy
        have hki : ((k : Int) + 1).toNat = k + 1 := by omega
        have hki0 : 0 ≤ (k : Int) + 1 := by omega
        have hki1 : (k : Int) + 1 < m := by omega
        have htl := mapTo_len p HOK.out k (by rw [HNL.out]; exact hk)
        have hts : (S (mapTo p k)).size ≤ 300 := by rw [S_size]; omega
        have hxs : x.size ≤ 6 := isKey_size (HOK.out.keys x (by
          rw [← HX.out, List.getD_eq_getElem?_getD, List.getElem?_eq_getElem (by rw [HNL.out]; exact hlt)]; exact List.getElem_mem _))
        clear htl
        obtain ⟨t, ht⟩ : ∃ t, S (mapTo p k) = t := ⟨_, rfl⟩
        rw [ht] at hts
        simp only [ht]
        have HTT := Lib.hid ht; clear ht
        go_wp2_with fail
        refine (itoa_any y hok.1 hok.2 wr HEr.out).mono ?_
        rintro e w3 ⟨rfl, hb3⟩
        have hqs : (S (Lib.itoa y)).size ≤ 11 := by
          rw [S_size]; have ho := HOK.out.owns y (by
            rw [← HY.out, List.getD_eq_getElem?_getD, List.getElem?_eq_getElem (by rw [HML.out]; exact hkm)]; exact List.getElem_mem _)
          exact itoa_len (by omega) (by omega)
        obtain ⟨q, hq⟩ : ∃ q, S (Lib.itoa y) = q := ⟨_, rfl⟩
        simp only [hq] at hqs ⊢
        have HQ := Lib.hid hq; clear hq
        have HB3 := Lib.hid hb3; clear hb3
        go_wp2_with fail
        go_roundw
        case rel => exact ⟨k + 1, by omega, by go_num, by rw [mapTo, HX.out, HY.out, ← sx, HTT.out, HQ.out], below_more HB.out HB3.out (Nat.le_refl _)⟩
        case measure => simp [intOf]; omega
      · obtain rfl : k = n := by omega
        go_wp2_with fail
        go_ret2
        refine ⟨?_, below_more HB1.out HB.out (Nat.le_refl _)⟩
        rw [HT.out, ← mapTo_all p HOK.out.len, HNL.out, HC0.out]; rfl
  · have ht : mapTextE p = [] := if_neg hc0
    have hcb : (mapCheck p != 0) = true := by simpa using hc0
    have HT := Lib.hid ht; clear ht
    clear hc0
    go_enter Tryd.func53, Tryd.ntmps53
    go_wp2_with fail
    refine (check_any ao bo n c m d p w0 (H.out.below HB0.out) hn).mono ?_
    rintro e w1 ⟨rfl, hb1⟩
    go_wp2_with fail
    go_ret2
    exact ⟨by rw [HT.out]; rfl, below_more HB0.out hb1 (Nat.le_refl _)⟩
end Go.Proofs.YtdhfcelhgnjpcaaDoor
