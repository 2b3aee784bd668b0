/-
  rokeep.TextMap answers true: a map is read as it was written, a text is written as it was read.
-/
import Derived.Test.YthicdmiacmbbeaaDoorMapText
import Derived.Test.YthicdmiacmbbeaaDoorReadMap
import Derived.Test.YthicdmiacmbbeaaDoorSame
import Derived.Deep.DeepCutAuto
namespace Go.Proofs.YthicdmiacmbbeaaDoor
open Go.RowKit

def nM : Str := ⟨#[109]⟩
def pm : PMap := ⟨[nM], [2, 3]⟩
theorem pm_check : mapCheck pm = 0 := by decide
theorem pm_text : S (mapTextE pm) = ⟨#[50, 58, 109, 58, 51]⟩ := by
  have h : mapTextE pm = [50, 58, 109, 58, 51] := by
    rw [mapTextE, if_pos pm_check]
    simp [mapText, words, pm, nM, join1, Lib.itoa, Lib.decDigits]
  rw [h]; rfl
theorem sl_block {W : World} {b : Nat} {xs : List Value} {t : TypeId} {n : Nat} (h : W.heap[b]? = some (.cells xs.toArray t (0, 0))) (hn : n = xs.length) : Sl W 1 (some ⟨b, 0, none⟩) n n xs := by
  subst hn
  refine ⟨by simp, Nat.le_refl _, fun h => (nomatch h), fun j u hu => ⟨_, _, rfl, ?_⟩⟩
  rw [Nat.zero_add, heap_cell h]; simpa using hu
theorem mapText_size {p : PMap} (h : mapCheck p = 0) : (S (mapTextE p)).size ≤ 300 := by
  have hok := (mapOk_iff p).1 h
  rw [S_size, mapTextE, if_pos h, ← mapTo_all p hok.len]
  have := mapTo_len p hok p.cuts.length (Nat.le_refl _)
  have := hok.most
  omega

set_option maxHeartbeats 4000000 in
theorem textMap_law (ao bo : Option Addr) (n c m d : Nat) (p : PMap) (s : Str) (w : World) (h : MapAt w ao n c bo m d p) (hn : n ≤ 1099511627776) (hm : m ≤ 1099511627776) (hs : s.size ≤ 1099511627) (hE : Env w) :
    Calls Tryd.prog 5 #[.agg #[.slice ao n c, .slice bo m d], .string s] w fun e w' => e = .returned (.bool true) ∧ Below w.heap.size w w' := by
  have H := Lib.hid h; clear h
  have HE := Lib.hid hE; clear hE
  obtain ⟨w0, hw0⟩ : ∃ w0, ((w.alloc (.cells #[.slice ao n c, .slice bo m d] 28)).alloc (.cells #[.string ⟨#[109]⟩] 9)).alloc (.cells #[.int .i64 2, .int .i64 3] 3) = w0 := ⟨_, rfl⟩
  have hb0 : Below w.heap.size w w0 := hw0 ▸ ((below_alloc w _).alloc (below_alloc w _).size _).alloc ((below_alloc w _).alloc (below_alloc w _).size _).size _
  have hbox : w0.heap[w.heap.size]? = some (.cells #[.slice ao n c, .slice bo m d] 28 (0, 0)) := by subst hw0; exact heap_alloc (heap_alloc (heap_new rfl _) _) _
  have hk1 : w0.heap[w.heap.size + 1]? = some (.cells #[.string ⟨#[109]⟩] 9 (0, 0)) := by subst hw0; exact heap_alloc (heap_new (by simp) _) _
  have hk2 : w0.heap[w.heap.size + 2]? = some (.cells #[.int .i64 2, .int .i64 3] 3 (0, 0)) := by subst hw0; exact heap_new (by simp) _
  have hmap : MapAt w0 (some ⟨w.heap.size + 1, 0, none⟩) 1 1 (some ⟨w.heap.size + 2, 0, none⟩) 2 2 pm := ⟨sl_block hk1 rfl, sl_block hk2 rfl⟩
  have hlt0 := heap_lt hbox
  have HBX := Lib.hid hbox; clear hbox
  have HB0 := Lib.hid hb0; clear hb0 hk1 hk2
  have HMP := Lib.hid hmap; clear hmap
  go_enter Tryd.func5, Tryd.ntmps5
  go_wp2_with fail
  refine (textMap_any (some ⟨w.heap.size + 1, 0, none⟩) (some ⟨w.heap.size + 2, 0, none⟩) 1 1 2 2 pm w0 HMP.out (by omega) (HE.out.below HB0.out)).mono ?_
  rintro e w1 ⟨rfl, hb1⟩
  rw [pm_text, pm_check]
  have hA1 : w1.cell? ⟨w.heap.size, 0, none⟩ = some (.slice ao n c) := (hb1.cell (p := ⟨w.heap.size, 0, none⟩) hlt0).trans (heap_cell HBX.out 0)
  have hBB1 : w1.cell? ⟨w.heap.size, 1, none⟩ = some (.slice bo m d) := (hb1.cell (p := ⟨w.heap.size, 1, none⟩) hlt0).trans (heap_cell HBX.out 1)
  have hlt1 : w.heap.size < w1.heap.size := Nat.lt_of_lt_of_le hlt0 hb1.size
  have HB1 := Lib.hid (below_more HB0.out hb1 (Nat.le_refl _)); clear hb1 hw0 hlt0
  go_wp2_with fail
  refine (textMap_any ao bo n c m d p w1 (H.out.below HB1.out) hm (HE.out.below HB1.out)).mono ?_
  rintro e w2 ⟨rfl, hb2⟩
  have hA2 : w2.cell? ⟨w.heap.size, 0, none⟩ = some (.slice ao n c) := (hb2.cell (p := ⟨w.heap.size, 0, none⟩) hlt1).trans hA1
  have hBB2 : w2.cell? ⟨w.heap.size, 1, none⟩ = some (.slice bo m d) := (hb2.cell (p := ⟨w.heap.size, 1, none⟩) hlt1).trans hBB1
  have hlt2 : w.heap.size < w2.heap.size := Nat.lt_of_lt_of_le hlt1 hb2.size
  have HB2 := Lib.hid (below_more HB1.out hb2 (Nat.le_refl _)); clear hb2 hA1 hBB1 hlt1
  by_cases hc : mapCheck p = 0
  · have hcb : (mapCheck p == 0) = true := by rw [hc]; rfl
    have hok := (mapOk_iff p).1 hc
    have hrd : readMap (S (mapTextE p)).data.toList = (p, 0) := by rw [S_bytes, mapTextE, if_pos hc]; exact read_mapText hok
    have hts := mapText_size hc
    obtain ⟨t, ht⟩ : ∃ t, S (mapTextE p) = t := ⟨_, rfl⟩
    rw [ht] at hrd hts ⊢
    have HRD := Lib.hid hrd; clear hrd ht
    have HOK := Lib.hid hok; clear hok hc
    go_wp2_with fail
    refine (readMap_any t (by omega) w2 (HE.out.below HB2.out)).mono ?_
    rintro e w3 ⟨a1, n1, c1, a2, n2, c2, rfl, hM3, hb3⟩
    rw [HRD.out] at hM3 ⊢
    have hA3 : w3.cell? ⟨w.heap.size, 0, none⟩ = some (.slice ao n c) := (hb3.cell (p := ⟨w.heap.size, 0, none⟩) hlt2).trans hA2
    have hBB3 : w3.cell? ⟨w.heap.size, 1, none⟩ = some (.slice bo m d) := (hb3.cell (p := ⟨w.heap.size, 1, none⟩) hlt2).trans hBB2
    have hlt3 : w.heap.size < w3.heap.size := Nat.lt_of_lt_of_le hlt2 hb3.size
    have HB3 := Lib.hid (below_more HB2.out hb3 (Nat.le_refl _)); clear hb3 hA2 hBB2 hlt2
    have HM3 := Lib.hid hM3; clear hM3
    go_wp2_with fail
    have hn1 : n1 ≤ 1099511627776 := by
      have h1 := HM3.out.n; have h3 := HOK.out.most; omega
    have hn2 : n2 ≤ 1099511627776 := by
      have h1 := HM3.out.m; have h2 := HOK.out.len; have h3 := HOK.out.most; omega
    have HB4 := Lib.hid (HB3.out.alloc HB3.out.size (.cells #[.slice a1 n1 c1, .slice a2 n2 c2] 28))
    refine (sameMap_any a1 a2 n1 c1 n2 c2 ao bo n c m d p p _ (HM3.out.below (below_alloc w3 _)) (H.out.below HB4.out) hn1 hn2 hn hm).mono ?_
    rintro e w4 ⟨rfl, hb4⟩
    rw [sameMap_refl]
    have HB := Lib.hid (below_more HB4.out hb4 (Nat.le_refl _)); clear hb4
    go_wp2_with fail
    have hsz2 : s.size ≤ 1099511627 := hs
    refine (readMap_any s hsz2 w4 (HE.out.below HB.out)).mono ?_
    rintro e w5 ⟨a3, n3, c3, a4, n4, c4, rfl, hM5, hb5⟩
    have HB5 := Lib.hid (below_more HB.out hb5 (Nat.le_refl _)); clear hb5
    by_cases hf : (readMap s.data.toList).2 = 0
    · obtain ⟨hok5, htx⟩ := mapText_read hf
      obtain ⟨q, hq⟩ : ∃ q, (readMap s.data.toList).1 = q := ⟨_, rfl⟩
      rw [hq] at hM5 hok5 htx
      rw [hf]
      have hn4 : n4 ≤ 1099511627776 := by
        have h1 := hM5.m; have h2 := hok5.len; have h3 := hok5.most; omega
      have hc5 : mapCheck q = 0 := (mapOk_iff q).2 hok5
      have hst : S (mapTextE q) = s := by rw [mapTextE, if_pos hc5, htx, S_eta]
      have hM6 : MapAt (w5.alloc (.cells #[.slice a3 n3 c3, .slice a4 n4 c4] 28)) a3 n3 c3 a4 n4 c4 q := hM5.below (below_alloc w5 _)
      have HM6 := Lib.hid hM6; clear hM6 hM5
      have HB6 := Lib.hid (HB5.out.alloc HB5.out.size (.cells #[.slice a3 n3 c3, .slice a4 n4 c4] 28))
      have HST := Lib.hid hst; clear hst htx hq hf hok5
      have HC5 := Lib.hid hc5; clear hc5
      go_wp2_with fail
      refine (textMap_any a3 a4 n3 c3 n4 c4 q _ HM6.out hn4 (HE.out.below HB6.out)).mono ?_
      rintro e w7 ⟨rfl, hb7⟩
      rw [HST.out, HC5.out]
      have heq := eqb_yes (a := s) (b := s) rfl
      go_wp2_with fail
      go_ret
      exact ⟨rfl, below_more HB6.out hb7 (Nat.le_refl _)⟩
    · have hem : (readMap s.data.toList).1 = emptyMap := by
        unfold readMap at hf ⊢
        split
        · rfl
        · split
          · rename_i h1 h2; simp [h1, h2] at hf
          · rfl
      obtain ⟨f, hff⟩ : ∃ f, (readMap s.data.toList).2 = f := ⟨_, rfl⟩
      rw [hem] at hM5
      rw [hff] at hf ⊢
      have hfb : (f != 0) = true := by simpa using hf
      have h3 := hM5.n; have h4 := hM5.m
      have hn3 : n3 ≤ 1099511627776 := by simp [emptyMap] at h3; omega
      have hn4 : n4 ≤ 1099511627776 := by simp [emptyMap] at h4; omega
      have hM6 : MapAt (w5.alloc (.cells #[.slice a3 n3 c3, .slice a4 n4 c4] 28)) a3 n3 c3 a4 n4 c4 emptyMap := hM5.below (below_alloc w5 _)
      have HM6 := Lib.hid hM6; clear hM6 hM5
      have HB6 := Lib.hid (HB5.out.alloc HB5.out.size (.cells #[.slice a3 n3 c3, .slice a4 n4 c4] 28))
      clear hff hem hf h3 h4
      go_wp2_with fail
      refine (sameMap_any a3 a4 n3 c3 n4 c4 none none 0 0 0 0 emptyMap emptyMap _ HM6.out (mapAt_empty _) hn3 hn4 (by omega) (by omega)).mono ?_
      rintro e w7 ⟨rfl, hb7⟩
      rw [sameMap_refl]
      go_wp2_with fail
      go_ret
      exact ⟨rfl, below_more HB6.out hb7 (Nat.le_refl _)⟩
  · have hcb : (mapCheck p == 0) = false := by simpa using hc
    go_wp2_with fail
    have hsz2 : s.size ≤ 1099511627 := hs
    refine (readMap_any s hsz2 w2 (HE.out.below HB2.out)).mono ?_
    rintro e w5 ⟨a3, n3, c3, a4, n4, c4, rfl, hM5, hb5⟩
    have HB5 := Lib.hid (below_more HB2.out hb5 (Nat.le_refl _)); clear hb5
    by_cases hf : (readMap s.data.toList).2 = 0
    · obtain ⟨hok5, htx⟩ := mapText_read hf
      obtain ⟨q, hq⟩ : ∃ q, (readMap s.data.toList).1 = q := ⟨_, rfl⟩
      rw [hq] at hM5 hok5 htx
      rw [hf]
      have hn4 : n4 ≤ 1099511627776 := by
        have h1 := hM5.m; have h2 := hok5.len; have h3 := hok5.most; omega
      have hc5 : mapCheck q = 0 := (mapOk_iff q).2 hok5
      have hst : S (mapTextE q) = s := by rw [mapTextE, if_pos hc5, htx, S_eta]
      have hM6 : MapAt (w5.alloc (.cells #[.slice a3 n3 c3, .slice a4 n4 c4] 28)) a3 n3 c3 a4 n4 c4 q := hM5.below (below_alloc w5 _)
      have HM6 := Lib.hid hM6; clear hM6 hM5
      have HB6 := Lib.hid (HB5.out.alloc HB5.out.size (.cells #[.slice a3 n3 c3, .slice a4 n4 c4] 28))
      have HST := Lib.hid hst; clear hst htx hq hf hok5
      have HC5 := Lib.hid hc5; clear hc5
      go_wp2_with fail
      refine (textMap_any a3 a4 n3 c3 n4 c4 q _ HM6.out hn4 (HE.out.below HB6.out)).mono ?_
      rintro e w7 ⟨rfl, hb7⟩
      rw [HST.out, HC5.out]
      have heq := eqb_yes (a := s) (b := s) rfl
      go_wp2_with fail
      go_ret
      exact ⟨rfl, below_more HB6.out hb7 (Nat.le_refl _)⟩
    · have hem : (readMap s.data.toList).1 = emptyMap := by
        unfold readMap at hf ⊢
        split
        · rfl
        · split
          · rename_i h1 h2; simp [h1, h2] at hf
          · rfl
      obtain ⟨f, hff⟩ : ∃ f, (readMap s.data.toList).2 = f := ⟨_, rfl⟩
      rw [hem] at hM5
      rw [hff] at hf ⊢
      have hfb : (f != 0) = true := by simpa using hf
      have h3 := hM5.n; have h4 := hM5.m
      have hn3 : n3 ≤ 1099511627776 := by simp [emptyMap] at h3; omega
      have hn4 : n4 ≤ 1099511627776 := by simp [emptyMap] at h4; omega
      have hM6 : MapAt (w5.alloc (.cells #[.slice a3 n3 c3, .slice a4 n4 c4] 28)) a3 n3 c3 a4 n4 c4 emptyMap := hM5.below (below_alloc w5 _)
      have HM6 := Lib.hid hM6; clear hM6 hM5
      have HB6 := Lib.hid (HB5.out.alloc HB5.out.size (.cells #[.slice a3 n3 c3, .slice a4 n4 c4] 28))
      clear hff hem hf h3 h4
      go_wp2_with fail
      refine (sameMap_any a3 a4 n3 c3 n4 c4 none none 0 0 0 0 emptyMap emptyMap _ HM6.out (mapAt_empty _) hn3 hn4 (by omega) (by omega)).mono ?_
      rintro e w7 ⟨rfl, hb7⟩
      rw [sameMap_refl]
      go_wp2_with fail
      go_ret
      exact ⟨rfl, below_more HB6.out hb7 (Nat.le_refl _)⟩
end Go.Proofs.YthicdmiacmbbeaaDoor
