/-
  rokeep.TextDeed answers true: a deed is read as it was written, without what its kinds do not name; a text is written as it was read; of two deeds there is one text just if they are the same then.
-/
import Derived.Test.YtdhfcelhgnjpcaaDoorDeedText
import Derived.Test.YtdhfcelhgnjpcaaDoorReadDeed
import Derived.Test.YtdhfcelhgnjpcaaDoorSameDeed
import Derived.Test.YtdhfcelhgnjpcaaDoorBare
import Derived.Test.YtdhfcelhgnjpcaaDoorOwn
import Derived.Deep.DeepCutAuto
import Derived.Deep.RegionHeld3
import Derived.Deep.DrawnRows
import Derived.Deep.QuietTactic
import Derived.BigQuiet
namespace Go.Proofs.YtdhfcelhgnjpcaaDoor
open Go.RowKit

def dm : List POp := [⟨5, ⟨#[97]⟩, ⟨#[98]⟩, 3⟩, ⟨4, ⟨#[97]⟩, ⟨#[]⟩, -1⟩]
theorem dm_check : deedCheck dm = 0 := by decide
theorem dm_text : S (deedTextE dm) = ⟨#[97, 60, 98, 42, 51, 59, 97, 63, 45, 49]⟩ := by
  have h : deedTextE dm = [97, 60, 98, 42, 51, 59, 97, 63, 45, 49] := by
    rw [deedTextE, if_pos dm_check]
    simp [deedText, dm, opText, join1, Lib.itoa, Lib.decDigits]
  rw [h]; rfl
theorem dm_i64 : ∀ o ∈ dm, I64 o.n := by
  intro o ho
  simp [dm] at ho
  rcases ho with rfl | rfl <;> simp [I64]
theorem sl_whole {W : World} {b : Nat} {xs : List Value} {t : TypeId} {n size : Nat} (h : W.heap[b]? = some (.cells xs.toArray t (0, 0))) (hn : xs.length = n * size) : Sl W size (some ⟨b, 0, none⟩) n n xs := by
  refine ⟨hn, Nat.le_refl _, fun h => (nomatch h), fun j u hu => ⟨_, _, rfl, ?_⟩⟩
  rw [Nat.zero_add, heap_cell h]; simpa using hu
theorem dm_ops {W : World} {b : Nat} {t : TypeId} (h : W.heap[b]? = some (.cells #[.int .i64 5, .string ⟨#[97]⟩, .string ⟨#[98]⟩, .int .i64 3, .int .i64 4, .string ⟨#[97]⟩, .string ⟨#[]⟩, .int .i64 (-1)] t (0, 0))) : OpsAt W (some ⟨b, 0, none⟩) 2 2 dm :=
  ⟨sl_whole (xs := dm.flatMap opCells) h rfl⟩

/-- What is read fits: its numbers are of a machine's. -/
theorem readDeed_i64 {s : Bs} {q : List POp} (h : (readDeed s).1 = q) : ∀ o ∈ q, I64 o.n := by
  by_cases hf : (readDeed s).2 = 0
  · obtain ⟨hc, htx⟩ := deedText_read hf
    have h1 := congrArg Prod.fst (read_deedText hc)
    rw [htx] at h1
    rw [h] at hc h1
    intro o ho
    rw [h1] at ho
    obtain ⟨x, hx, rfl⟩ := List.mem_map.1 ho
    have hok := bare_ok (all_ok hc x hx)
    by_cases h3 : (bare x).kind = 3
    · have h0 : (bare x).n = 0 := by
        unfold bare at h3 ⊢
        split
        · rfl
        · rename_i hk
          rw [if_neg hk] at h3
          split at h3 <;> exact absurd h3 hk
      rw [h0]; simp [I64]
    · have := hok.val h3
      unfold I64; omega
  · rw [readDeed_bad hf] at h
    subst h; simp
attribute [local go_sem ↓] Go.wp_at_zero Go.wp_at_succ
set_option maxHeartbeats 4000000 in
set_option maxRecDepth 100000 in
theorem textDeed_law (ao bo : Option Addr) (n c m d : Nat) (a b : List POp) (s : Str) (w : World) (ha : OpsAt w ao n c a) (hb : OpsAt w bo m d b) (hn : n ≤ 1099511627) (hm : m ≤ 1099511627) (hs : s.size ≤ 1099511627)
    (hIa : ∀ o ∈ a, I64 o.n) (hIb : ∀ o ∈ b, I64 o.n) (hE : Env w) :
    Calls Tryd.prog 4 #[.agg #[.slice ao n c], .agg #[.slice bo m d], .string s] w fun e w' => e = .returned (.bool true) ∧ Below w.heap.size w w' := by
  have HA := Lib.hid ha; clear ha
  have HB := Lib.hid hb; clear hb
  have HE := Lib.hid hE; clear hE
  have HIA := Lib.hid hIa; clear hIa
  have HIB := Lib.hid hIb; clear hIb
  obtain ⟨w0, hw0⟩ : ∃ w0, ((w.alloc (.cells #[.slice ao n c] 36)).alloc (.cells #[.slice bo m d] 36)).alloc (.cells #[.int .i64 5, .string ⟨#[97]⟩, .string ⟨#[98]⟩, .int .i64 3, .int .i64 4, .string ⟨#[97]⟩, .string ⟨#[]⟩, .int .i64 (-1)] 54) = w0 := ⟨_, rfl⟩
  have ho0 : Own w [.cells #[.slice ao n c] 36 (0, 0), .cells #[.slice bo m d] 36 (0, 0), .cells #[.int .i64 5, .string ⟨#[97]⟩, .string ⟨#[98]⟩, .int .i64 3, .int .i64 4, .string ⟨#[97]⟩, .string ⟨#[]⟩, .int .i64 (-1)] 54 (0, 0)] w0 := by
    subst hw0
    have h1 := (Own.start w).push (by simp) (.cells #[.slice ao n c] 36)
    have h2 := h1.1.push h1.2 (.cells #[.slice bo m d] 36)
    exact (h2.1.push h2.2 (.cells #[.int .i64 5, .string ⟨#[97]⟩, .string ⟨#[98]⟩, .int .i64 3, .int .i64 4, .string ⟨#[97]⟩, .string ⟨#[]⟩, .int .i64 (-1)] 54)).1
  have hdm : OpsAt w0 (some ⟨w.heap.size + 1 + 1, 0, none⟩) 2 2 dm := dm_ops (ho0.blk 2 _ rfl)
  have HO0 := Lib.hid ho0; clear ho0
  have HDM := Lib.hid hdm; clear hdm
  go_enter Tryd.func4, Tryd.ntmps4
  go_wp2_with fail
  refine (textDeed_any (some ⟨w.heap.size + 1 + 1, 0, none⟩) 2 2 dm w0 HDM.out (by omega) dm_i64 (HE.out.below HO0.out.old)).mono ?_
  rintro e w1 ⟨rfl, hb1⟩
  rw [dm_text, dm_check]
  have HO1 := Lib.hid (HO0.out.below hb1)
  have cA : w1.cell? ⟨w.heap.size, 0, none⟩ = some (.slice ao n c) := HO1.out.cell 0 0 rfl
  have cB : w1.cell? ⟨w.heap.size + 1, 0, none⟩ = some (.slice bo m d) := HO1.out.cell 1 0 rfl
  clear hb1 hw0
  go_wp2_with fail
  refine (textDeed_any ao n c a w1 (HA.out.below HO1.out.old) (by omega) HIA.out (HE.out.below HO1.out.old)).mono ?_
  rintro e w2 ⟨rfl, hb2⟩
  have HO2 := Lib.hid (HO1.out.below hb2)
  clear cA cB hb2
  have cA : w2.cell? ⟨w.heap.size, 0, none⟩ = some (.slice ao n c) := HO2.out.cell 0 0 rfl
  have cB : w2.cell? ⟨w.heap.size + 1, 0, none⟩ = some (.slice bo m d) := HO2.out.cell 1 0 rfl
  go_wp2_with fail
  refine (textDeed_any bo m d b w2 (HB.out.below HO2.out.old) (by omega) HIB.out (HE.out.below HO2.out.old)).mono ?_
  rintro e w3 ⟨rfl, hb3⟩
  have HO3 := Lib.hid (HO2.out.below hb3)
  clear cA cB hb3
  have cA : w3.cell? ⟨w.heap.size, 0, none⟩ = some (.slice ao n c) := HO3.out.cell 0 0 rfl
  have cB : w3.cell? ⟨w.heap.size + 1, 0, none⟩ = some (.slice bo m d) := HO3.out.cell 1 0 rfl
  have hlt3 : w.heap.size + 1 < w3.heap.size := by have := HO3.out.lt (i := 2) (by simp); omega
  obtain ⟨g, hg⟩ : ∃ g, (deedCheck a == 0) = g := ⟨_, rfl⟩
  obtain ⟨t, ht⟩ : ∃ t, S (deedTextE a) = t := ⟨_, rfl⟩
  rw [ht]
  have HT := Lib.hid ht; clear ht
  go_upto_if 43 with fail
  have HG := Lib.hid hg; clear hg
  go_cut [] (fun wc => Below w.heap.size w wc)
  case first =>
    cases g
    case true =>
      have hc : deedCheck a = 0 := by simpa using HG.out
      have hrd : readDeed t.data.toList = (a.map bare, 0) := by rw [← HT.out, S_bytes, deedTextE, if_pos hc]; exact read_deedText hc
      have hts : t.size ≤ 208 := by rw [← HT.out, S_size, deedTextE, if_pos hc]; exact deedText_len hc
      have HRD := Lib.hid hrd; clear hrd
      have HC := Lib.hid hc; clear hc
      go_wp2_with fail
      refine (readDeed_any t (by omega) w3 (HE.out.below HO3.out.old)).mono ?_
      rintro e w4 ⟨a1, n1, c1, rfl, hM4, hb4⟩
      rw [HRD.out] at hM4 ⊢
      have HO4 := Lib.hid (HO3.out.below hb4)
      clear cA cB
      have cA : w4.cell? ⟨w.heap.size, 0, none⟩ = some (.slice ao n c) := HO4.out.cell 0 0 rfl
      have cB : w4.cell? ⟨w.heap.size + 1, 0, none⟩ = some (.slice bo m d) := HO4.out.cell 1 0 rfl
      have hlt4 : w.heap.size + 1 < w4.heap.size := by have := HO4.out.lt (i := 2) (by simp); omega
      clear hlt3 hb4
      have HM4 := Lib.hid hM4; clear hM4
      go_wp2_with fail
      have HO5 := Lib.hid (HO4.out.alloc (.cells #[.slice a1 n1 c1] 36))
      have cD : (w4.alloc (.cells #[.slice a1 n1 c1] 36)).cell? ⟨w4.heap.size, 0, none⟩ = some (.slice a1 n1 c1) := heap_cell (heap_new1 w4 _) 0
      have HM5 := Lib.hid (HM4.out.below (below_alloc w4 (.cells #[.slice a1 n1 c1] 36)))
      have cA5 : (w4.alloc (.cells #[.slice a1 n1 c1] 36)).cell? ⟨w.heap.size, 0, none⟩ = some (.slice ao n c) := HO5.out.cell 0 0 rfl
      have hz5 : w4.heap.size < (w4.alloc (.cells #[.slice a1 n1 c1] 36)).heap.size := by simp
      generalize w4.alloc (.cells #[.slice a1 n1 c1] 36) = w5 at HO5 cD cA5 HM5 hz5 ⊢
      clear cA cB
      have hn1 : n1 ≤ 1099511627776 := by have h1 := HM4.out.n; have h2 := HA.out.n; rw [List.length_map] at h1; omega
      go_region_held3 (fun W => W.cell? ⟨w4.heap.size, 0, none⟩ = some (.slice a1 n1 c1) ∧ W.cell? ⟨w.heap.size, 0, none⟩ = some (.slice ao n c)) (go_keep) ((first | (go_at_call 27; refine (bare_any ao n c a _ (HA.out.below HO5.out.drew.old) hn).mono ?_; rintro e w6 ⟨b6, d6, rfl, hO6, hb6⟩; have q1 : w6.cell? ⟨w4.heap.size, 0, none⟩ = some (.slice a1 n1 c1) := (hb6.cell (p := ⟨w4.heap.size, 0, none⟩) hz5).trans cD; have HO6 := Lib.hid (HO5.out.drew.below hb6); have q2 : w6.cell? ⟨w.heap.size, 0, none⟩ = some (.slice ao n c) := HO6.out.cell 0 0 rfl; have HM6 := Lib.hid (HM5.out.drew.below hb6); clear hb6) | (go_at_call 26; refine (sameDeed_any a1 b6 n1 c1 n d6 (a.map bare) (a.map bare) _ HM6.out hO6 hn1 (by omega)).mono ?_; rintro e w7 ⟨rfl, hb7⟩; have HO7 := Lib.hid (HO6.out.below hb7); have q1 : w7.cell? ⟨w4.heap.size, 0, none⟩ = some (.slice a1 n1 c1) := (hb7.cell (p := ⟨w4.heap.size, 0, none⟩) (World.block_lt_of_cell? _ _ q1)).trans q1; have q2 : w7.cell? ⟨w.heap.size, 0, none⟩ = some (.slice ao n c) := HO7.out.cell 0 0 rfl; clear hb7)))
      clear cD cA5 hz5 hO6
      have hlt7 : w.heap.size + 1 < w7.heap.size := by have := HO7.out.lt (i := 2) (by simp); omega
      have cA : w7.cell? ⟨w.heap.size, 0, none⟩ = some (.slice ao n c) := HO7.out.cell 0 0 rfl
      have cB : w7.cell? ⟨w.heap.size + 1, 0, none⟩ = some (.slice bo m d) := HO7.out.cell 1 0 rfl
      by_cases hc2 : deedCheck b = 0
      · have hcb2 : (deedCheck b == 0) = true := by rw [hc2]; rfl
        by_cases hab : a.map bare = b.map bare
        · have hxy : (t.toList == (S (deedTextE b)).toList) = true := by
            refine eqb_yes ?_
            rw [← HT.out, S_bytes, S_bytes, deedTextE, deedTextE, if_pos HC.out, if_pos hc2]
            exact (deedText_eq HC.out hc2).2 hab
          have hdd : decide (a.map bare = b.map bare) = true := decide_eq_true hab
          have HDD := Lib.hid hdd; clear hdd hab hc2
          go_wp2_with fail
          go_region_held3 (fun W => W.cell? ⟨w.heap.size, 0, none⟩ = some (.slice ao n c) ∧ W.cell? ⟨w.heap.size + 1, 0, none⟩ = some (.slice bo m d)) (go_keep) ((first | (go_at_call_of 27 (Value.agg #[.slice ao n c]); refine (bare_any ao n c a _ (HA.out.below HO7.out.drew.old) hn).mono ?_; rintro e w8 ⟨b8, d8, rfl, hO8, hb8⟩; have HO8 := Lib.hid (HO7.out.drew.below hb8); have r1 : w8.cell? ⟨w.heap.size, 0, none⟩ = some (.slice ao n c) := HO8.out.cell 0 0 rfl; have r2 : w8.cell? ⟨w.heap.size + 1, 0, none⟩ = some (.slice bo m d) := HO8.out.cell 1 0 rfl; clear hb8) | (go_at_call_of 27 (Value.agg #[.slice bo m d]); refine (bare_any bo m d b _ (HB.out.below HO8.out.old) hm).mono ?_; rintro e w9 ⟨b9, d9, rfl, hO9, hb9⟩; have HO9 := Lib.hid (HO8.out.below hb9); have HM9 := Lib.hid (hO8.below hb9); have r1 : w9.cell? ⟨w.heap.size, 0, none⟩ = some (.slice ao n c) := HO9.out.cell 0 0 rfl; have r2 : w9.cell? ⟨w.heap.size + 1, 0, none⟩ = some (.slice bo m d) := HO9.out.cell 1 0 rfl; clear hb9) | (go_at_call 26; refine (sameDeed_any b8 b9 n d8 m d9 (a.map bare) (b.map bare) _ HM9.out hO9 (by omega) (by omega)).mono ?_; rintro e w10 ⟨rfl, hb10⟩; rw [HDD.out]; have HO10 := Lib.hid (HO9.out.below hb10); have r1 : w10.cell? ⟨w.heap.size, 0, none⟩ = some (.slice ao n c) := HO10.out.cell 0 0 rfl; have r2 : w10.cell? ⟨w.heap.size + 1, 0, none⟩ = some (.slice bo m d) := HO10.out.cell 1 0 rfl; clear hb10)))
          go_wp2_with fail
          go_meet
          exact HO10.out.old
        · have hxy : (t.toList == (S (deedTextE b)).toList) = false := by
            refine eqb_no ?_
            rw [← HT.out, S_bytes, S_bytes, deedTextE, deedTextE, if_pos HC.out, if_pos hc2]
            exact fun h => hab ((deedText_eq HC.out hc2).1 h)
          have hdd : decide (a.map bare = b.map bare) = false := decide_eq_false hab
          have HDD := Lib.hid hdd; clear hdd hab hc2
          go_wp2_with fail
          go_region_held3 (fun W => W.cell? ⟨w.heap.size, 0, none⟩ = some (.slice ao n c) ∧ W.cell? ⟨w.heap.size + 1, 0, none⟩ = some (.slice bo m d)) (go_keep) ((first | (go_at_call_of 27 (Value.agg #[.slice ao n c]); refine (bare_any ao n c a _ (HA.out.below HO7.out.drew.old) hn).mono ?_; rintro e w8 ⟨b8, d8, rfl, hO8, hb8⟩; have HO8 := Lib.hid (HO7.out.drew.below hb8); have r1 : w8.cell? ⟨w.heap.size, 0, none⟩ = some (.slice ao n c) := HO8.out.cell 0 0 rfl; have r2 : w8.cell? ⟨w.heap.size + 1, 0, none⟩ = some (.slice bo m d) := HO8.out.cell 1 0 rfl; clear hb8) | (go_at_call_of 27 (Value.agg #[.slice bo m d]); refine (bare_any bo m d b _ (HB.out.below HO8.out.old) hm).mono ?_; rintro e w9 ⟨b9, d9, rfl, hO9, hb9⟩; have HO9 := Lib.hid (HO8.out.below hb9); have HM9 := Lib.hid (hO8.below hb9); have r1 : w9.cell? ⟨w.heap.size, 0, none⟩ = some (.slice ao n c) := HO9.out.cell 0 0 rfl; have r2 : w9.cell? ⟨w.heap.size + 1, 0, none⟩ = some (.slice bo m d) := HO9.out.cell 1 0 rfl; clear hb9) | (go_at_call 26; refine (sameDeed_any b8 b9 n d8 m d9 (a.map bare) (b.map bare) _ HM9.out hO9 (by omega) (by omega)).mono ?_; rintro e w10 ⟨rfl, hb10⟩; rw [HDD.out]; have HO10 := Lib.hid (HO9.out.below hb10); have r1 : w10.cell? ⟨w.heap.size, 0, none⟩ = some (.slice ao n c) := HO10.out.cell 0 0 rfl; have r2 : w10.cell? ⟨w.heap.size + 1, 0, none⟩ = some (.slice bo m d) := HO10.out.cell 1 0 rfl; clear hb10)))
          go_wp2_with fail
          go_meet
          exact HO10.out.old
      · have hcb2 : (deedCheck b == 0) = false := by simpa using hc2
        clear hc2
        go_wp2_with fail
        go_quiet (fail)
        go_wp2_with fail
        go_meet
        exact below_drewN HO7.out.old _
    case false =>
      go_wp2_with fail
      go_meet
      exact HO3.out.old
  case rest =>
    have HO := Lib.hid hcut; clear hcut cA cB hlt3
    go_wp2_with fail
    refine (readDeed_any s hs wc (HE.out.below HO.out)).mono ?_
    rintro e w5 ⟨a3, n3, c3, rfl, hM5, hb5⟩
    have HB5 := Lib.hid (below_more HO.out hb5 (Nat.le_refl _)); clear hb5
    by_cases hf : (readDeed s.data.toList).2 = 0
    · obtain ⟨hok5, htx⟩ := deedText_read hf
      obtain ⟨q, hq⟩ : ∃ q, (readDeed s.data.toList).1 = q := ⟨_, rfl⟩
      rw [hq] at hM5 hok5 htx
      rw [hf]
      have hn3 : n3 ≤ 8 := by have h1 := hM5.n; have h2 := (deedCheck_zero.1 hok5).2.1; omega
      have hst : S (deedTextE q) = s := by rw [deedTextE, if_pos hok5, htx, S_eta]
      have hi64 : ∀ o ∈ q, I64 o.n := readDeed_i64 hq
      have HM6 := Lib.hid (hM5.below (below_alloc w5 (.cells #[.slice a3 n3 c3] 36))); clear hM5
      have HB6 := Lib.hid (HB5.out.alloc HB5.out.size (.cells #[.slice a3 n3 c3] 36))
      have HST := Lib.hid hst; clear hst htx hq hf
      have HC5 := Lib.hid hok5; clear hok5
      have HII := Lib.hid hi64; clear hi64
      have heq := eqb_yes (a := s) (b := s) rfl
      have hlt5 : w5.heap.size < (w5.alloc (.cells #[.slice a3 n3 c3] 36)).heap.size := by simp
      have cD : (w5.alloc (.cells #[.slice a3 n3 c3] 36)).cell? ⟨w5.heap.size, 0, none⟩ = some (.slice a3 n3 c3) := heap_cell (heap_new1 w5 _) 0
      go_wp2_with fail
      generalize w5.alloc (.cells #[.slice a3 n3 c3] 36) = w6 at HM6 HB6 hlt5 cD ⊢
      refine (textDeed_any a3 n3 c3 q _ HM6.out (by omega) HII.out (HE.out.below HB6.out)).mono ?_
      rintro e w7 ⟨rfl, hb7⟩
      rw [HST.out, HC5.out]
      have cD7 : w7.cell? ⟨w5.heap.size, 0, none⟩ = some (.slice a3 n3 c3) := (hb7.cell (p := ⟨w5.heap.size, 0, none⟩) hlt5).trans cD
      have HB7 := Lib.hid (below_more HB6.out hb7 (Nat.le_refl _))
      have HM7 := Lib.hid (HM6.out.below hb7); clear hb7 cD
      go_wp2_with fail
      refine (deedCheck_any a3 n3 c3 q w7 HM7.out (by omega)).mono ?_
      rintro e w8 ⟨rfl, hb8⟩
      rw [HC5.out]
      go_wp2_with fail
      go_ret
      exact ⟨rfl, below_more HB7.out hb8 (Nat.le_refl _)⟩
    · have hem := readDeed_bad hf
      obtain ⟨f, hff⟩ : ∃ f, (readDeed s.data.toList).2 = f := ⟨_, rfl⟩
      rw [hem] at hM5
      rw [hff] at hf ⊢
      have hfb : (f != 0) = true := by simpa using hf
      have h3 := hM5.n
      obtain rfl : n3 = 0 := by simp at h3; omega
      clear hff hem hf h3 hM5
      have cD : (w5.alloc (.cells #[.slice a3 0 c3] 36)).cell? ⟨w5.heap.size, 0, none⟩ = some (.slice a3 0 c3) := heap_cell (heap_new1 w5 _) 0
      have HB6 := Lib.hid (HB5.out.alloc HB5.out.size (.cells #[.slice a3 0 c3] 36))
      go_wp2_with fail
      go_ret
      exact ⟨rfl, HB6.out⟩
end Go.Proofs.YtdhfcelhgnjpcaaDoor
