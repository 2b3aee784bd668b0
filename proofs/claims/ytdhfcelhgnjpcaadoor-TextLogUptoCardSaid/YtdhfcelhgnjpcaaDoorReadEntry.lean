/-
  text.ReadEntry: the entry of the first line of a text, or the error. (Printed by wip/gen_readentry.py.)
-/
import Derived.Test.YtdhfcelhgnjpcaaDoorCutIdx
import Derived.Test.YtdhfcelhgnjpcaaDoorEntry
import Derived.Test.YtdhfcelhgnjpcaaDoorReadDeed
import Derived.Test.YtdhfcelhgnjpcaaDoorOwn
namespace Go.Proofs.YtdhfcelhgnjpcaaDoor
open Go.RowKit

theorem retE {w W : World} {a b c d : Value} {T : TypeId} (h : W.heap[w.heap.size]? = some (.cells #[a, b, c, d] T (0, 0))) (hb : Below w.heap.size w W) (v0 v1 v2 v3 : Value) :
    ((((W.setCell ⟨w.heap.size, 0, none⟩ v0).setCell ⟨w.heap.size, 1, none⟩ v1).setCell ⟨w.heap.size, 2, none⟩ v2).setCell ⟨w.heap.size, 3, none⟩ v3).heap[w.heap.size]? = some (.cells #[v0, v1, v2, v3] T (0, 0)) ∧
      Below w.heap.size w ((((W.setCell ⟨w.heap.size, 0, none⟩ v0).setCell ⟨w.heap.size, 1, none⟩ v1).setCell ⟨w.heap.size, 2, none⟩ v2).setCell ⟨w.heap.size, 3, none⟩ v3) :=
  ⟨heap_set_same (heap_set_same (heap_set_same (heap_set_same h v0) v1) v2) v3, (((hb.setCell (Nat.le_refl _) v0).setCell (Nat.le_refl _) v1).setCell (Nat.le_refl _) v2).setCell (Nat.le_refl _) v3⟩
theorem OpsAt.set {w : World} {ao : Option Addr} {n c : Nat} {l : List POp} (h : OpsAt w ao n c l) {N b o : Nat} (hn : Newer N ao) (hb : b < N) (v : Value) : OpsAt (w.setCell ⟨b, o, none⟩ v) ao n c l := ⟨h.sl.set hn hb v⟩
theorem entAt_none (W : World) : EntAt W none 0 0 none 0 0 none 0 0 noEntry := ⟨opsAt_empty W, mapAt_empty W⟩
theorem re_none {s : Bs} (h : cut1 10 s = none) : readEntry s = (noEntry, 0, 7) := by unfold readEntry; rw [h]
theorem re_nosp {s l r : Bs} (h : cut1 10 s = some (l, r)) (h1 : cutLast 32 l = none) : readEntry s = (noEntry, 0, 9) := by
  unfold readEntry readLine; rw [h]; simp [h1]
theorem re_nonum {s l r b n : Bs} (h : cut1 10 s = some (l, r)) (h1 : cutLast 32 l = some (b, n)) (h2 : numV n = none) : readEntry s = (noEntry, 0, 9) := by
  unfold readEntry readLine; rw [h]; simp [h1, h2]
theorem re_nosum {s l r b n : Bs} {v : Int} (h : cut1 10 s = some (l, r)) (h1 : cutLast 32 l = some (b, n)) (h2 : numV n = some v) (h3 : ¬ v = sumV b) : readEntry s = (noEntry, 0, 8) := by
  unfold readEntry readLine; rw [h]; simp [h1, h2, h3]
theorem re_body {s l r b n : Bs} {v : Int} (h : cut1 10 s = some (l, r)) (h1 : cutLast 32 l = some (b, n)) (h2 : numV n = some v) (h3 : v = sumV b) :
    readEntry s = if (readBody b).2 = 0 then ((readBody b).1, (l.length : Int) + 1, 0) else (noEntry, 0, (readBody b).2) := by
  unfold readEntry readLine; rw [h]; simp [h1, h2, h3]
theorem rb_map {s : Bs} (h : s.take 4 = mapPre) (h1 : (readMap (s.drop 4)).2 = 0) : readBody s = (⟨[], true, (readMap (s.drop 4)).1⟩, 0) := by unfold readBody; rw [if_pos h, if_pos h1]
theorem rb_map_no {s : Bs} (h : s.take 4 = mapPre) (h1 : ¬ (readMap (s.drop 4)).2 = 0) : readBody s = (noEntry, (readMap (s.drop 4)).2) := by unfold readBody; rw [if_pos h, if_neg h1]
theorem rb_deed {s : Bs} (h : ¬ s.take 4 = mapPre) (h1 : (readDeed s).2 = 0) : readBody s = (⟨(readDeed s).1, false, emptyMap⟩, 0) := by unfold readBody; rw [if_neg h, if_pos h1]
theorem rb_deed_no {s : Bs} (h : ¬ s.take 4 = mapPre) (h1 : ¬ (readDeed s).2 = 0) : readBody s = (noEntry, (readDeed s).2) := by unfold readBody; rw [if_neg h, if_neg h1]
theorem pre_S : (⟨#[109, 97, 112, 32]⟩ : Str).data.toList = mapPre := rfl

set_option maxHeartbeats 4000000 in
set_option maxRecDepth 100000 in
theorem readEntry_new (s : Str) (hs : s.size ≤ 1099511627) (w : World) (hE : Env w) :
    Calls Tryd.prog 31 #[.string s] w fun e w' => ∃ eo en ec ao n c bo m d, e = .returned (.tuple #[.agg #[.slice eo en ec, .bool (readEntry s.data.toList).1.isMap, .slice ao n c, .slice bo m d], .int .i64 (readEntry s.data.toList).2.1, .int .i64 (readEntry s.data.toList).2.2]) ∧
      EntAt w' eo en ec ao n c bo m d (readEntry s.data.toList).1 ∧ Fresh w.heap.size 54 w' eo ∧ Fresh w.heap.size 9 w' ao ∧ Fresh w.heap.size 3 w' bo ∧ Below w.heap.size w w' := by
  have HE := Lib.hid hE; clear hE
  obtain ⟨w0, hw0⟩ : ∃ w0, w.alloc (.cells #[.slice none 0 0, .bool false, .slice none 0 0, .slice none 0 0] 41) = w0 := ⟨_, rfl⟩
  have ho0 : Own w [.cells #[.slice none 0 0, .bool false, .slice none 0 0, .slice none 0 0] 41 (0, 0)] w0 := hw0 ▸ ((Own.start w).push (by simp) _).1
  have hz0 : w.heap.size < w0.heap.size := ho0.lt (i := 0) (by simp)
  have HO0 := Lib.hid ho0; clear ho0
  cases hc : cut1 10 s.data.toList with
  | none =>
    have hix := idx_none hc
    have HR := Lib.hid (re_none hc); clear hc
    have HIX := Lib.hid hix; clear hix
    go_enter Tryd.func31, Tryd.ntmps31
    go_wp2_with fail
    refine (Tryd.strings_IndexByte _ _ _).mono ?_
    rintro e w1 ⟨rfl, hw1⟩
    obtain rfl := hw1.symm
    rw [show (10 : Int).toNat.toUInt8 = 10 from rfl, HIX.out]
    clear hw0
    have r0 : w0.cell? ⟨w.heap.size, 0, none⟩ = some (.slice none 0 0) := HO0.out.cell 0 0 rfl
    have r1 : w0.cell? ⟨w.heap.size, 1, none⟩ = some (.bool false) := HO0.out.cell 0 1 rfl
    have r2 : w0.cell? ⟨w.heap.size, 2, none⟩ = some (.slice none 0 0) := HO0.out.cell 0 2 rfl
    have r3 : w0.cell? ⟨w.heap.size, 3, none⟩ = some (.slice none 0 0) := HO0.out.cell 0 3 rfl
    have f0 : w0.frozen? ⟨w.heap.size, 0, none⟩ = false := HO0.out.free 0 0 rfl
    have f1 : w0.frozen? ⟨w.heap.size, 1, none⟩ = false := HO0.out.free 0 1 rfl
    have f2 : w0.frozen? ⟨w.heap.size, 2, none⟩ = false := HO0.out.free 0 2 rfl
    have f3 : w0.frozen? ⟨w.heap.size, 3, none⟩ = false := HO0.out.free 0 3 rfl
    go_wp2_with fail
    have HD := retE (HO0.out.blk 0 _ rfl) HO0.out.old (.slice none 0 0) (.bool false) (.slice none 0 0) (.slice none 0 0)
    generalize ((((w0.setCell ⟨w.heap.size, 0, none⟩ (.slice none 0 0)).setCell ⟨w.heap.size, 1, none⟩ (.bool false)).setCell ⟨w.heap.size, 2, none⟩ (.slice none 0 0)).setCell ⟨w.heap.size, 3, none⟩ (.slice none 0 0)) = WE at HD ⊢
    have d0 : WE.cell? ⟨w.heap.size, 0, none⟩ = some (.slice none 0 0) := heap_cell HD.1 0
    have d1 : WE.cell? ⟨w.heap.size, 1, none⟩ = some (.bool false) := heap_cell HD.1 1
    have d2 : WE.cell? ⟨w.heap.size, 2, none⟩ = some (.slice none 0 0) := heap_cell HD.1 2
    have d3 : WE.cell? ⟨w.heap.size, 3, none⟩ = some (.slice none 0 0) := heap_cell HD.1 3
    refine bodyPost_ret (v := .tuple #[.agg #[.slice none 0 0, .bool false, .slice none 0 0, .slice none 0 0], .int .i64 0, .int .i64 7]) (by simp [results, Tryd.results31, go_sem, d0, d1, d2, d3]) rfl ⟨none, 0, 0, none, 0, 0, none, 0, 0, by rw [HR.out]; rfl, by rw [HR.out]; exact entAt_none _, Fresh.nil _ _ _, Fresh.nil _ _ _, Fresh.nil _ _ _, HD.2⟩
  | some x =>
    obtain ⟨l, r⟩ := x
    have hix := idx_some hc
    obtain ⟨hsl, _⟩ := cut1_some hc
    have hS : s = S (l ++ 10 :: r) := by rw [← S_eta s, hsl]
    have hsz : s.size = l.length + 1 + r.length := by rw [hS, S_size]; simp; omega
    have hx1 : s.extract 0 l.length = S l := by rw [hS]; exact ext_head l 10 r
    have HS := Lib.hid hS; clear hS hsl
    have HC := Lib.hid hc; clear hc
    have HIX := Lib.hid hix; clear hix
    cases hk : cutLast 32 l with
    | none =>
      obtain ⟨p, hp⟩ : ∃ p, l.length = p := ⟨_, rfl⟩
      have hlx := last_none hk
      have HR := Lib.hid (re_nosp HC.out hk); clear hk
      have HLX := Lib.hid hlx; clear hlx
      rw [hp] at hx1 hsz
      have hps : p ≤ s.size := by omega
      have hps' : (p : Int) ≤ s.size := by omega
      have HP := Lib.hid hp; clear hp
      have HSZ := Lib.hid hsz; clear hsz
      go_enter Tryd.func31, Tryd.ntmps31
      go_wp2_with fail
      refine (Tryd.strings_IndexByte _ _ _).mono ?_
      rintro e w1 ⟨rfl, hw1⟩
      obtain rfl := hw1.symm
      rw [show (10 : Int).toNat.toUInt8 = 10 from rfl, HIX.out, HP.out]
      clear hw0
      go_wp2_with fail
      refine (Tryd.strings_LastIndexByte (S l) 32 (by rw [S_size, HP.out]; omega) _).mono ?_
      rintro e w1 ⟨rfl, hw1⟩
      obtain rfl := hw1.symm
      rw [HLX.out]
      have r0 : w0.cell? ⟨w.heap.size, 0, none⟩ = some (.slice none 0 0) := HO0.out.cell 0 0 rfl
      have r1 : w0.cell? ⟨w.heap.size, 1, none⟩ = some (.bool false) := HO0.out.cell 0 1 rfl
      have r2 : w0.cell? ⟨w.heap.size, 2, none⟩ = some (.slice none 0 0) := HO0.out.cell 0 2 rfl
      have r3 : w0.cell? ⟨w.heap.size, 3, none⟩ = some (.slice none 0 0) := HO0.out.cell 0 3 rfl
      have f0 : w0.frozen? ⟨w.heap.size, 0, none⟩ = false := HO0.out.free 0 0 rfl
      have f1 : w0.frozen? ⟨w.heap.size, 1, none⟩ = false := HO0.out.free 0 1 rfl
      have f2 : w0.frozen? ⟨w.heap.size, 2, none⟩ = false := HO0.out.free 0 2 rfl
      have f3 : w0.frozen? ⟨w.heap.size, 3, none⟩ = false := HO0.out.free 0 3 rfl
      go_wp2_with fail
      have HD := retE (HO0.out.blk 0 _ rfl) HO0.out.old (.slice none 0 0) (.bool false) (.slice none 0 0) (.slice none 0 0)
      generalize ((((w0.setCell ⟨w.heap.size, 0, none⟩ (.slice none 0 0)).setCell ⟨w.heap.size, 1, none⟩ (.bool false)).setCell ⟨w.heap.size, 2, none⟩ (.slice none 0 0)).setCell ⟨w.heap.size, 3, none⟩ (.slice none 0 0)) = WE at HD ⊢
      have d0 : WE.cell? ⟨w.heap.size, 0, none⟩ = some (.slice none 0 0) := heap_cell HD.1 0
      have d1 : WE.cell? ⟨w.heap.size, 1, none⟩ = some (.bool false) := heap_cell HD.1 1
      have d2 : WE.cell? ⟨w.heap.size, 2, none⟩ = some (.slice none 0 0) := heap_cell HD.1 2
      have d3 : WE.cell? ⟨w.heap.size, 3, none⟩ = some (.slice none 0 0) := heap_cell HD.1 3
      refine bodyPost_ret (v := .tuple #[.agg #[.slice none 0 0, .bool false, .slice none 0 0, .slice none 0 0], .int .i64 0, .int .i64 9]) (by simp [results, Tryd.results31, go_sem, d0, d1, d2, d3]) rfl ⟨none, 0, 0, none, 0, 0, none, 0, 0, by rw [HR.out]; rfl, by rw [HR.out]; exact entAt_none _, Fresh.nil _ _ _, Fresh.nil _ _ _, Fresh.nil _ _ _, HD.2⟩
    | some x =>
      obtain ⟨b, num⟩ := x
      obtain ⟨hll, _⟩ := cutLast_some hk
      have hlx := last_some hk
      obtain ⟨p, hp⟩ : ∃ p, l.length = p := ⟨_, rfl⟩
      obtain ⟨q, hq⟩ : ∃ q, b.length = q := ⟨_, rfl⟩
      have hpq : p = q + 1 + num.length := by rw [← hp, ← hq, hll]; simp; omega
      have hx2 : s.extract (q + 1) p = S num := by
        rw [HS.out, ← hp, ← hq, hll]
        have h := ext_mid (b ++ [32]) num (10 :: r)
        have e1 : (b ++ [32]) ++ (num ++ 10 :: r) = (b ++ 32 :: num) ++ 10 :: r := by simp
        have e2 : (b ++ [32]).length = b.length + 1 := by simp
        have e3 : (b ++ [32]).length + num.length = (b ++ 32 :: num).length := by simp; omega
        rw [e1, e3, e2] at h
        exact h
      have hx3 : s.extract 0 q = S b := by
        rw [HS.out, ← hq, hll]
        have := ext_to b (32 :: (num ++ 10 :: r))
        simpa using this
      rw [hp] at hx1 hsz
      have hps : p ≤ s.size := by omega
      have hps' : (p : Int) ≤ s.size := by omega
      have hqp : q + 1 ≤ p := by omega
      have hqp' : (q : Int) + 1 ≤ p := by omega
      have hqs : (q : Int) ≤ s.size := by omega
      have hns : num.length ≤ 1099511627 := by omega
      have hbs : b.length ≤ 1099511627 := by omega
      have HP := Lib.hid hp; clear hp
      have HQ := Lib.hid hq; clear hq
      have HSZ := Lib.hid hsz; clear hsz
      have HLX := Lib.hid hlx; clear hlx
      have HK := Lib.hid hk; clear hk
      clear hpq hll
      have HX2 := Lib.hid hx2; clear hx2
      have HX3 := Lib.hid hx3; clear hx3
      go_enter Tryd.func31, Tryd.ntmps31
      go_wp2_with fail
      refine (Tryd.strings_IndexByte _ _ _).mono ?_
      rintro e w1 ⟨rfl, hw1⟩
      obtain rfl := hw1.symm
      rw [show (10 : Int).toNat.toUInt8 = 10 from rfl, HIX.out, HP.out]
      clear hw0
      go_wp2_with fail
      refine (Tryd.strings_LastIndexByte (S l) 32 (by rw [S_size, HP.out]; omega) _).mono ?_
      rintro e w1 ⟨rfl, hw1⟩
      obtain rfl := hw1.symm
      rw [HLX.out, HQ.out]
      clear hx1
      go_wp2_with fail
      rw [HX2.out]
      refine (num_any (S num) (by rw [S_size]; omega) w0 (HE.out.below HO0.out.old)).mono ?_
      rintro e w1 ⟨v, rfl, hv, hb1⟩
      rw [S_bytes] at hv ⊢
      have HO1 := Lib.hid (HO0.out.below hb1); clear hb1
      cases hn : numV num with
      | none =>
        have HR := Lib.hid (re_nonum HC.out HK.out hn); clear hn hv
        have hz1 : w.heap.size < w1.heap.size := HO1.out.lt (i := 0) (by simp)
        have r0 : w1.cell? ⟨w.heap.size, 0, none⟩ = some (.slice none 0 0) := HO1.out.cell 0 0 rfl
        have r1 : w1.cell? ⟨w.heap.size, 1, none⟩ = some (.bool false) := HO1.out.cell 0 1 rfl
        have r2 : w1.cell? ⟨w.heap.size, 2, none⟩ = some (.slice none 0 0) := HO1.out.cell 0 2 rfl
        have r3 : w1.cell? ⟨w.heap.size, 3, none⟩ = some (.slice none 0 0) := HO1.out.cell 0 3 rfl
        have f0 : w1.frozen? ⟨w.heap.size, 0, none⟩ = false := HO1.out.free 0 0 rfl
        have f1 : w1.frozen? ⟨w.heap.size, 1, none⟩ = false := HO1.out.free 0 1 rfl
        have f2 : w1.frozen? ⟨w.heap.size, 2, none⟩ = false := HO1.out.free 0 2 rfl
        have f3 : w1.frozen? ⟨w.heap.size, 3, none⟩ = false := HO1.out.free 0 3 rfl
        go_wp2_with fail
        have HD := retE (HO1.out.blk 0 _ rfl) HO1.out.old (.slice none 0 0) (.bool false) (.slice none 0 0) (.slice none 0 0)
        generalize ((((w1.setCell ⟨w.heap.size, 0, none⟩ (.slice none 0 0)).setCell ⟨w.heap.size, 1, none⟩ (.bool false)).setCell ⟨w.heap.size, 2, none⟩ (.slice none 0 0)).setCell ⟨w.heap.size, 3, none⟩ (.slice none 0 0)) = WE at HD ⊢
        have d0 : WE.cell? ⟨w.heap.size, 0, none⟩ = some (.slice none 0 0) := heap_cell HD.1 0
        have d1 : WE.cell? ⟨w.heap.size, 1, none⟩ = some (.bool false) := heap_cell HD.1 1
        have d2 : WE.cell? ⟨w.heap.size, 2, none⟩ = some (.slice none 0 0) := heap_cell HD.1 2
        have d3 : WE.cell? ⟨w.heap.size, 3, none⟩ = some (.slice none 0 0) := heap_cell HD.1 3
        refine bodyPost_ret (v := .tuple #[.agg #[.slice none 0 0, .bool false, .slice none 0 0, .slice none 0 0], .int .i64 0, .int .i64 9]) (by simp [results, Tryd.results31, go_sem, d0, d1, d2, d3]) rfl ⟨none, 0, 0, none, 0, 0, none, 0, 0, by rw [HR.out]; rfl, by rw [HR.out]; exact entAt_none _, Fresh.nil _ _ _, Fresh.nil _ _ _, Fresh.nil _ _ _, HD.2⟩
      | some v' =>
        obtain rfl := hv v' hn
        have hz1 : w.heap.size < w1.heap.size := HO1.out.lt (i := 0) (by simp)
        have HN := Lib.hid hn; clear hn hv
        go_wp2_with fail
        rw [HX3.out]
        refine (sum_any (S b) (by rw [S_size]; omega) w1).mono ?_
        rintro e w2 ⟨rfl, rfl⟩
        rw [S_bytes]
        by_cases hvs : v = sumV b
        · have HR := Lib.hid (re_body HC.out HK.out HN.out hvs)
          have hvb : (v != (sumV b : Int)) = false := by simpa using hvs
          clear hvs
          go_wp2_with fail
          rw [HX3.out]
          refine (Tryd.strings_CutPrefix (S b) ⟨#[109, 97, 112, 32]⟩ _).mono ?_
          rintro e w2 ⟨rfl, hw2⟩
          subst hw2
          rw [S_bytes, pre_S]
          by_cases hpre : b.take 4 = mapPre
          · rw [(pre_yes hpre).1, (pre_yes hpre).2, S_mk]
            have HPRE := Lib.hid hpre; clear hpre
            go_wp2_with fail
            have HOx := Lib.hid (HO1.out.alloc (.cells #[.slice none 0 0, .bool true, .slice none 0 0, .slice none 0 0] 41))
            have hKx : (w1.alloc (.cells #[.slice none 0 0, .bool true, .slice none 0 0, .slice none 0 0] 41)).heap[w1.heap.size]? = some (.cells #[.slice none 0 0, .bool true, .slice none 0 0, .slice none 0 0] 41 (0, 0)) := heap_new1 w1 _
            have hzx : (w1.alloc (.cells #[.slice none 0 0, .bool true, .slice none 0 0, .slice none 0 0] 41)).heap.size = w1.heap.size + 1 := by simp
            generalize w1.alloc (.cells #[.slice none 0 0, .bool true, .slice none 0 0, .slice none 0 0] 41) = wx at HOx hKx hzx ⊢
            refine (readMap_new (S (b.drop 4)) (by rw [S_size]; simp; omega) wx (HE.out.below HOx.out.old)).mono ?_
            rintro e w3 ⟨a1, n1, c1, a2, n2, c2, rfl, hM, hn1, hn2, hb3⟩
            rw [S_bytes] at hM ⊢
            have HO3 := Lib.hid (HOx.out.below hb3)
            have hK3 : w3.heap[w1.heap.size]? = some (.cells #[.slice none 0 0, .bool true, .slice none 0 0, .slice none 0 0] 41 (0, 0)) := (hb3.block _ (by omega)).trans hKx
            have hz3 : w1.heap.size < w3.heap.size := heap_lt hK3
            have k0 : w3.cell? ⟨w1.heap.size, 2, none⟩ = some (.slice none 0 0) := heap_cell hK3 2
            have k1 : w3.cell? ⟨w1.heap.size, 3, none⟩ = some (.slice none 0 0) := heap_cell hK3 3
            have g0 : w3.frozen? ⟨w1.heap.size, 2, none⟩ = false := heap_free hK3 2
            have g1 : w3.frozen? ⟨w1.heap.size, 3, none⟩ = false := heap_free hK3 3
            have hKlt : w1.heap.size < wx.heap.size := by omega
            have HO4 := Lib.hid ((HO3.out.far (b := w1.heap.size) (by simp; omega) 2 (.slice a1 n1 c1)).far (b := w1.heap.size) (by simp; omega) 3 (.slice a2 n2 c2))
            have HF1 := Lib.hid ((hn1.set w1.heap.size 2 (.slice a1 n1 c1)).set w1.heap.size 3 (.slice a2 n2 c2))
            have HF2 := Lib.hid ((hn2.set w1.heap.size 2 (.slice a1 n1 c1)).set w1.heap.size 3 (.slice a2 n2 c2))
            have HM4 := Lib.hid ((hM.set (o := 2) hn1.newer hn2.newer hKlt (.slice a1 n1 c1)).set (o := 3) hn1.newer hn2.newer hKlt (.slice a2 n2 c2))
            have HK4 := Lib.hid (heap_set_same (heap_set_same hK3 (o := 2) (.slice a1 n1 c1)) (o := 3) (.slice a2 n2 c2))
            have HN1 := Lib.hid hn1; clear hn1
            have HN2 := Lib.hid hn2; clear hn2
            have hNlt : w.heap.size < wx.heap.size := by omega
            clear hb3 hM hKx hK3 hzx
            obtain ⟨er, her⟩ : ∃ er, (readMap (b.drop 4)).2 = er := ⟨_, rfl⟩
            rw [her]
            by_cases he : er = 0
            · have HRR := Lib.hid (HR.out.trans (by rw [rb_map HPRE.out (her.trans he)]; simp) : readEntry s.data.toList = (⟨[], true, (readMap (b.drop 4)).1⟩, (l.length : Int) + 1, 0))
              subst he
              clear her HR
              go_upto_region 21 with fail
              generalize (w3.setCell ⟨w1.heap.size, 2, none⟩ (.slice a1 n1 c1)).setCell ⟨w1.heap.size, 3, none⟩ (.slice a2 n2 c2) = w4 at HO4 HM4 HK4 HF1 HF2 ⊢
              clear k0 k1 g0 g1 hz3
              have k0 : w4.cell? ⟨w1.heap.size, 0, none⟩ = some (.slice none 0 0) := heap_cell HK4.out 0
              have k1 : w4.cell? ⟨w1.heap.size, 1, none⟩ = some (.bool true) := heap_cell HK4.out 1
              have k2 : w4.cell? ⟨w1.heap.size, 2, none⟩ = some (.slice a1 n1 c1) := heap_cell HK4.out 2
              have k3 : w4.cell? ⟨w1.heap.size, 3, none⟩ = some (.slice a2 n2 c2) := heap_cell HK4.out 3
              have r0 : w4.cell? ⟨w.heap.size, 0, none⟩ = some (.slice none 0 0) := HO4.out.cell 0 0 rfl
              have r1 : w4.cell? ⟨w.heap.size, 1, none⟩ = some (.bool false) := HO4.out.cell 0 1 rfl
              have r2 : w4.cell? ⟨w.heap.size, 2, none⟩ = some (.slice none 0 0) := HO4.out.cell 0 2 rfl
              have r3 : w4.cell? ⟨w.heap.size, 3, none⟩ = some (.slice none 0 0) := HO4.out.cell 0 3 rfl
              have f0 : w4.frozen? ⟨w.heap.size, 0, none⟩ = false := HO4.out.free 0 0 rfl
              have f1 : w4.frozen? ⟨w.heap.size, 1, none⟩ = false := HO4.out.free 0 1 rfl
              have f2 : w4.frozen? ⟨w.heap.size, 2, none⟩ = false := HO4.out.free 0 2 rfl
              have f3 : w4.frozen? ⟨w.heap.size, 3, none⟩ = false := HO4.out.free 0 3 rfl
              have hz4 : w.heap.size < w4.heap.size := HO4.out.lt (i := 0) (by simp)
              go_wp2_with fail
              have HD := retE (HO4.out.blk 0 _ rfl) HO4.out.old (.slice none 0 0) (.bool true) (.slice a1 n1 c1) (.slice a2 n2 c2)
              have HM5 := (MapAt.set (b := w.heap.size) (o := 3) (MapAt.set (b := w.heap.size) (o := 2) (MapAt.set (b := w.heap.size) (o := 1) (MapAt.set (b := w.heap.size) (o := 0) HM4.out HN1.out.newer HN2.out.newer hNlt (.slice none 0 0)) HN1.out.newer HN2.out.newer hNlt (.bool true)) HN1.out.newer HN2.out.newer hNlt (.slice a1 n1 c1)) HN1.out.newer HN2.out.newer hNlt (.slice a2 n2 c2))
              have FR1 := (Fresh.set (Fresh.set (Fresh.set (Fresh.set HF1.out w.heap.size 0 (.slice none 0 0)) w.heap.size 1 (.bool true)) w.heap.size 2 (.slice a1 n1 c1)) w.heap.size 3 (.slice a2 n2 c2))
              have FR2 := (Fresh.set (Fresh.set (Fresh.set (Fresh.set HF2.out w.heap.size 0 (.slice none 0 0)) w.heap.size 1 (.bool true)) w.heap.size 2 (.slice a1 n1 c1)) w.heap.size 3 (.slice a2 n2 c2))
              generalize ((((w4.setCell ⟨w.heap.size, 0, none⟩ (.slice none 0 0)).setCell ⟨w.heap.size, 1, none⟩ (.bool true)).setCell ⟨w.heap.size, 2, none⟩ (.slice a1 n1 c1)).setCell ⟨w.heap.size, 3, none⟩ (.slice a2 n2 c2)) = WE at HD HM5 FR1 FR2 ⊢
              have d0 : WE.cell? ⟨w.heap.size, 0, none⟩ = some (.slice none 0 0) := heap_cell HD.1 0
              have d1 : WE.cell? ⟨w.heap.size, 1, none⟩ = some (.bool true) := heap_cell HD.1 1
              have d2 : WE.cell? ⟨w.heap.size, 2, none⟩ = some (.slice a1 n1 c1) := heap_cell HD.1 2
              have d3 : WE.cell? ⟨w.heap.size, 3, none⟩ = some (.slice a2 n2 c2) := heap_cell HD.1 3
              refine bodyPost_ret (v := .tuple #[.agg #[.slice none 0 0, .bool true, .slice a1 n1 c1, .slice a2 n2 c2], .int .i64 ((p : Int) + 1), .int .i64 0]) (by simp [results, Tryd.results31, go_sem, d0, d1, d2, d3]) rfl ⟨_, _, _, _, _, _, _, _, _, by rw [HRR.out, HP.out], by rw [HRR.out]; exact ⟨opsAt_empty _, HM5⟩, Fresh.nil _ _ _, FR1.mono (by omega), FR2.mono (by omega), HD.2⟩
            · have HRR := Lib.hid (HR.out.trans (by rw [rb_map_no HPRE.out (by rw [her]; exact he), her]; simp [he]) : readEntry s.data.toList = (noEntry, 0, er))
              have heb : (er != 0) = true := by simpa using he
              clear her he HR
              go_upto_region 20 with fail
              generalize (w3.setCell ⟨w1.heap.size, 2, none⟩ (.slice a1 n1 c1)).setCell ⟨w1.heap.size, 3, none⟩ (.slice a2 n2 c2) = w4 at HO4 HM4 HK4 HF1 HF2 ⊢
              clear k0 k1 g0 g1 hz3
              have hz4 : w.heap.size < w4.heap.size := HO4.out.lt (i := 0) (by simp)
              have r0 : w4.cell? ⟨w.heap.size, 0, none⟩ = some (.slice none 0 0) := HO4.out.cell 0 0 rfl
              have r1 : w4.cell? ⟨w.heap.size, 1, none⟩ = some (.bool false) := HO4.out.cell 0 1 rfl
              have r2 : w4.cell? ⟨w.heap.size, 2, none⟩ = some (.slice none 0 0) := HO4.out.cell 0 2 rfl
              have r3 : w4.cell? ⟨w.heap.size, 3, none⟩ = some (.slice none 0 0) := HO4.out.cell 0 3 rfl
              have f0 : w4.frozen? ⟨w.heap.size, 0, none⟩ = false := HO4.out.free 0 0 rfl
              have f1 : w4.frozen? ⟨w.heap.size, 1, none⟩ = false := HO4.out.free 0 1 rfl
              have f2 : w4.frozen? ⟨w.heap.size, 2, none⟩ = false := HO4.out.free 0 2 rfl
              have f3 : w4.frozen? ⟨w.heap.size, 3, none⟩ = false := HO4.out.free 0 3 rfl
              go_wp2_with fail
              have HD := retE (HO4.out.blk 0 _ rfl) HO4.out.old (.slice none 0 0) (.bool false) (.slice none 0 0) (.slice none 0 0)
              generalize ((((w4.setCell ⟨w.heap.size, 0, none⟩ (.slice none 0 0)).setCell ⟨w.heap.size, 1, none⟩ (.bool false)).setCell ⟨w.heap.size, 2, none⟩ (.slice none 0 0)).setCell ⟨w.heap.size, 3, none⟩ (.slice none 0 0)) = WE at HD ⊢
              have d0 : WE.cell? ⟨w.heap.size, 0, none⟩ = some (.slice none 0 0) := heap_cell HD.1 0
              have d1 : WE.cell? ⟨w.heap.size, 1, none⟩ = some (.bool false) := heap_cell HD.1 1
              have d2 : WE.cell? ⟨w.heap.size, 2, none⟩ = some (.slice none 0 0) := heap_cell HD.1 2
              have d3 : WE.cell? ⟨w.heap.size, 3, none⟩ = some (.slice none 0 0) := heap_cell HD.1 3
              refine bodyPost_ret (v := .tuple #[.agg #[.slice none 0 0, .bool false, .slice none 0 0, .slice none 0 0], .int .i64 0, .int .i64 er]) (by simp [results, Tryd.results31, go_sem, d0, d1, d2, d3]) rfl ⟨none, 0, 0, none, 0, 0, none, 0, 0, by rw [HRR.out]; rfl, by rw [HRR.out]; exact entAt_none _, Fresh.nil _ _ _, Fresh.nil _ _ _, Fresh.nil _ _ _, HD.2⟩
          · rw [(pre_no hpre).1, (pre_no hpre).2, S_mk]
            have HPRE := Lib.hid hpre; clear hpre
            go_wp2_with fail
            rw [HX3.out]
            have HOx := Lib.hid (HO1.out.alloc (.cells #[.slice none 0 0, .bool false, .slice none 0 0, .slice none 0 0] 41))
            have hKx : (w1.alloc (.cells #[.slice none 0 0, .bool false, .slice none 0 0, .slice none 0 0] 41)).heap[w1.heap.size]? = some (.cells #[.slice none 0 0, .bool false, .slice none 0 0, .slice none 0 0] 41 (0, 0)) := heap_new1 w1 _
            have hzx : (w1.alloc (.cells #[.slice none 0 0, .bool false, .slice none 0 0, .slice none 0 0] 41)).heap.size = w1.heap.size + 1 := by simp
            generalize w1.alloc (.cells #[.slice none 0 0, .bool false, .slice none 0 0, .slice none 0 0] 41) = wx at HOx hKx hzx ⊢
            refine (readDeed_new (S b) (by rw [S_size]; omega) wx (HE.out.below HOx.out.old)).mono ?_
            rintro e w3 ⟨a1, n1, c1, rfl, hM, hn1, hb3⟩
            rw [S_bytes] at hM ⊢
            have HO3 := Lib.hid (HOx.out.below hb3)
            have hK3 : w3.heap[w1.heap.size]? = some (.cells #[.slice none 0 0, .bool false, .slice none 0 0, .slice none 0 0] 41 (0, 0)) := (hb3.block _ (by omega)).trans hKx
            have hz3 : w1.heap.size < w3.heap.size := heap_lt hK3
            have k0 : w3.cell? ⟨w1.heap.size, 0, none⟩ = some (.slice none 0 0) := heap_cell hK3 0
            have g0 : w3.frozen? ⟨w1.heap.size, 0, none⟩ = false := heap_free hK3 0
            have hKlt : w1.heap.size < wx.heap.size := by omega
            have HO4 := Lib.hid (HO3.out.far (b := w1.heap.size) (by simp; omega) 0 (.slice a1 n1 c1))
            have HF1 := Lib.hid (hn1.set w1.heap.size 0 (.slice a1 n1 c1))
            have HM4 := Lib.hid (OpsAt.set (o := 0) hM hn1.newer hKlt (.slice a1 n1 c1))
            have HK4 := Lib.hid (heap_set_same hK3 (o := 0) (.slice a1 n1 c1))
            have HN1 := Lib.hid hn1; clear hn1
            have hNlt : w.heap.size < wx.heap.size := by omega
            clear hb3 hM hKx hK3 hzx
            obtain ⟨er, her⟩ : ∃ er, (readDeed b).2 = er := ⟨_, rfl⟩
            rw [her]
            by_cases he : er = 0
            · have HRR := Lib.hid (HR.out.trans (by rw [rb_deed HPRE.out (her.trans he)]; simp) : readEntry s.data.toList = (⟨(readDeed b).1, false, emptyMap⟩, (l.length : Int) + 1, 0))
              subst he
              clear her HR
              go_upto_region 21 with fail
              generalize w3.setCell ⟨w1.heap.size, 0, none⟩ (.slice a1 n1 c1) = w4 at HO4 HM4 HK4 HF1 ⊢
              clear k0 g0 hz3
              have k0 : w4.cell? ⟨w1.heap.size, 0, none⟩ = some (.slice a1 n1 c1) := heap_cell HK4.out 0
              have k1 : w4.cell? ⟨w1.heap.size, 1, none⟩ = some (.bool false) := heap_cell HK4.out 1
              have k2 : w4.cell? ⟨w1.heap.size, 2, none⟩ = some (.slice none 0 0) := heap_cell HK4.out 2
              have k3 : w4.cell? ⟨w1.heap.size, 3, none⟩ = some (.slice none 0 0) := heap_cell HK4.out 3
              have r0 : w4.cell? ⟨w.heap.size, 0, none⟩ = some (.slice none 0 0) := HO4.out.cell 0 0 rfl
              have r1 : w4.cell? ⟨w.heap.size, 1, none⟩ = some (.bool false) := HO4.out.cell 0 1 rfl
              have r2 : w4.cell? ⟨w.heap.size, 2, none⟩ = some (.slice none 0 0) := HO4.out.cell 0 2 rfl
              have r3 : w4.cell? ⟨w.heap.size, 3, none⟩ = some (.slice none 0 0) := HO4.out.cell 0 3 rfl
              have f0 : w4.frozen? ⟨w.heap.size, 0, none⟩ = false := HO4.out.free 0 0 rfl
              have f1 : w4.frozen? ⟨w.heap.size, 1, none⟩ = false := HO4.out.free 0 1 rfl
              have f2 : w4.frozen? ⟨w.heap.size, 2, none⟩ = false := HO4.out.free 0 2 rfl
              have f3 : w4.frozen? ⟨w.heap.size, 3, none⟩ = false := HO4.out.free 0 3 rfl
              have hz4 : w.heap.size < w4.heap.size := HO4.out.lt (i := 0) (by simp)
              go_wp2_with fail
              have HD := retE (HO4.out.blk 0 _ rfl) HO4.out.old (.slice a1 n1 c1) (.bool false) (.slice none 0 0) (.slice none 0 0)
              have HM5 := (OpsAt.set (b := w.heap.size) (o := 3) (OpsAt.set (b := w.heap.size) (o := 2) (OpsAt.set (b := w.heap.size) (o := 1) (OpsAt.set (b := w.heap.size) (o := 0) HM4.out HN1.out.newer hNlt (.slice a1 n1 c1)) HN1.out.newer hNlt (.bool false)) HN1.out.newer hNlt (.slice none 0 0)) HN1.out.newer hNlt (.slice none 0 0))
              have FR1 := (Fresh.set (Fresh.set (Fresh.set (Fresh.set HF1.out w.heap.size 0 (.slice a1 n1 c1)) w.heap.size 1 (.bool false)) w.heap.size 2 (.slice none 0 0)) w.heap.size 3 (.slice none 0 0))
              have FR2 := FR1
              generalize ((((w4.setCell ⟨w.heap.size, 0, none⟩ (.slice a1 n1 c1)).setCell ⟨w.heap.size, 1, none⟩ (.bool false)).setCell ⟨w.heap.size, 2, none⟩ (.slice none 0 0)).setCell ⟨w.heap.size, 3, none⟩ (.slice none 0 0)) = WE at HD HM5 FR1 FR2 ⊢
              have d0 : WE.cell? ⟨w.heap.size, 0, none⟩ = some (.slice a1 n1 c1) := heap_cell HD.1 0
              have d1 : WE.cell? ⟨w.heap.size, 1, none⟩ = some (.bool false) := heap_cell HD.1 1
              have d2 : WE.cell? ⟨w.heap.size, 2, none⟩ = some (.slice none 0 0) := heap_cell HD.1 2
              have d3 : WE.cell? ⟨w.heap.size, 3, none⟩ = some (.slice none 0 0) := heap_cell HD.1 3
              refine bodyPost_ret (v := .tuple #[.agg #[.slice a1 n1 c1, .bool false, .slice none 0 0, .slice none 0 0], .int .i64 ((p : Int) + 1), .int .i64 0]) (by simp [results, Tryd.results31, go_sem, d0, d1, d2, d3]) rfl ⟨_, _, _, _, _, _, _, _, _, by rw [HRR.out, HP.out], by rw [HRR.out]; exact ⟨HM5, mapAt_empty _⟩, FR1.mono (by omega), Fresh.nil _ _ _, Fresh.nil _ _ _, HD.2⟩
            · have HRR := Lib.hid (HR.out.trans (by rw [rb_deed_no HPRE.out (by rw [her]; exact he), her]; simp [he]) : readEntry s.data.toList = (noEntry, 0, er))
              have heb : (er != 0) = true := by simpa using he
              clear her he HR
              go_upto_region 20 with fail
              generalize w3.setCell ⟨w1.heap.size, 0, none⟩ (.slice a1 n1 c1) = w4 at HO4 HM4 HK4 HF1 ⊢
              clear k0 g0 hz3
              have hz4 : w.heap.size < w4.heap.size := HO4.out.lt (i := 0) (by simp)
              have r0 : w4.cell? ⟨w.heap.size, 0, none⟩ = some (.slice none 0 0) := HO4.out.cell 0 0 rfl
              have r1 : w4.cell? ⟨w.heap.size, 1, none⟩ = some (.bool false) := HO4.out.cell 0 1 rfl
              have r2 : w4.cell? ⟨w.heap.size, 2, none⟩ = some (.slice none 0 0) := HO4.out.cell 0 2 rfl
              have r3 : w4.cell? ⟨w.heap.size, 3, none⟩ = some (.slice none 0 0) := HO4.out.cell 0 3 rfl
              have f0 : w4.frozen? ⟨w.heap.size, 0, none⟩ = false := HO4.out.free 0 0 rfl
              have f1 : w4.frozen? ⟨w.heap.size, 1, none⟩ = false := HO4.out.free 0 1 rfl
              have f2 : w4.frozen? ⟨w.heap.size, 2, none⟩ = false := HO4.out.free 0 2 rfl
              have f3 : w4.frozen? ⟨w.heap.size, 3, none⟩ = false := HO4.out.free 0 3 rfl
              go_wp2_with fail
              have HD := retE (HO4.out.blk 0 _ rfl) HO4.out.old (.slice none 0 0) (.bool false) (.slice none 0 0) (.slice none 0 0)
              generalize ((((w4.setCell ⟨w.heap.size, 0, none⟩ (.slice none 0 0)).setCell ⟨w.heap.size, 1, none⟩ (.bool false)).setCell ⟨w.heap.size, 2, none⟩ (.slice none 0 0)).setCell ⟨w.heap.size, 3, none⟩ (.slice none 0 0)) = WE at HD ⊢
              have d0 : WE.cell? ⟨w.heap.size, 0, none⟩ = some (.slice none 0 0) := heap_cell HD.1 0
              have d1 : WE.cell? ⟨w.heap.size, 1, none⟩ = some (.bool false) := heap_cell HD.1 1
              have d2 : WE.cell? ⟨w.heap.size, 2, none⟩ = some (.slice none 0 0) := heap_cell HD.1 2
              have d3 : WE.cell? ⟨w.heap.size, 3, none⟩ = some (.slice none 0 0) := heap_cell HD.1 3
              refine bodyPost_ret (v := .tuple #[.agg #[.slice none 0 0, .bool false, .slice none 0 0, .slice none 0 0], .int .i64 0, .int .i64 er]) (by simp [results, Tryd.results31, go_sem, d0, d1, d2, d3]) rfl ⟨none, 0, 0, none, 0, 0, none, 0, 0, by rw [HRR.out]; rfl, by rw [HRR.out]; exact entAt_none _, Fresh.nil _ _ _, Fresh.nil _ _ _, Fresh.nil _ _ _, HD.2⟩
        · have hvb : (v != (sumV b : Int)) = true := by simpa using hvs
          have HR := Lib.hid (re_nosum HC.out HK.out HN.out hvs); clear hvs
          have r0 : w1.cell? ⟨w.heap.size, 0, none⟩ = some (.slice none 0 0) := HO1.out.cell 0 0 rfl
          have r1 : w1.cell? ⟨w.heap.size, 1, none⟩ = some (.bool false) := HO1.out.cell 0 1 rfl
          have r2 : w1.cell? ⟨w.heap.size, 2, none⟩ = some (.slice none 0 0) := HO1.out.cell 0 2 rfl
          have r3 : w1.cell? ⟨w.heap.size, 3, none⟩ = some (.slice none 0 0) := HO1.out.cell 0 3 rfl
          have f0 : w1.frozen? ⟨w.heap.size, 0, none⟩ = false := HO1.out.free 0 0 rfl
          have f1 : w1.frozen? ⟨w.heap.size, 1, none⟩ = false := HO1.out.free 0 1 rfl
          have f2 : w1.frozen? ⟨w.heap.size, 2, none⟩ = false := HO1.out.free 0 2 rfl
          have f3 : w1.frozen? ⟨w.heap.size, 3, none⟩ = false := HO1.out.free 0 3 rfl
          go_wp2_with fail
          have HD := retE (HO1.out.blk 0 _ rfl) HO1.out.old (.slice none 0 0) (.bool false) (.slice none 0 0) (.slice none 0 0)
          generalize ((((w1.setCell ⟨w.heap.size, 0, none⟩ (.slice none 0 0)).setCell ⟨w.heap.size, 1, none⟩ (.bool false)).setCell ⟨w.heap.size, 2, none⟩ (.slice none 0 0)).setCell ⟨w.heap.size, 3, none⟩ (.slice none 0 0)) = WE at HD ⊢
          have d0 : WE.cell? ⟨w.heap.size, 0, none⟩ = some (.slice none 0 0) := heap_cell HD.1 0
          have d1 : WE.cell? ⟨w.heap.size, 1, none⟩ = some (.bool false) := heap_cell HD.1 1
          have d2 : WE.cell? ⟨w.heap.size, 2, none⟩ = some (.slice none 0 0) := heap_cell HD.1 2
          have d3 : WE.cell? ⟨w.heap.size, 3, none⟩ = some (.slice none 0 0) := heap_cell HD.1 3
          refine bodyPost_ret (v := .tuple #[.agg #[.slice none 0 0, .bool false, .slice none 0 0, .slice none 0 0], .int .i64 0, .int .i64 8]) (by simp [results, Tryd.results31, go_sem, d0, d1, d2, d3]) rfl ⟨none, 0, 0, none, 0, 0, none, 0, 0, by rw [HR.out]; rfl, by rw [HR.out]; exact entAt_none _, Fresh.nil _ _ _, Fresh.nil _ _ _, Fresh.nil _ _ _, HD.2⟩
theorem readEntry_any (s : Str) (hs : s.size ≤ 1099511627) (w : World) (hE : Env w) :
    Calls Tryd.prog 31 #[.string s] w fun e w' => ∃ eo en ec ao n c bo m d, e = .returned (.tuple #[.agg #[.slice eo en ec, .bool (readEntry s.data.toList).1.isMap, .slice ao n c, .slice bo m d], .int .i64 (readEntry s.data.toList).2.1, .int .i64 (readEntry s.data.toList).2.2]) ∧
      EntAt w' eo en ec ao n c bo m d (readEntry s.data.toList).1 ∧ Below w.heap.size w w' :=
  (readEntry_new s hs w hE).mono fun _ _ ⟨eo, en, ec, ao, n, c, bo, m, d, h1, h2, _, _, _, h3⟩ => ⟨eo, en, ec, ao, n, c, bo, m, d, h1, h2, h3⟩
end Go.Proofs.YtdhfcelhgnjpcaaDoor
