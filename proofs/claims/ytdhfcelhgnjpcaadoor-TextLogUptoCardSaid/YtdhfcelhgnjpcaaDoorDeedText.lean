/-
  text.Deed: a deed as text.
-/
import Derived.Test.YtdhfcelhgnjpcaaDoorOpText
import Derived.Test.YtdhfcelhgnjpcaaDoorReadMap
import Derived.Test.YtdhfcelhgnjpcaaDoorMapText
namespace Go.Proofs.YtdhfcelhgnjpcaaDoor
open Go.RowKit

theorem join_join1 (c : UInt8) : ∀ ws : List Bs, Lib.join ws [c] = join1 c ws
  | [] => rfl
  | [a] => by simp [Lib.join, join1]
  | a :: b :: r => by
    have ih := join_join1 c (b :: r)
    simp only [Lib.join, join1] at ih ⊢
    rw [← ih]; simp
def I64 (n : Int) : Prop := -9223372036854775808 ≤ n ∧ n ≤ 9223372036854775807

theorem Sl.all {w : World} {size : Nat} {ao : Option Addr} {n c : Nat} {xs : List Value} (h : Sl w size ao n c xs) (hx : xs ≠ []) :
    ∃ b off, ao = some ⟨b, off, none⟩ ∧ b < w.heap.size ∧ ∀ (j : Nat) u, xs[j]? = some u → w.cell? ⟨b, off + j, none⟩ = some u := by
  cases xs with
  | nil => exact absurd rfl hx
  | cons x r =>
    obtain ⟨b, off, hb, h0⟩ := h.cell 0 x rfl
    refine ⟨b, off, hb, World.block_lt_of_cell? w _ h0, fun j u hu => ?_⟩
    obtain ⟨b', off', hb', h1⟩ := h.cell j u hu
    rw [hb] at hb'; cases hb'; exact h1
/-- What lies in memory while Deed runs: the deed's box, the words so far. -/
structure DM (N : Nat) (w : World) (B : Value) (vo : Value) (ts : List Str) (W : World) : Prop where
  owns : W.ownsRow (N + 1) 9 1 vo ts.length (ts.map .string)
  box : W.heap[N]? = some (.cells #[B] 36 (0, 0))
  old : Below N w W
section
variable {N : Nat} {w : World} {B vo : Value} {ts : List Str} {W W' : World}
theorem DM.size (h : DM N w B vo ts W) : N < W.heap.size := heap_lt h.box
theorem DM.alloc (h : DM N w B vo ts W) (o : Obj) : DM N w B vo ts (W.alloc o) := ⟨h.owns.alloc o, heap_alloc h.box o, h.old.alloc (by have := h.size; omega) o⟩
theorem DM.below (h : DM N w B vo ts W) (hb : Below W.heap.size W W') : DM N w B vo ts W' :=
  ⟨owns_below h.owns hb, (hb.block _ (heap_lt h.box)).trans h.box, h.old.trans (hb.mono (by have := h.size; omega))⟩
theorem DM.grow (h : DM N w B vo ts W) {vo' : Value} {ts' : List Str} (ho : W'.ownsRow (N + 1) 9 1 vo' ts'.length (ts'.map .string)) (hg : W.grownBy W' vo.ownBlock) : DM N w B vo' ts' W' :=
  ⟨ho, grown_heap hg h.box (owns_far h.owns (by omega)), h.old.grown hg (by have := h.size; omega) (fun k hk => by have := (h.owns.lt k hk).1; omega)⟩
theorem DM.c0 (h : DM N w B vo ts W) : W.cell? ⟨N, 0, none⟩ = some B := by rw [heap_cell h.box]; rfl
end

def opTexts (l : List POp) (k : Nat) : List Str := (l.take k).map fun o => S (opText o)
theorem opTexts_len {l : List POp} {k : Nat} (h : k ≤ l.length) : (opTexts l k).length = k := by simp [opTexts]; omega
theorem opTexts_next {l : List POp} {k : Nat} (h : k < l.length) : opTexts l (k + 1) = opTexts l k ++ [S (opText (l.getD k noOp))] := by
  unfold opTexts
  rw [take_snoc l k noOp h]; simp
theorem opTexts_join {l : List POp} : Lib.join ((opTexts l l.length).map (·.data.toList)) (⟨#[59]⟩ : ByteArray).data.toList = deedText l := by
  have e : (opTexts l l.length).map (·.data.toList) = l.map opText := by
    unfold opTexts
    rw [List.take_length, List.map_map]
    exact List.map_congr_left fun o _ => S_bytes _
  rw [e]; exact join_join1 59 _

set_option maxHeartbeats 4000000 in
theorem textDeed_any (ao : Option Addr) (n c : Nat) (l : List POp) (w : World) (h : OpsAt w ao n c l) (hn : n ≤ 1099511627776) (hI : ∀ o ∈ l, I64 o.n) (hE : Env w) :
    Calls Tryd.prog 24 #[.agg #[.slice ao n c]] w fun e w' => e = .returned (.tuple #[.string (S (deedTextE l)), .int .i64 (deedCheck l)]) ∧ Below w.heap.size w w' := by
  obtain ⟨i9, hi9, hz9, hs9, hb9⟩ := info_parts infoS
  have hl := h.n
  have H := Lib.hid h; clear h
  have HE := Lib.hid hE; clear hE
  have HII := Lib.hid hI; clear hI
  obtain ⟨w0, hw0⟩ : ∃ w0, w.alloc (.cells #[.slice ao n c] 36) = w0 := ⟨_, rfl⟩
  have hb0 : Below w.heap.size w w0 := hw0 ▸ below_alloc w _
  have hD0 : DM w.heap.size w (.slice ao n c) (.slice none 0 0) [] w0 := ⟨⟨rfl, Or.inl ⟨rfl, rfl⟩⟩, by subst hw0; exact heap_new rfl _, hb0⟩
  have hcA := hD0.c0
  have hlt0 := hD0.size
  have HD0 := Lib.hid hD0; clear hD0
  have HB0 := Lib.hid hb0; clear hb0
  by_cases hc : deedCheck l = 0
  · have hcb : (deedCheck l != 0) = false := by rw [hc]; rfl
    have hz := deedCheck_zero.1 hc
    have hn8 : n ≤ 8 := by omega
    have hn0 : 0 < n := by omega
    have HOK := Lib.hid (all_ok hc)
    have HC := Lib.hid hc
    have HT := Lib.hid (show deedTextE l = deedText l from if_pos hc)
    have HTL := Lib.hid (deedText_len hc)
    have HL := Lib.hid hl; clear hl hc hz
    go_enter Tryd.func24, Tryd.ntmps24
    go_wp2_with fail
    refine (deedCheck_any ao n c l w0 (H.out.below HB0.out) hn).mono ?_
    rintro e w1 ⟨rfl, hb1⟩
    have HD1 := Lib.hid (HD0.out.below hb1)
    have hA1 := HD1.out.c0
    have hlt1 := HD1.out.size
    clear hb1 hcA hw0 hlt0
    go_wp2_with fail
    go_loopw [5, 16] (fun t i wr => ∃ k : Nat, k ≤ n ∧ i = .int .i64 k ∧ DM w.heap.size w (.slice ao n c) t (opTexts l k) wr) (fun _ i _ => n - (intOf i).toNat)
    case atStart => exact ⟨0, Nat.zero_le _, rfl, HD1.out⟩
    case round =>
      obtain ⟨k, hk, rfl, hD⟩ := hrel
      have hAr := hD.c0
      have hltr := hD.size
      clear hA1 hlt1
      obtain ⟨a5, e5, rfl, _⟩ := Sl.of_owns hD.owns
      have hlk : (opTexts l k).length = k := opTexts_len (by rw [HL.out]; exact hk)
      have HD := Lib.hid hD; clear hD
      have HLK := Lib.hid hlk; clear hlk
      by_cases hlt : k < n
      · obtain ⟨b, off, hao, hbs, hc0, hc1, hc2, hc3⟩ := (H.out.below HD.out.old).cells k hlt
        subst hao
        obtain ⟨o, ho⟩ : ∃ o, l.getD k noOp = o := ⟨_, rfl⟩
        have hmem : o ∈ l := by
          rw [← ho, List.getD_eq_getElem?_getD, List.getElem?_eq_getElem (by rw [HL.out]; exact hlt)]; exact List.getElem_mem _
        rw [ho] at hc0 hc1 hc2 hc3
        have HO := Lib.hid ho; clear ho
        go_wp2_with fail
        have HDa := Lib.hid (HD.out.alloc (.cells #[.int .i64 o.kind, .string o.key, .string o.src, .int .i64 o.n] 54))
        refine (opText_any o (HOK.out o hmem) (HII.out o hmem) _ (HE.out.below HDa.out.old)).mono ?_
        rintro e w2 ⟨rfl, hb2⟩
        have HD2 := Lib.hid (HDa.out.below hb2)
        clear hb2 hc0 hc1 hc2 hc3
        have hz2 := HD2.out.size
        obtain ⟨q, hq⟩ : ∃ q, S (opText o) = q := ⟨_, rfl⟩
        simp only [hq]
        have HQ := Lib.hid hq; clear hq
        have hlk := HLK.out
        go_wp2_with (at_builtin; refine wpList_append_lies _ (by rfl) _ _ 37 (by rfl) (w.heap.size + 1) 9 i9 _ 1 16 Tryd.underlying37 hi9 hz9 hs9 hb9 rfl (by omega) _ _ _ (by rfl) (HD2.out.alloc (.cells #[.string q] 9)).owns ⟨w2.heap.size, 0, none⟩ 1 1 [.string q] (by rfl) (by rfl) (World.news_of_block (cs := #[.string q]) (t := 9) (fr := (0, 0)) (heap_alloc_new _ _)) (by simp [Value.oneCell']) (by omega) (by unfold maxLen; omega) (by omega) (by simp; omega) (w2.heap.size + 1) (by simp) ?_; intro g cap w3 hown3 hgrow3 hat3 hlt3; have M2 := Lib.hid ((HD2.out.alloc (.cells #[.string q] 9)).grow (ts' := opTexts l k ++ [q]) (by simpa using hown3) hgrow3); clear hown3 hgrow3 hat3 hlk)
        go_roundw
        case rel => exact ⟨k + 1, by omega, by go_num, by rw [opTexts_next (by rw [HL.out]; exact hlt), HO.out, HQ.out]; exact M2.out⟩
        case measure => simp [intOf]; omega
      · obtain rfl : k = n := by omega
        obtain ⟨_, hsl⟩ := Sl.of_own HD.out.owns
        have hne : (opTexts l k).map Value.string ≠ [] := by
          intro h0
          have := congrArg List.length h0
          rw [List.length_map, HLK.out] at this; simp at this; omega
        obtain ⟨b, off, hao, hbl, hcells⟩ := hsl.all hne
        subst hao
        have htx : Lib.join ((opTexts l k).map (·.data.toList)) (⟨#[59]⟩ : ByteArray).data.toList = deedText l := by
          have := opTexts_join (l := l); rw [HL.out] at this; exact this
        have hj := Tryd.strings_Join b off e5 (opTexts l k) ⟨#[59]⟩ wr (fun j x hx => hcells j (.string x) (by rw [List.getElem?_map, hx]; rfl)) hbl (by rw [HLK.out]; omega) hsl.le (by rw [htx]; have := HTL.out; omega)
        rw [htx] at hj
        have HJ := Lib.hid hj; clear hj hcells htx hne hsl
        go_wp2_with fail
        refine HJ.out.mono ?_
        rintro e w2 ⟨rfl, hb2⟩
        go_wp2_with fail
        go_ret2
        exact ⟨by rw [HC.out, HT.out]; rfl, below_more HD.out.old hb2 (Nat.le_refl _)⟩
  · have hcb : (deedCheck l != 0) = true := by simpa using hc
    have ht : deedTextE l = [] := if_neg hc
    have HT := Lib.hid ht; clear ht hc hl
    go_enter Tryd.func24, Tryd.ntmps24
    go_wp2_with fail
    refine (deedCheck_any ao n c l w0 (H.out.below HB0.out) hn).mono ?_
    rintro e w1 ⟨rfl, hb1⟩
    go_wp2_with fail
    go_ret2
    exact ⟨by rw [HT.out]; rfl, below_more HB0.out hb1 (Nat.le_refl _)⟩
end Go.Proofs.YtdhfcelhgnjpcaaDoor
