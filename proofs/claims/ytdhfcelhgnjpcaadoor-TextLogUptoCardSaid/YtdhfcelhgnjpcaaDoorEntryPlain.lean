/-
  Plain words on entries of a log: a sum of bytes, an entry's line, what is read of a line; a changed byte is told. No program is named here.
-/
import Derived.Test.YtdhfcelhgnjpcaaDoorDeedPlain
import Derived.Test.YtdhfcelhgnjpcaaDoorMapPlain
namespace Go.Proofs.YtdhfcelhgnjpcaaDoor
open Go.RowKit

/- CUTS -/
def cut1 (c : UInt8) : Bs → Option (Bs × Bs)
  | [] => none
  | b :: r => if b = c then some ([], r) else (cut1 c r).map fun x => (b :: x.1, x.2)
def cutLast (c : UInt8) : Bs → Option (Bs × Bs)
  | [] => none
  | b :: r => match cutLast c r with
    | some x => some (b :: x.1, x.2)
    | none => if b = c then some ([], r) else none
theorem cut1_some {c : UInt8} : ∀ {s a r : Bs}, cut1 c s = some (a, r) → s = a ++ c :: r ∧ c ∉ a
  | [], a, r, h => by cases h
  | b :: t, a, r, h => by
    unfold cut1 at h
    by_cases hb : b = c
    · rw [if_pos hb] at h; cases h; rw [hb]; exact ⟨rfl, by simp⟩
    · rw [if_neg hb] at h
      cases ht : cut1 c t with
      | none => rw [ht] at h; cases h
      | some x =>
        obtain ⟨a', r'⟩ := x
        rw [ht] at h; cases h
        obtain ⟨h1, h2⟩ := cut1_some ht
        refine ⟨by rw [h1]; rfl, ?_⟩
        simp only [List.mem_cons, not_or]
        exact ⟨fun e => hb e.symm, h2⟩
theorem cut1_mk {c : UInt8} : ∀ (a r : Bs), c ∉ a → cut1 c (a ++ c :: r) = some (a, r)
  | [], r, _ => by simp [cut1]
  | b :: a, r, ha => by
    simp only [List.mem_cons, not_or] at ha
    have ih := cut1_mk a r ha.2
    have hb : ¬ b = c := fun h => ha.1 h.symm
    simp [cut1, hb, ih]
theorem cut1_none {c : UInt8} : ∀ (a : Bs), c ∉ a → cut1 c a = none
  | [], _ => rfl
  | b :: a, ha => by
    simp only [List.mem_cons, not_or] at ha
    have ih := cut1_none a ha.2
    have hb : ¬ b = c := fun h => ha.1 h.symm
    simp [cut1, hb, ih]
theorem cut1_no {c : UInt8} : ∀ {a : Bs}, cut1 c a = none → c ∉ a
  | [], _ => by simp
  | b :: a, h => by
    unfold cut1 at h
    split at h
    · cases h
    · rename_i hb
      simp only [Option.map_eq_none_iff] at h
      have ih := cut1_no h
      simp only [List.mem_cons, not_or]
      exact ⟨fun e => hb e.symm, ih⟩
theorem cutLast_none {c : UInt8} : ∀ (a : Bs), c ∉ a → cutLast c a = none
  | [], _ => rfl
  | b :: a, ha => by
    simp only [List.mem_cons, not_or] at ha
    have ih := cutLast_none a ha.2
    have hb : ¬ b = c := fun h => ha.1 h.symm
    simp [cutLast, hb, ih]
theorem cutLast_mk {c : UInt8} : ∀ (a r : Bs), c ∉ r → cutLast c (a ++ c :: r) = some (a, r)
  | [], r, hr => by simp [cutLast, cutLast_none r hr]
  | b :: a, r, hr => by
    have ih := cutLast_mk a r hr
    simp [cutLast, ih]
theorem cutLast_some {c : UInt8} : ∀ {s a r : Bs}, cutLast c s = some (a, r) → s = a ++ c :: r ∧ c ∉ r
  | [], a, r, h => by cases h
  | b :: t, a, r, h => by
    unfold cutLast at h
    cases ht : cutLast c t with
    | some x =>
      obtain ⟨a', r'⟩ := x
      rw [ht] at h; cases h
      obtain ⟨h1, h2⟩ := cutLast_some ht
      exact ⟨by rw [h1]; rfl, h2⟩
    | none =>
      rw [ht] at h
      simp only at h
      split at h
      · rename_i hb
        cases h
        refine ⟨by rw [hb]; rfl, fun hm => ?_⟩
        obtain ⟨x, y, hxy⟩ := List.append_of_mem hm
        exact absurd ht (by
          clear hm
          rw [hxy]
          clear hxy
          have : ∀ (x y : Bs), cutLast c (x ++ c :: y) ≠ none := by
            intro x
            induction x with
            | nil => intro y; simp only [List.nil_append, cutLast]; split <;> simp
            | cons b x ih => intro y; simp only [List.cons_append, cutLast]; split <;> simp_all
          exact this x y)
      · cases h
theorem cutLast_no {c : UInt8} {a : Bs} (h : cutLast c a = none) : c ∉ a := by
  intro hm
  obtain ⟨x, y, rfl⟩ := List.append_of_mem hm
  have : ∀ (x y : Bs), cutLast c (x ++ c :: y) ≠ none := by
    intro x
    induction x with
    | nil => intro y; simp only [List.nil_append, cutLast]; split <;> simp
    | cons b x ih => intro y; simp only [List.cons_append, cutLast]; split <;> simp_all
  exact this x y h

/- SUMS -/
def wsumFrom : Nat → Bs → Nat
  | _, [] => 0
  | i, b :: r => (i + 1) * b.toNat + wsumFrom (i + 1) r
def sumV (l : Bs) : Nat := wsumFrom 0 l % 65521
theorem wsum_append : ∀ (a b : Bs) (i : Nat), wsumFrom i (a ++ b) = wsumFrom i a + wsumFrom (i + a.length) b
  | [], b, i => by simp [wsumFrom]
  | x :: a, b, i => by
    have ih := wsum_append a b (i + 1)
    simp only [List.cons_append, wsumFrom, ih, List.length_cons]
    rw [show i + 1 + a.length = i + (a.length + 1) from by omega]; omega
theorem sum_differs (a r : Bs) (x y : UInt8) (hl : a.length < 250) (h : sumV (a ++ x :: r) = sumV (a ++ y :: r)) : x = y := by
  unfold sumV at h
  rw [wsum_append, wsum_append] at h
  simp only [wsumFrom, Nat.zero_add] at h
  have hx := x.toNat_lt
  have hy := y.toNat_lt
  have h1 : (a.length + 1) * x.toNat ≤ 250 * 255 := Nat.mul_le_mul (by omega) (by omega)
  have h2 : (a.length + 1) * y.toNat ≤ 250 * 255 := Nat.mul_le_mul (by omega) (by omega)
  have h3 : (a.length + 1) * x.toNat = (a.length + 1) * y.toNat := by omega
  exact UInt8.toNat_inj.1 (Nat.eq_of_mul_eq_mul_left (by omega) h3)
theorem sumV_lt (l : Bs) : sumV l < 65521 := Nat.mod_lt _ (by omega)

/- ENTRIES -/
structure PEntry where
  deed : List POp
  isMap : Bool
  map : PMap
def mapPre : Bs := [109, 97, 112, 32]
def noEntry : PEntry := ⟨[], false, emptyMap⟩
def entryCheck (x : PEntry) : Int := if x.isMap = true then mapCheck x.map else deedCheck x.deed
def entryBody (x : PEntry) : Bs := if x.isMap = true then mapPre ++ mapText x.map else deedText x.deed
def lineOf (s : Bs) : Bs := s ++ 32 :: (Lib.itoa (sumV s) ++ [10])
def entryText (x : PEntry) : Bs := if entryCheck x = 0 then lineOf (entryBody x) else []
def bareEntry (x : PEntry) : PEntry := if x.isMap = true then ⟨[], true, x.map⟩ else ⟨x.deed, false, emptyMap⟩
/-- Without what its kinds do not name. -/
def bare2 (x : PEntry) : PEntry := if x.isMap = true then ⟨[], true, x.map⟩ else ⟨x.deed.map bare, false, emptyMap⟩
def readBody (s : Bs) : PEntry × Int :=
  if s.take 4 = mapPre then (if (readMap (s.drop 4)).2 = 0 then (⟨[], true, (readMap (s.drop 4)).1⟩, 0) else (noEntry, (readMap (s.drop 4)).2))
  else if (readDeed s).2 = 0 then (⟨(readDeed s).1, false, emptyMap⟩, 0) else (noEntry, (readDeed s).2)
def readLine (l : Bs) : PEntry × Int := match cutLast 32 l with
  | none => (noEntry, 9)
  | some x => match numV x.2 with
    | none => (noEntry, 9)
    | some n => if n = sumV x.1 then readBody x.1 else (noEntry, 8)
def readEntry (s : Bs) : PEntry × Int × Int := match cut1 10 s with
  | none => (noEntry, 0, 7)
  | some x => if (readLine x.1).2 = 0 then ((readLine x.1).1, x.1.length + 1, 0) else (noEntry, 0, (readLine x.1).2)
theorem readBody_bad {s : Bs} (h : ¬ (readBody s).2 = 0) : (readBody s).1 = noEntry := by
  unfold readBody at h ⊢
  split
  · rename_i h1
    rw [if_pos h1] at h
    split
    · rename_i h2; rw [if_pos h2] at h; simp at h
    · rfl
  · rename_i h1
    rw [if_neg h1] at h
    split
    · rename_i h2; rw [if_pos h2] at h; simp at h
    · rfl
theorem readLine_bad {s : Bs} (h : ¬ (readLine s).2 = 0) : (readLine s).1 = noEntry := by
  unfold readLine at h ⊢
  split
  · rfl
  · rename_i x hx
    simp only [hx] at h
    split
    · rfl
    · rename_i n hn
      simp only [hn] at h
      split
      · rename_i hs; rw [if_pos hs] at h; exact readBody_bad h
      · rfl
theorem readEntry_bad {s : Bs} (h : ¬ (readEntry s).2.2 = 0) : (readEntry s).1 = noEntry ∧ (readEntry s).2.1 = 0 := by
  unfold readEntry at h ⊢
  split
  · exact ⟨rfl, rfl⟩
  · rename_i x hx
    simp only [hx] at h
    split
    · rename_i hs; rw [if_pos hs] at h; simp at h
    · exact ⟨rfl, rfl⟩

/- BYTES -/
theorem big_join (c : UInt8) (hc : 32 < c.toNat) : ∀ ws : List Bs, (∀ w ∈ ws, ∀ b ∈ w, 32 < b.toNat) → ∀ b ∈ join1 c ws, 32 < b.toNat
  | [], _, b, h => by simp [join1] at h
  | [a], h, b, hb => h a (by simp) b hb
  | a :: a2 :: r, h, b, hb => by
    rw [join1_cons c a (by simp)] at hb
    rcases List.mem_append.1 hb with hb | hb
    · exact h a (by simp) b hb
    · rcases List.mem_cons.1 hb with rfl | hb
      · exact hc
      · exact big_join c hc (a2 :: r) (fun w hw => h w (by simp at hw ⊢; right; exact hw)) b hb
theorem big_itoa (n : Int) : ∀ b ∈ Lib.itoa n, 32 < b.toNat := fun b hb => by have := itoa_bytes n b hb; omega
theorem big_key {s : Str} (h : isKey s = true) : ∀ b ∈ s.data.toList, 32 < b.toNat := fun b hb => by have := isKey_lower h b hb; omega
theorem big_op {o : POp} (h : OpOk o) : ∀ b ∈ opText o, 32 < b.toNat := by
  have h1 := big_key h.key
  have h2 := big_itoa o.n
  intro b hb
  have hlo := h.lo; have hhi := h.hi
  have e1 : (32 : Nat) < (61 : UInt8).toNat := by decide
  have e2 : (32 : Nat) < (43 : UInt8).toNat := by decide
  have e3 : (32 : Nat) < (60 : UInt8).toNat := by decide
  have e4 : (32 : Nat) < (63 : UInt8).toNat := by decide
  have e5 : (32 : Nat) < (42 : UInt8).toNat := by decide
  unfold opText at hb
  split at hb
  · rcases List.mem_append.1 hb with hb | hb
    · exact h1 b hb
    · rcases List.mem_cons.1 hb with rfl | hb
      · exact e1
      · exact h2 b hb
  · split at hb
    · rcases List.mem_append.1 hb with hb | hb
      · exact h1 b hb
      · rcases List.mem_cons.1 hb with rfl | hb
        · exact e2
        · exact h2 b hb
    · split at hb
      · rename_i h3
        have h4 := big_key (h.src (.inl h3)).1
        rcases List.mem_append.1 hb with hb | hb
        · exact h1 b hb
        · rcases List.mem_cons.1 hb with rfl | hb
          · exact e3
          · exact h4 b hb
      · split at hb
        · rcases List.mem_append.1 hb with hb | hb
          · exact h1 b hb
          · rcases List.mem_cons.1 hb with rfl | hb
            · exact e4
            · exact h2 b hb
        · have h4 := big_key (h.src (.inr (by omega))).1
          rcases List.mem_append.1 hb with hb | hb
          · exact h1 b hb
          · rcases List.mem_cons.1 hb with rfl | hb
            · exact e3
            · rcases List.mem_append.1 hb with hb | hb
              · exact h4 b hb
              · rcases List.mem_cons.1 hb with rfl | hb
                · exact e5
                · exact h2 b hb
theorem big_deed {l : List POp} (h : deedCheck l = 0) : ∀ b ∈ deedText l, 32 < b.toNat :=
  big_join 59 (by decide) _ (fun w hw => by obtain ⟨o, ho, rfl⟩ := List.mem_map.1 hw; exact big_op (all_ok h o ho))
theorem big_words : ∀ (os : List Int) (cs : List Str), (∀ c ∈ cs, isKey c = true) → ∀ w ∈ words os cs, ∀ b ∈ w, 32 < b.toNat
  | [], _, _, w, h => by simp [words] at h
  | o :: _, [], _, w, h => by simp [words] at h; subst h; exact big_itoa o
  | o :: os, c :: cs, hk, w, h => by
    simp only [words, List.mem_cons] at h
    rcases h with rfl | rfl | h
    · exact big_itoa o
    · exact big_key (hk c (by simp))
    · exact big_words os cs (fun x hx => hk x (by simp [hx])) w h
theorem big_map {p : PMap} (h : MapOk p) : ∀ b ∈ mapText p, 32 < b.toNat := big_join 58 (by decide) _ (big_words _ _ h.keys)

/-- What a body may be. -/
def OkBody (s : Bs) : Prop := (∃ l, deedCheck l = 0 ∧ deedText l = s) ∨ ∃ p, MapOk p ∧ s = mapPre ++ mapText p
theorem OkBody.shape {s : Bs} (h : OkBody s) : (∀ b ∈ s, 32 < b.toNat) ∨ ∃ r, s = mapPre ++ r ∧ ∀ b ∈ r, 32 < b.toNat := by
  rcases h with ⟨l, h1, rfl⟩ | ⟨p, h1, rfl⟩
  · exact .inl (big_deed h1)
  · exact .inr ⟨_, rfl, big_map h1⟩
theorem OkBody.len {s : Bs} (h : OkBody s) : s.length < 250 := by
  rcases h with ⟨l, h1, rfl⟩ | ⟨p, h1, rfl⟩
  · have := deedText_len h1; omega
  · have h2 := mapTo_len p h1 p.cuts.length (Nat.le_refl _)
    rw [mapTo_all p h1.len] at h2
    have := h1.most
    simp [mapPre]; omega
theorem okBody_read {s : Bs} (h : (readBody s).2 = 0) : OkBody s := by
  unfold readBody at h
  split at h
  · rename_i h4
    by_cases hr : (readMap (s.drop 4)).2 = 0
    · obtain ⟨h1, h2⟩ := mapText_read hr
      exact .inr ⟨_, h1, by rw [h2, ← h4, List.take_append_drop]⟩
    · rw [if_neg hr] at h; exact absurd h hr
  · by_cases hr : (readDeed s).2 = 0
    · obtain ⟨h1, h2⟩ := deedText_read hr
      exact .inl ⟨_, h1, h2⟩
    · rw [if_neg hr] at h; exact absurd h hr
theorem okBody_entry {x : PEntry} (h : entryCheck x = 0) : OkBody (entryBody x) := by
  unfold entryCheck at h; unfold entryBody
  split
  · rename_i hm; rw [if_pos hm] at h; exact .inr ⟨_, (mapOk_iff _).1 h, rfl⟩
  · rename_i hm; rw [if_neg hm] at h; exact .inl ⟨_, h, rfl⟩
theorem readBody_entry {x : PEntry} (h : entryCheck x = 0) : readBody (entryBody x) = (bare2 x, 0) := by
  unfold entryCheck at h; unfold entryBody readBody bare2
  by_cases hm : x.isMap = true
  · rw [if_pos hm] at h
    have hr := read_mapText ((mapOk_iff _).1 h)
    simp only [if_pos hm]
    rw [if_pos (by rw [List.take_append_of_le_length (by simp [mapPre])]; simp [mapPre])]
    have : (mapPre ++ mapText x.map).drop 4 = mapText x.map := by simp [mapPre]
    rw [this, hr]; simp
  · rw [if_neg hm] at h
    have hr := read_deedText h
    simp only [if_neg hm]
    rw [if_neg, hr]
    · simp
    · intro h4
      have hb := big_deed h 32 (by
        rw [← List.take_append_drop 4 (deedText x.deed), h4]; simp [mapPre])
      simp at hb
theorem okBody_no10 {s : Bs} (h : OkBody s) : (10 : UInt8) ∉ s := by
  intro hm
  rcases h.shape with hb | ⟨r, rfl, hb⟩
  · have := hb _ hm; simp at this
  · rcases List.mem_append.1 hm with hm | hm
    · simp [mapPre] at hm
    · have := hb _ hm; simp at this
theorem itoa_no (n : Int) (c : UInt8) (hc : c.toNat ≤ 32) : c ∉ Lib.itoa n := fun h => by have := big_itoa n c h; omega
/-- An entry is read as it was written, and no more than its line. -/
theorem readEntry_text {x : PEntry} (h : entryCheck x = 0) (more : Bs) : readEntry (entryText x ++ more) = (bare2 x, ((entryText x).length : Int), 0) := by
  have hok := okBody_entry h
  have e : entryText x ++ more = (entryBody x ++ 32 :: Lib.itoa (sumV (entryBody x))) ++ 10 :: more := by
    rw [entryText, if_pos h, lineOf]; simp
  have e1 : cut1 10 (entryText x ++ more) = some (entryBody x ++ 32 :: Lib.itoa (sumV (entryBody x)), more) := by
    rw [e]
    refine cut1_mk _ _ ?_
    intro hm
    rcases List.mem_append.1 hm with hm | hm
    · exact okBody_no10 hok hm
    · rcases List.mem_cons.1 hm with hm | hm
      · simp at hm
      · exact itoa_no _ 10 (by decide) hm
  have e2 : readLine (entryBody x ++ 32 :: Lib.itoa (sumV (entryBody x))) = (bare2 x, 0) := by
    unfold readLine
    rw [cutLast_mk _ _ (itoa_no _ 32 (by decide))]
    simp only
    rw [numV_itoa _ (itoa_len (by omega) (by have := sumV_lt (entryBody x); omega))]
    simp only [if_true]
    exact readBody_entry h
  unfold readEntry
  rw [e1]
  simp only [e2, if_true]
  rw [entryText, if_pos h, lineOf]; simp; omega
/-- What is read has been written. -/
theorem readEntry_shape {t : Bs} (h : (readEntry t).2.2 = 0) : ∃ s r, OkBody s ∧ t = lineOf s ++ r := by
  unfold readEntry at h
  cases hc : cut1 10 t with
  | none => rw [hc] at h; simp at h
  | some x =>
    obtain ⟨line, r⟩ := x
    rw [hc] at h
    simp only at h
    obtain ⟨rfl, _⟩ := cut1_some hc
    by_cases hl : (readLine line).2 = 0
    · unfold readLine at hl
      cases hk : cutLast 32 line with
      | none => rw [hk] at hl; simp at hl
      | some y =>
        obtain ⟨s, num⟩ := y
        rw [hk] at hl
        simp only at hl
        obtain ⟨rfl, _⟩ := cutLast_some hk
        cases hn : numV num with
        | none => rw [hn] at hl; simp at hl
        | some n =>
          rw [hn] at hl
          simp only at hl
          by_cases hs : n = sumV s
          · rw [if_pos hs] at hl
            refine ⟨s, r, okBody_read hl, ?_⟩
            have := (numV_some hn).1
            rw [lineOf, ← hs, this]; simp
          · rw [if_neg hs] at hl; simp at hl
    · rw [if_neg hl] at h; exact absurd h hl

/- A CHANGED BYTE -/
theorem mark_in_deed {l : List POp} (h : deedCheck l = 0) : ∃ b ∈ deedText l, isMark b = true := by
  have hz := deedCheck_zero.1 h
  cases l with
  | nil => simp at hz
  | cons o r =>
    have hm : ∃ b ∈ opText o, isMark b = true := by
      unfold opText
      split
      · exact ⟨61, by simp, rfl⟩
      · split
        · exact ⟨43, by simp, rfl⟩
        · split
          · exact ⟨60, by simp, rfl⟩
          · split
            · exact ⟨63, by simp, rfl⟩
            · exact ⟨60, by simp, rfl⟩
    obtain ⟨b, hb, hmk⟩ := hm
    refine ⟨b, ?_, hmk⟩
    unfold deedText
    cases r with
    | nil => simpa [join1] using hb
    | cons o2 r => rw [List.map_cons, join1_cons 59 _ (by simp)]; simp [hb]
theorem not_map3 : ¬ OkBody [109, 97, 112] := by
  rintro (⟨l, h1, h2⟩ | ⟨p, h1, h2⟩)
  · obtain ⟨b, hb, hm⟩ := mark_in_deed h1
    rw [h2] at hb
    simp at hb
    rcases hb with rfl | rfl | rfl <;> simp [isMark] at hm
  · have := congrArg List.length h2; simp [mapPre] at this
theorem line_at_lt {s : Bs} {j : Nat} (hj : j < s.length) : (lineOf s)[j]? = s[j]? := by
  rw [lineOf, List.getElem?_append_left hj]
theorem line_at_len (s : Bs) : (lineOf s)[s.length]? = some 32 := by
  rw [lineOf, List.getElem?_append_right (Nat.le_refl _)]; simp
theorem line_len (s : Bs) : (lineOf s).length = s.length + (Lib.itoa (sumV s)).length + 2 := by simp [lineOf]; omega
theorem line_at_gt {s : Bs} {j : Nat} {b : UInt8} (hj : s.length < j) (h : (lineOf s)[j]? = some b) : (32 < b.toNat ∧ j < (lineOf s).length - 1) ∨ (b = 10 ∧ j = (lineOf s).length - 1) := by
  have hlt : j < (lineOf s).length := (List.getElem?_eq_some_iff.1 h).1
  rw [line_len] at hlt ⊢
  rw [lineOf, List.getElem?_append_right (by omega)] at h
  obtain ⟨k, rfl⟩ : ∃ k, j = s.length + 1 + k := ⟨j - s.length - 1, by omega⟩
  rw [show s.length + 1 + k - s.length = k + 1 from by omega, List.getElem?_cons_succ] at h
  by_cases hk : k < (Lib.itoa (sumV s)).length
  · rw [List.getElem?_append_left hk] at h
    left
    exact ⟨big_itoa _ b (List.mem_of_getElem? h), by omega⟩
  · rw [List.getElem?_append_right (by omega)] at h
    right
    have : k - (Lib.itoa (sumV s)).length = 0 := by omega
    rw [this] at h
    simp at h
    exact ⟨h.symm, by omega⟩
theorem line_last (s : Bs) : (lineOf s)[(lineOf s).length - 1]? = some 10 := by
  have h := line_len s
  have hlt : (lineOf s).length - 1 < (lineOf s).length := by omega
  have hs : s.length < (lineOf s).length - 1 := by
    have : 0 < (Lib.itoa (sumV s)).length := List.length_pos_iff.2 (itoa_ne _)
    omega
  obtain ⟨b, hb⟩ : ∃ b, (lineOf s)[(lineOf s).length - 1]? = some b := ⟨_, List.getElem?_eq_getElem hlt⟩
  rcases line_at_gt hs hb with ⟨_, h2⟩ | ⟨rfl, _⟩
  · omega
  · exact hb
/-- Where a space stands in a line. -/
theorem line_32 {s : Bs} (h : OkBody s) {j : Nat} (hj : (lineOf s)[j]? = some 32) : j = s.length ∨ (j = 3 ∧ 3 < s.length ∧ s.take 3 = [109, 97, 112]) := by
  by_cases h1 : j < s.length
  · rw [line_at_lt h1] at hj
    rcases h.shape with hb | ⟨r, rfl, hb⟩
    · have := hb 32 (List.mem_of_getElem? hj); simp at this
    · right
      by_cases h4 : j < 4
      · rw [List.getElem?_append_left (by simpa [mapPre] using h4)] at hj
        have : j = 0 ∨ j = 1 ∨ j = 2 ∨ j = 3 := by omega
        rcases this with rfl | rfl | rfl | rfl
        · simp [mapPre] at hj
        · simp [mapPre] at hj
        · simp [mapPre] at hj
        · exact ⟨rfl, h1, by simp [mapPre]⟩
      · rw [List.getElem?_append_right (by simp [mapPre]; omega)] at hj
        have := hb 32 (List.mem_of_getElem? hj); simp at this
  · by_cases h2 : j = s.length
    · exact .inl h2
    · rcases line_at_gt (by omega) hj with ⟨h3, _⟩ | ⟨h3, _⟩
      · simp at h3
      · simp at h3
theorem line_10 {s : Bs} (h : OkBody s) {j : Nat} (hj : (lineOf s)[j]? = some 10) : j = (lineOf s).length - 1 := by
  by_cases h1 : j < s.length
  · rw [line_at_lt h1] at hj
    exact absurd (List.mem_of_getElem? hj) (okBody_no10 h)
  · by_cases h2 : j = s.length
    · rw [h2, line_at_len] at hj; simp at hj
    · rcases line_at_gt (by omega) hj with ⟨h3, _⟩ | ⟨_, h3⟩
      · simp at h3
      · exact h3
theorem take_eq_of {a b : Bs} {k : Nat} (h : ∀ j, j < k → a[j]? = b[j]?) : a.take k = b.take k := by
  apply List.ext_getElem?
  intro j
  rw [List.getElem?_take, List.getElem?_take]
  split
  · exact h j ‹_›
  · rfl
theorem line_take {s : Bs} {k : Nat} (hk : k ≤ s.length) : (lineOf s).take k = s.take k := by
  rw [lineOf, List.take_append_of_le_length hk]
/-- A line one byte of which (not the last) is another one is no line, nor does it begin with one. -/
theorem changed_bad {s t : Bs} {i : Nat} (hs : OkBody s) (hi : i < (lineOf s).length - 1) (hlen : t.length = (lineOf s).length) (hsame : ∀ j, j ≠ i → t[j]? = (lineOf s)[j]?) (hdiff : t[i]? ≠ (lineOf s)[i]?) : ¬ (readEntry t).2.2 = 0 := by
  intro h0
  obtain ⟨s', r, hs', rfl⟩ := readEntry_shape h0
  by_cases hr : r = []
  · subst hr
    rw [List.append_nil] at hlen hsame hdiff
    by_cases hl : s'.length = s.length
    · by_cases he : s' = s
      · subst he; exact hdiff rfl
      · have hil : i < s.length := by
          by_cases hil : i < s.length
          · exact hil
          · exfalso
            apply he
            have := take_eq_of (a := lineOf s') (b := lineOf s) (k := s.length) (fun j hj => hsame j (by omega))
            rw [line_take (by omega), line_take (by omega)] at this
            rwa [List.take_of_length_le (by omega), List.take_of_length_le (by omega)] at this
        have hnum : Lib.itoa (sumV s') = Lib.itoa (sumV s) := by
          have h1 : (lineOf s').drop (s.length + 1) = (lineOf s).drop (s.length + 1) := by
            apply List.ext_getElem?
            intro j
            rw [List.getElem?_drop, List.getElem?_drop]
            exact hsame _ (by omega)
          have e : ∀ x : Bs, (lineOf x).drop (x.length + 1) = Lib.itoa (sumV x) ++ [10] := by
            intro x; rw [lineOf, List.drop_append]; simp
          rw [e s, ← hl, e s'] at h1
          exact (List.append_left_inj _).1 h1
        have hsum : sumV s' = sumV s := by
          have h1 := atoi_itoa (sumV s')
          rw [hnum, atoi_itoa] at h1
          simp at h1; omega
        have hx : s = s.take i ++ s[i] :: s.drop (i + 1) := by simp
        have hx' : s' = s.take i ++ s'[i]'(by omega) :: s.drop (i + 1) := by
          have e1 : s'.take i = s.take i := by
            have := take_eq_of (a := lineOf s') (b := lineOf s) (k := i) (fun j hj => hsame j (by omega))
            rwa [line_take (by omega), line_take (by omega)] at this
          have e2 : s'.drop (i + 1) = s.drop (i + 1) := by
            apply List.ext_getElem?
            intro j
            rw [List.getElem?_drop, List.getElem?_drop]
            by_cases hj : i + 1 + j < s.length
            · rw [← line_at_lt hj, ← line_at_lt (s := s') (by omega)]
              exact hsame _ (by omega)
            · rw [List.getElem?_eq_none (by omega), List.getElem?_eq_none (by omega)]
          rw [← e1, ← e2]; simp
        have hd := sum_differs (s.take i) (s.drop (i + 1)) (s'[i]'(by omega)) s[i] (by have := hs.len; simp; omega) (by rw [← hx, ← hx']; exact hsum)
        apply he
        rw [hx, hx', hd]
    · by_cases hi1 : i = s'.length
      · have h1 : (lineOf s')[s.length]? = some 32 := by rw [hsame _ (by omega), line_at_len]
        rcases line_32 hs' h1 with h2 | ⟨h2, h3, h4⟩
        · omega
        · have h5 := take_eq_of (a := lineOf s') (b := lineOf s) (k := 3) (fun j hj => hsame j (by omega))
          rw [line_take (by omega), line_take (by omega), h4, ← h2, List.take_of_length_le (Nat.le_refl _)] at h5
          exact not_map3 (h5 ▸ hs)
      · have h1 : (lineOf s)[s'.length]? = some 32 := by rw [← hsame _ (by omega), line_at_len]
        rcases line_32 hs h1 with h2 | ⟨h2, h3, h4⟩
        · omega
        · by_cases hi2 : i = s.length
          · have h5 := take_eq_of (a := lineOf s') (b := lineOf s) (k := 3) (fun j hj => hsame j (by omega))
            rw [line_take (by omega), line_take (by omega), h4, ← h2, List.take_of_length_le (Nat.le_refl _)] at h5
            exact not_map3 (h5 ▸ hs')
          · have h6 : (lineOf s')[s.length]? = some 32 := by rw [hsame _ (by omega), line_at_len]
            rcases line_32 hs' h6 with h7 | ⟨h7, _⟩
            · omega
            · omega
  · have hrl : 0 < r.length := List.length_pos_iff.2 hr
    have hll := line_len s'
    have hpos : 0 < (Lib.itoa (sumV s')).length := List.length_pos_iff.2 (itoa_ne _)
    rw [List.length_append] at hlen
    have hat : ∀ j, j < (lineOf s').length → (lineOf s' ++ r)[j]? = (lineOf s')[j]? := fun j hj => List.getElem?_append_left hj
    have hi' : i = (lineOf s').length - 1 := by
      by_cases hi' : i = (lineOf s').length - 1
      · exact hi'
      · exfalso
        have h1 := hsame ((lineOf s').length - 1) (fun e => hi' e.symm)
        rw [hat _ (by omega), line_last] at h1
        have := line_10 hs h1.symm
        omega
    have h1 : (lineOf s)[s'.length]? = some 32 := by
      rw [← hsame _ (by omega), hat _ (by omega), line_at_len]
    have htk : ∀ k, k ≤ s'.length → s'.take k = (lineOf s).take k := fun k hk => by
      have h5 := take_eq_of (a := lineOf s' ++ r) (b := lineOf s) (k := k) (fun j hj => hsame j (by omega))
      rwa [List.take_append_of_le_length (by omega), line_take hk] at h5
    rcases line_32 hs h1 with h2 | ⟨h2, h3, h4⟩
    · have h5 := htk s'.length (Nat.le_refl _)
      rw [List.take_of_length_le (Nat.le_refl _), h2, line_take (Nat.le_refl _), List.take_of_length_le (Nat.le_refl _)] at h5
      subst h5
      omega
    · have h5 := htk 3 (by omega)
      rw [line_take (by omega), h4, ← h2, List.take_of_length_le (Nat.le_refl _)] at h5
      exact not_map3 (h5 ▸ hs')
end Go.Proofs.YtdhfcelhgnjpcaaDoor
