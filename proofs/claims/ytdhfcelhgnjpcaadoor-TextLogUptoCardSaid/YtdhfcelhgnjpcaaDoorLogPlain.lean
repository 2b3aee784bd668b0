/-
  Plain words on logs: what is read of a text, line by line; a log that is written is read; cut off it yields its whole lines. No program is named here.
-/
import Derived.Test.YtdhfcelhgnjpcaaDoorCutIdx
namespace Go.Proofs.YtdhfcelhgnjpcaaDoor
open Go.RowKit

/-- What Log answers of a text: the entries, how much is used, the error. -/
def logFrom : Nat → Bs → List PEntry × Int × Int
  | 0, _ => ([], 0, 0)
  | f + 1, s => if s = [] then ([], 0, 0) else if (readEntry s).2.2 = 7 then ([], 0, 0) else if (readEntry s).2.2 ≠ 0 then ([], 0, (readEntry s).2.2) else
    if (logFrom f (s.drop (readEntry s).2.1.toNat)).2.2 ≠ 0 then ([], 0, (logFrom f (s.drop (readEntry s).2.1.toNat)).2.2)
    else ((readEntry s).1 :: (logFrom f (s.drop (readEntry s).2.1.toNat)).1, (readEntry s).2.1 + (logFrom f (s.drop (readEntry s).2.1.toNat)).2.1, 0)
def logV (s : Bs) : List PEntry × Int × Int := if 20000 < s.length then ([], 0, 2) else logFrom (s.length + 1) s
/-- What stands ahead of what is read later. -/
def ahead (xs : List PEntry) (u : Int) (q : List PEntry × Int × Int) : List PEntry × Int × Int := if q.2.2 ≠ 0 then ([], 0, q.2.2) else (xs ++ q.1, u + q.2.1, 0)
theorem readEntry_used {s : Bs} (h : (readEntry s).2.2 = 0) : ∃ l r, s = l ++ 10 :: r ∧ (readEntry s).2.1 = (l.length : Int) + 1 := by
  unfold readEntry at h ⊢
  cases hc : cut1 10 s with
  | none => rw [hc] at h; simp at h
  | some x =>
    obtain ⟨l, r⟩ := x
    rw [hc] at h
    simp only at h ⊢
    by_cases hl : (readLine l).2 = 0
    · rw [if_pos hl]; exact ⟨l, r, (cut1_some hc).1, rfl⟩
    · rw [if_neg hl] at h; exact absurd h hl
theorem logFrom_bad : ∀ {f : Nat} {s : Bs}, ¬ (logFrom f s).2.2 = 0 → logFrom f s = ([], 0, (logFrom f s).2.2)
  | 0, s, h => absurd rfl h
  | f + 1, s, h => by
    by_cases h1 : s = []
    · rw [logFrom, if_pos h1] at h; exact absurd rfl h
    · by_cases h2 : (readEntry s).2.2 = 7
      · rw [logFrom, if_neg h1, if_pos h2] at h; exact absurd rfl h
      · by_cases h3 : (readEntry s).2.2 ≠ 0
        · rw [logFrom, if_neg h1, if_neg h2, if_pos h3]
        · by_cases h4 : (logFrom f (s.drop (readEntry s).2.1.toNat)).2.2 ≠ 0
          · rw [logFrom, if_neg h1, if_neg h2, if_neg h3, if_pos h4]
          · rw [logFrom, if_neg h1, if_neg h2, if_neg h3, if_neg h4] at h; exact absurd rfl h
/-- How far a reader of a log has come. -/
def LogSt (s : Bs) (u : Nat) (xs : List PEntry) : Prop := u ≤ s.length ∧ ∃ f, s.length - u < f ∧ logFrom (s.length + 1) s = ahead xs u (logFrom f (s.drop u))
theorem logSt_start (s : Bs) : LogSt s 0 [] := by
  refine ⟨Nat.zero_le _, s.length + 1, by omega, ?_⟩
  unfold ahead
  simp only [List.drop_zero, List.nil_append]
  by_cases h : (logFrom (s.length + 1) s).2.2 = 0
  · rw [if_neg (by simpa using h)]
    refine Prod.ext rfl (Prod.ext ?_ h)
    simp
  · rw [if_pos h]
    exact logFrom_bad h
theorem logSt_end {s : Bs} {u : Nat} {xs : List PEntry} (h : LogSt s u xs) (hu : u = s.length) : logFrom (s.length + 1) s = (xs, (u : Int), 0) := by
  obtain ⟨_, f, hf, he⟩ := h
  obtain ⟨g, rfl⟩ : ∃ g, f = g + 1 := ⟨f - 1, by omega⟩
  rw [he, List.drop_of_length_le (by omega)]
  simp [logFrom, ahead]
theorem logSt_short {s : Bs} {u : Nat} {xs : List PEntry} (h : LogSt s u xs) (hu : u < s.length) (h7 : (readEntry (s.drop u)).2.2 = 7) : logFrom (s.length + 1) s = (xs, (u : Int), 0) := by
  obtain ⟨_, f, hf, he⟩ := h
  obtain ⟨g, rfl⟩ : ∃ g, f = g + 1 := ⟨f - 1, by omega⟩
  have hne : ¬ s.drop u = [] := fun e => by have := congrArg List.length e; simp at this; omega
  rw [he]
  simp [logFrom, ahead, hne, h7]
theorem logSt_bad {s : Bs} {u : Nat} {xs : List PEntry} (h : LogSt s u xs) (hu : u < s.length) (h7 : ¬ (readEntry (s.drop u)).2.2 = 7) (h0 : ¬ (readEntry (s.drop u)).2.2 = 0) : logFrom (s.length + 1) s = ([], 0, (readEntry (s.drop u)).2.2) := by
  obtain ⟨_, f, hf, he⟩ := h
  obtain ⟨g, rfl⟩ : ∃ g, f = g + 1 := ⟨f - 1, by omega⟩
  have hne : ¬ s.drop u = [] := fun e => by have := congrArg List.length e; simp at this; omega
  rw [he]
  simp [logFrom, ahead, hne, h7, h0]
theorem logSt_next {s : Bs} {u : Nat} {xs : List PEntry} (h : LogSt s u xs) (hu : u < s.length) (h0 : (readEntry (s.drop u)).2.2 = 0) : LogSt s (u + (readEntry (s.drop u)).2.1.toNat) (xs ++ [(readEntry (s.drop u)).1]) ∧ 1 ≤ (readEntry (s.drop u)).2.1 ∧ u + (readEntry (s.drop u)).2.1.toNat ≤ s.length := by
  obtain ⟨_, f, hf, he⟩ := h
  obtain ⟨g, rfl⟩ : ∃ g, f = g + 1 := ⟨f - 1, by omega⟩
  have hne : ¬ s.drop u = [] := fun e => by have := congrArg List.length e; simp at this; omega
  obtain ⟨l, r, hs, hl⟩ := readEntry_used h0
  have hlen : s.length - u = l.length + 1 + r.length := by have := congrArg List.length hs; simp at this; omega
  have hn : (readEntry (s.drop u)).2.1.toNat = l.length + 1 := by omega
  have h7 : ¬ (readEntry (s.drop u)).2.2 = 7 := by rw [h0]; decide
  refine ⟨⟨by omega, g, by omega, ?_⟩, by omega, by omega⟩
  rw [he, hn]
  conv => lhs; rw [logFrom]
  rw [if_neg hne, if_neg h7, if_neg (by rw [h0]; decide), hn, List.drop_drop]
  unfold ahead
  by_cases hq : (logFrom g (s.drop (u + (l.length + 1)))).2.2 ≠ 0
  · rw [if_pos hq, if_pos hq]; simp [hq]
  · rw [if_neg hq, if_neg hq]
    simp only [ne_eq, not_true_eq_false, if_false, List.append_assoc, List.cons_append, List.nil_append, hl, Prod.mk.injEq, true_and, and_true]
    push_cast; omega

/- A LOG THAT IS WRITTEN -/
def texts (xs : List PEntry) : Bs := (xs.map entryText).flatten
theorem texts_cons (x : PEntry) (xs : List PEntry) : texts (x :: xs) = entryText x ++ texts xs := by simp [texts]
theorem texts_snoc (x : PEntry) (xs : List PEntry) : texts (xs ++ [x]) = texts xs ++ entryText x := by simp [texts]
theorem read_short {s : Bs} (h : (10 : UInt8) ∉ s) : (readEntry s).2.2 = 7 := by unfold readEntry; rw [cut1_none s h]
theorem logFrom_texts : ∀ (xs : List PEntry) (r : Bs) (f : Nat), (∀ x ∈ xs, entryCheck x = 0) → (10 : UInt8) ∉ r → (texts xs ++ r).length < f → logFrom f (texts xs ++ r) = (xs.map bare2, ((texts xs).length : Int), 0)
  | [], r, f, _, hr, hf => by
    obtain ⟨g, rfl⟩ : ∃ g, f = g + 1 := ⟨f - 1, by omega⟩
    simp only [texts, List.map_nil, List.flatten_nil, List.nil_append, List.length_nil]
    unfold logFrom
    split
    · rfl
    · rw [if_pos (read_short hr)]; rfl
  | x :: xs, r, f, hx, hr, hf => by
    obtain ⟨g, rfl⟩ : ∃ g, f = g + 1 := ⟨f - 1, by omega⟩
    have h0 := hx x (by simp)
    have e : texts (x :: xs) ++ r = entryText x ++ (texts xs ++ r) := by rw [texts_cons, List.append_assoc]
    have hre := readEntry_text h0 (texts xs ++ r)
    have hpos : 0 < (entryText x).length := by rw [entryText, if_pos h0, line_len]; omega
    rw [e] at hf ⊢
    rw [List.length_append] at hf
    have hlt : (texts xs ++ r).length < g := by omega
    have ih := logFrom_texts xs r g (fun y hy => hx y (by simp [hy])) hr hlt
    have hne : ¬ entryText x ++ (texts xs ++ r) = [] := fun e => by have h1 := congrArg List.length e; rw [List.length_append, List.length_nil] at h1; omega
    have hd : (entryText x ++ (texts xs ++ r)).drop (entryText x).length = texts xs ++ r := by simp
    rw [logFrom, if_neg hne, hre]
    simp only [Int.toNat_natCast, hd, ih]
    simp [texts_cons]
theorem logV_texts {xs : List PEntry} {r : Bs} (hx : ∀ x ∈ xs, entryCheck x = 0) (hr : (10 : UInt8) ∉ r) (hl : (texts xs ++ r).length ≤ 20000) : logV (texts xs ++ r) = (xs.map bare2, ((texts xs).length : Int), 0) := by
  rw [logV, if_neg (by omega)]
  exact logFrom_texts xs r _ hx hr (by omega)
theorem line_no10 {x : PEntry} (h : entryCheck x = 0) {c : Nat} (hc : c < (entryText x).length) : (10 : UInt8) ∉ (entryText x).take c := by
  rw [entryText, if_pos h] at hc ⊢
  intro hm
  obtain ⟨j, hj, he⟩ := List.getElem_of_mem hm
  have h1 : ((lineOf (entryBody x)).take c)[j]? = some 10 := by rw [List.getElem?_eq_getElem hj, he]
  rw [List.getElem?_take] at h1
  split at h1
  · have := line_10 (okBody_entry h) h1; omega
  · cases h1
theorem texts_cut : ∀ (xs : List PEntry) (c : Nat), (∀ x ∈ xs, entryCheck x = 0) → ∃ j r, j ≤ xs.length ∧ (10 : UInt8) ∉ r ∧ (texts xs).take c = texts (xs.take j) ++ r
  | [], c, _ => ⟨0, [], by simp, by simp, by simp [texts]⟩
  | x :: xs, c, hx => by
    by_cases hc : c < (entryText x).length
    · refine ⟨0, (entryText x).take c, by simp, line_no10 (hx x (by simp)) hc, ?_⟩
      rw [texts_cons, List.take_append_of_le_length (by omega)]
      simp [texts]
    · obtain ⟨j, r, h1, h2, h3⟩ := texts_cut xs (c - (entryText x).length) (fun y hy => hx y (by simp [hy]))
      refine ⟨j + 1, r, by simp; omega, h2, ?_⟩
      rw [texts_cons, List.take_append, h3, List.take_of_length_le (by omega), List.take_succ_cons, texts_cons, List.append_assoc]
theorem count_line {x : PEntry} (h : entryCheck x = 0) : (entryText x).count 10 = 1 := by
  have h1 := line_no10 h (c := (entryText x).length - 1) (by
    have : 0 < (entryText x).length := by rw [entryText, if_pos h, line_len]; omega
    omega)
  have e : entryText x = (entryText x).take ((entryText x).length - 1) ++ [10] := by
    rw [entryText, if_pos h, lineOf]
    have : (entryBody x ++ 32 :: (Lib.itoa (sumV (entryBody x)) ++ [10])) = (entryBody x ++ 32 :: Lib.itoa (sumV (entryBody x))) ++ [10] := by simp
    rw [this]
    generalize entryBody x ++ 32 :: Lib.itoa (sumV (entryBody x)) = A
    simp
  rw [e, List.count_append, List.count_eq_zero.2 h1]
  simp
theorem count_texts : ∀ (xs : List PEntry) (r : Bs), (∀ x ∈ xs, entryCheck x = 0) → (10 : UInt8) ∉ r → (texts xs ++ r).count 10 = xs.length
  | [], r, _, hr => by simp only [texts, List.map_nil, List.flatten_nil, List.nil_append, List.length_nil]; exact List.count_eq_zero.2 hr
  | x :: xs, r, hx, hr => by
    have ih := count_texts xs r (fun y hy => hx y (by simp [hy])) hr
    rw [texts_cons, List.append_assoc, List.count_append, ih, count_line (hx x (by simp)), List.length_cons]; omega
theorem body_len' {x : PEntry} (h : entryCheck x = 0) : (entryBody x).length < 250 := (okBody_entry h).len
theorem texts_len : ∀ (xs : List PEntry), (∀ x ∈ xs, entryCheck x = 0) → (texts xs).length ≤ 263 * xs.length
  | [], _ => by simp [texts]
  | x :: xs, hx => by
    have ih := texts_len xs (fun y hy => hx y (by simp [hy]))
    have h0 := hx x (by simp)
    have h1 := body_len' h0
    have h2 := itoa_len (n := sumV (entryBody x)) (by omega) (by have := sumV_lt (entryBody x); omega)
    rw [texts_cons, List.length_append, entryText, if_pos h0, line_len, List.length_cons]; omega
end Go.Proofs.YtdhfcelhgnjpcaaDoor
