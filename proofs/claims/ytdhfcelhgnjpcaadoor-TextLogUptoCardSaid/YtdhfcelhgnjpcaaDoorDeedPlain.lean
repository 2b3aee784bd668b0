/-
  Plain words on deeds: what may be, how it is written, how it is read. No program is named here.
-/
import Derived.Test.YtdhfcelhgnjpcaaDoorStr
namespace Go.Proofs.YtdhfcelhgnjpcaaDoor
open Go.RowKit

structure POp where
  kind : Int
  key : Str
  src : Str
  n : Int
theorem POp.ext' {a b : POp} (h1 : a.kind = b.kind) (h2 : a.key = b.key) (h3 : a.src = b.src) (h4 : a.n = b.n) : a = b := by
  cases a; cases b; simp_all
instance : DecidableEq POp := fun a b =>
  if h : a.kind = b.kind ∧ a.key = b.key ∧ a.src = b.src ∧ a.n = b.n then isTrue (POp.ext' h.1 h.2.1 h.2.2.1 h.2.2.2)
  else isFalse fun e => h (by subst e; exact ⟨rfl, rfl, rfl, rfl⟩)
/-- Its four cells. -/
def opCells (o : POp) : List Value := [.int .i64 o.kind, .string o.key, .string o.src, .int .i64 o.n]
def isValue (n : Int) : Bool := decide (-1000000000 ≤ n) && decide (n ≤ 1000000000)
/-- What deed.op answers. -/
def opCheck (o : POp) : Int :=
  if o.kind < 1 ∨ 5 < o.kind then 3
  else if isKey o.key = false then 3
  else if (o.kind = 3 ∨ o.kind = 5) ∧ (isKey o.src = false ∨ o.src = o.key) then 3
  else if ¬ o.kind = 3 ∧ isValue o.n = false then 1
  else if o.kind = 5 ∧ o.n < 0 then 1
  else 0
def firstBad : List POp → Int
  | [] => 0
  | o :: r => if opCheck o = 0 then firstBad r else opCheck o
/-- What deed.Check answers. -/
def deedCheck (l : List POp) : Int := if l.length = 0 ∨ 8 < l.length then 2 else firstBad l
theorem firstBad_zero : ∀ {l : List POp}, firstBad l = 0 ↔ ∀ o ∈ l, opCheck o = 0
  | [] => by simp [firstBad]
  | o :: r => by
    have ih := firstBad_zero (l := r)
    unfold firstBad
    by_cases h : opCheck o = 0
    · rw [if_pos h, ih]; simp [h]
    · rw [if_neg h]; simp [h]
theorem deedCheck_zero {l : List POp} : deedCheck l = 0 ↔ l.length ≠ 0 ∧ l.length ≤ 8 ∧ ∀ o ∈ l, opCheck o = 0 := by
  unfold deedCheck
  split
  · rename_i h; simp; intro h1 h2; rcases h with h | h
    · exact absurd h (by simpa using h1)
    · omega
  · rename_i h; rw [firstBad_zero]; constructor
    · intro h2; exact ⟨by omega, by omega, h2⟩
    · exact fun h2 => h2.2.2
structure OpOk (o : POp) : Prop where
  lo : 1 ≤ o.kind
  hi : o.kind ≤ 5
  key : isKey o.key = true
  src : o.kind = 3 ∨ o.kind = 5 → isKey o.src = true ∧ ¬ o.src = o.key
  val : ¬ o.kind = 3 → -1000000000 ≤ o.n ∧ o.n ≤ 1000000000
  pos : o.kind = 5 → 0 ≤ o.n
theorem opOk_iff {o : POp} : opCheck o = 0 ↔ OpOk o := by
  unfold opCheck
  constructor
  · intro h
    split at h
    · cases h
    · rename_i h1
      split at h
      · cases h
      · rename_i h2
        split at h
        · cases h
        · rename_i h3
          split at h
          · cases h
          · rename_i h4
            split at h
            · cases h
            · rename_i h5
              refine ⟨by omega, by omega, by simpa using h2, fun hk => ?_, fun hk => ?_, fun hk => ?_⟩
              · have : ¬ (isKey o.src = false ∨ o.src = o.key) := fun h => h3 ⟨hk, h⟩
                exact ⟨by by_cases hs : isKey o.src = true
                          · exact hs
                          · exact absurd (Or.inl (by simpa using hs)) this, fun h => this (Or.inr h)⟩
              · have : ¬ isValue o.n = false := fun h => h4 ⟨hk, h⟩
                simp [isValue] at this; omega
              · have : ¬ o.n < 0 := fun h => h5 ⟨hk, h⟩
                omega
  · intro h
    rw [if_neg (by have := h.lo; have := h.hi; omega), if_neg (by simp [h.key]), if_neg, if_neg, if_neg]
    · rintro ⟨hk, hn⟩; have := h.pos hk; omega
    · rintro ⟨hk, hv⟩; have := h.val hk; simp [isValue] at hv; omega
    · rintro ⟨hk, hs⟩
      have := h.src hk
      rcases hs with hs | hs
      · rw [this.1] at hs; cases hs
      · exact this.2 hs

/-- An operation as text. -/
def opText (o : POp) : Bs :=
  if o.kind = 1 then o.key.data.toList ++ 61 :: Lib.itoa o.n
  else if o.kind = 2 then o.key.data.toList ++ 43 :: Lib.itoa o.n
  else if o.kind = 3 then o.key.data.toList ++ 60 :: o.src.data.toList
  else if o.kind = 4 then o.key.data.toList ++ 63 :: Lib.itoa o.n
  else o.key.data.toList ++ 60 :: (o.src.data.toList ++ 42 :: Lib.itoa o.n)
def deedText (l : List POp) : Bs := join1 59 (l.map opText)
def deedTextE (l : List POp) : Bs := if deedCheck l = 0 then deedText l else []
/-- Without what its kind does not name. -/
def bare (o : POp) : POp := if o.kind = 3 then { o with n := 0 } else if o.kind = 5 then o else { o with src := noStr }

/-- The first byte of a word that is one of = + < ?: what stands ahead of it, it, what stands behind it. -/
def isMark (b : UInt8) : Bool := b == 61 || b == 43 || b == 60 || b == 63
def cutMark : Bs → Option (Bs × UInt8 × Bs)
  | [] => none
  | b :: r => if isMark b = true then some ([], b, r) else (cutMark r).map fun x => (b :: x.1, x.2)
def cutStar : Bs → Option (Bs × Bs)
  | [] => none
  | b :: r => if b = 42 then some ([], r) else (cutStar r).map fun x => (b :: x.1, x.2)
def rdOp (s : Bs) : Option POp := (cutMark s).bind fun x =>
  if x.2.1 = 61 then (numV x.2.2).map fun n => ⟨1, S x.1, noStr, n⟩
  else if x.2.1 = 43 then (numV x.2.2).map fun n => ⟨2, S x.1, noStr, n⟩
  else if x.2.1 = 63 then (numV x.2.2).map fun n => ⟨4, S x.1, noStr, n⟩
  else match cutStar x.2.2 with
    | none => some ⟨3, S x.1, S x.2.2, 0⟩
    | some y => (numV y.2).map fun n => ⟨5, S x.1, S y.1, n⟩
def rdOps : List Bs → Option (List POp)
  | [] => some []
  | w :: r => (rdOp w).bind fun o => (rdOps r).map fun l => o :: l
/-- What ReadDeed answers. -/
def readDeed (s : Bs) : List POp × Int := match rdOps (spl 59 s) with
  | none => ([], 9)
  | some l => if deedCheck l = 0 then (l, 0) else ([], deedCheck l)

theorem cutMark_some : ∀ {s a r : Bs} {c : UInt8}, cutMark s = some (a, c, r) → s = a ++ c :: r ∧ isMark c = true ∧ ∀ b ∈ a, isMark b = false
  | [], a, r, c, h => by cases h
  | b :: t, a, r, c, h => by
    unfold cutMark at h
    by_cases hb : isMark b = true
    · rw [if_pos hb] at h; cases h; exact ⟨rfl, hb, by simp⟩
    · rw [if_neg hb] at h
      cases ht : cutMark t with
      | none => rw [ht] at h; cases h
      | some x =>
        obtain ⟨a', c', r'⟩ := x
        rw [ht] at h; cases h
        obtain ⟨h1, h2, h3⟩ := cutMark_some ht
        refine ⟨by rw [h1]; rfl, h2, fun y hy => ?_⟩
        rcases List.mem_cons.1 hy with rfl | hy
        · simpa using hb
        · exact h3 y hy
theorem cutMark_mk : ∀ (a r : Bs) (c : UInt8), isMark c = true → (∀ b ∈ a, isMark b = false) → cutMark (a ++ c :: r) = some (a, c, r)
  | [], r, c, hc, _ => by simp [cutMark, hc]
  | b :: a, r, c, hc, ha => by
    have ih := cutMark_mk a r c hc (fun y hy => ha y (by simp [hy]))
    have hb := ha b (by simp)
    simp [cutMark, hb, ih]
theorem cutStar_some : ∀ {s a r : Bs}, cutStar s = some (a, r) → s = a ++ 42 :: r
  | [], a, r, h => by cases h
  | b :: t, a, r, h => by
    unfold cutStar at h
    by_cases hb : b = 42
    · rw [if_pos hb] at h; cases h; rw [hb]; rfl
    · rw [if_neg hb] at h
      cases ht : cutStar t with
      | none => rw [ht] at h; cases h
      | some x =>
        obtain ⟨a', r'⟩ := x
        rw [ht] at h; cases h
        rw [cutStar_some ht]; rfl
theorem cutStar_mk : ∀ (a r : Bs), (42 : UInt8) ∉ a → cutStar (a ++ 42 :: r) = some (a, r)
  | [], r, _ => by simp [cutStar]
  | b :: a, r, ha => by
    have ih := cutStar_mk a r (fun h => ha (by simp [h]))
    have hb : ¬ b = 42 := fun h => ha (by simp [h])
    simp [cutStar, hb, ih]
theorem cutStar_none : ∀ (a : Bs), (42 : UInt8) ∉ a → cutStar a = none
  | [], _ => rfl
  | b :: a, ha => by
    have ih := cutStar_none a (fun h => ha (by simp [h]))
    have hb : ¬ b = 42 := fun h => ha (by simp [h])
    simp [cutStar, hb, ih]
theorem isKey_lower {s : Str} (h : isKey s = true) : ∀ b ∈ s.data.toList, 97 ≤ b.toNat ∧ b.toNat ≤ 122 := by
  intro b hb
  simp only [isKey, keyL, Bool.and_eq_true, List.all_eq_true] at h
  have := h.2 b hb
  simpa [lowerB] using this
theorem lower_noMark {b : UInt8} (h : 97 ≤ b.toNat ∧ b.toNat ≤ 122) : isMark b = false ∧ ¬ b = 42 ∧ ¬ b = 59 := by
  refine ⟨?_, ?_, ?_⟩
  · cases hm : isMark b with
    | false => rfl
    | true =>
      simp only [isMark, Bool.or_eq_true, beq_iff_eq] at hm
      rcases hm with ((rfl | rfl) | rfl) | rfl <;> simp at h
  · rintro rfl; simp at h
  · rintro rfl; simp at h
theorem numeral_no {n : Int} : (42 : UInt8) ∉ Lib.itoa n ∧ (59 : UInt8) ∉ Lib.itoa n := by
  constructor <;> intro h <;> have := itoa_bytes n _ h <;> simp at this

/-- What is written of an operation that may be is read as it, without what its kind does not name. -/
theorem rdOp_text {o : POp} (h : OpOk o) : rdOp (opText o) = some (bare o) ∧ (59 : UInt8) ∉ opText o := by
  have hkl := isKey_lower h.key
  have hkm : ∀ b ∈ o.key.data.toList, isMark b = false := fun b hb => (lower_noMark (hkl b hb)).1
  have hks : (59 : UInt8) ∉ o.key.data.toList := fun hb => (lower_noMark (hkl _ hb)).2.2 rfl
  have hlo := h.lo
  have hhi := h.hi
  have hnum : ¬ o.kind = 3 → numV (Lib.itoa o.n) = some o.n := fun hk => numV_itoa o.n (itoa_len (h.val hk).1 (h.val hk).2)
  have hno := (numeral_no (n := o.n)).2
  have hS : S o.key.data.toList = o.key := S_eta o.key
  have hcase : o.kind = 1 ∨ o.kind = 2 ∨ o.kind = 3 ∨ o.kind = 4 ∨ o.kind = 5 := by omega
  obtain ⟨kind, key, src, n⟩ := o
  simp only at *
  rcases hcase with rfl | rfl | rfl | rfl | rfl
  · refine ⟨?_, by simp [opText, hks, hno]⟩
    simp [opText, rdOp, bare, cutMark_mk _ _ 61 rfl hkm, hnum (by decide), hS]
  · refine ⟨?_, by simp [opText, hks, hno]⟩
    simp [opText, rdOp, bare, cutMark_mk _ _ 43 rfl hkm, hnum (by decide), hS]
  · have hsl := isKey_lower (h.src (.inl rfl)).1
    have hss : (59 : UInt8) ∉ src.data.toList := fun hb => (lower_noMark (hsl _ hb)).2.2 rfl
    have hst : (42 : UInt8) ∉ src.data.toList := fun hb => (lower_noMark (hsl _ hb)).2.1 rfl
    refine ⟨?_, by simp [opText, hks, hss]⟩
    simp [opText, rdOp, bare, cutMark_mk _ _ 60 rfl hkm, cutStar_none _ hst, hS, S_eta]
  · refine ⟨?_, by simp [opText, hks, hno]⟩
    simp [opText, rdOp, bare, cutMark_mk _ _ 63 rfl hkm, hnum (by decide), hS]
  · have hsl := isKey_lower (h.src (.inr rfl)).1
    have hss : (59 : UInt8) ∉ src.data.toList := fun hb => (lower_noMark (hsl _ hb)).2.2 rfl
    have hst : (42 : UInt8) ∉ src.data.toList := fun hb => (lower_noMark (hsl _ hb)).2.1 rfl
    refine ⟨?_, by simp [opText, hks, hss, hno]⟩
    simp [opText, rdOp, bare, cutMark_mk _ _ 60 rfl hkm, cutStar_mk _ _ hst, hnum (by decide), hS, S_eta]
theorem text_rdOp {w : Bs} {o : POp} (h : rdOp w = some o) : opText o = w := by
  unfold rdOp at h
  cases hc : cutMark w with
  | none => rw [hc] at h; cases h
  | some x =>
    obtain ⟨a, c, r⟩ := x
    rw [hc] at h
    obtain ⟨rfl, hm, _⟩ := cutMark_some hc
    simp only [Option.bind_some] at h
    split at h
    · rename_i h1
      subst h1
      cases hn : numV r with
      | none => rw [hn] at h; cases h
      | some n =>
        rw [hn] at h; cases h
        simp [opText, S_bytes, (numV_some hn).1]
    · split at h
      · rename_i _ h1
        subst h1
        cases hn : numV r with
        | none => rw [hn] at h; cases h
        | some n =>
          rw [hn] at h; cases h
          simp [opText, S_bytes, (numV_some hn).1]
      · split at h
        · rename_i _ _ h1
          subst h1
          cases hn : numV r with
          | none => rw [hn] at h; cases h
          | some n =>
            rw [hn] at h; cases h
            simp [opText, S_bytes, (numV_some hn).1]
        · rename_i h1 h2 h3
          have hc60 : c = 60 := by
            simp only [isMark, Bool.or_eq_true, beq_iff_eq] at hm
            rcases hm with ((hm | hm) | hm) | hm
            · exact absurd hm h1
            · exact absurd hm h2
            · exact hm
            · exact absurd hm h3
          subst hc60
          cases hs : cutStar r with
          | none => rw [hs] at h; cases h; simp [opText, S_bytes]
          | some y =>
            obtain ⟨f, t⟩ := y
            rw [hs] at h
            simp only at h
            cases hn : numV t with
            | none => rw [hn] at h; cases h
            | some n =>
              rw [hn] at h; cases h
              rw [cutStar_some hs]
              simp [opText, S_bytes, (numV_some hn).1]
theorem rdOps_text : ∀ (l : List POp), (∀ o ∈ l, OpOk o) → rdOps (l.map opText) = some (l.map bare)
  | [], _ => rfl
  | o :: r, h => by
    have ih := rdOps_text r (fun x hx => h x (by simp [hx]))
    simp [rdOps, (rdOp_text (h o (by simp))).1, ih]
theorem text_rdOps : ∀ {ws : List Bs} {l : List POp}, rdOps ws = some l → l.map opText = ws
  | [], l, h => by cases h; rfl
  | w :: r, l, h => by
    unfold rdOps at h
    cases ho : rdOp w with
    | none => rw [ho] at h; cases h
    | some o =>
      rw [ho] at h
      cases hr : rdOps r with
      | none => rw [hr] at h; cases h
      | some t =>
        rw [hr] at h; cases h
        simp [text_rdOp ho, text_rdOps hr]
theorem bare_ok {o : POp} (h : OpOk o) : OpOk (bare o) := by
  unfold bare
  split
  · rename_i hk
    exact ⟨h.lo, h.hi, h.key, h.src, fun h3 => absurd hk h3, fun h5 => by simp at h5; omega⟩
  · split
    · exact h
    · rename_i h3 h5
      exact ⟨h.lo, h.hi, h.key, fun hk => by simp at hk; omega, h.val, h.pos⟩
theorem bare_text {o : POp} (h : OpOk o) : opText (bare o) = opText o := text_rdOp (rdOp_text h).1
theorem all_ok {l : List POp} (h : deedCheck l = 0) : ∀ o ∈ l, OpOk o := fun o ho => opOk_iff.1 ((deedCheck_zero.1 h).2.2 o ho)
theorem bare_check {l : List POp} (h : deedCheck l = 0) : deedCheck (l.map bare) = 0 := by
  have h1 := deedCheck_zero.1 h
  refine deedCheck_zero.2 ⟨by simpa using h1.1, by simpa using h1.2.1, fun o ho => ?_⟩
  obtain ⟨x, hx, rfl⟩ := List.mem_map.1 ho
  exact opOk_iff.2 (bare_ok (opOk_iff.1 (h1.2.2 x hx)))
/-- A deed is read as it was written. -/
theorem read_deedText {l : List POp} (h : deedCheck l = 0) : readDeed (deedText l) = (l.map bare, 0) := by
  have hok := all_ok h
  have hne : l.map opText ≠ [] := by have := (deedCheck_zero.1 h).1; intro h0; simp at h0; subst h0; simp at this
  unfold readDeed deedText
  rw [spl_join 59 _ hne (fun w hw => by obtain ⟨o, ho, rfl⟩ := List.mem_map.1 hw; exact (rdOp_text (hok o ho)).2), rdOps_text l hok]
  simp only [bare_check h, if_true]
/-- A text is written as it was read. -/
theorem deedText_read {s : Bs} (h : (readDeed s).2 = 0) : deedCheck (readDeed s).1 = 0 ∧ deedText (readDeed s).1 = s := by
  unfold readDeed at h ⊢
  cases hr : rdOps (spl 59 s) with
  | none => rw [hr] at h; simp at h
  | some l =>
    rw [hr] at h
    simp only at h ⊢
    by_cases hc : deedCheck l = 0
    · rw [if_pos hc] at h ⊢
      refine ⟨hc, ?_⟩
      unfold deedText
      rw [text_rdOps hr, join_spl]
    · rw [if_neg hc] at h; exact absurd h hc
theorem readDeed_bad {s : Bs} (h : ¬ (readDeed s).2 = 0) : (readDeed s).1 = [] := by
  unfold readDeed at h ⊢
  split
  · rfl
  · split
    · rename_i h1 h2; simp [h1, h2] at h
    · rfl
/-- Of two deeds there is one text just if they are the same, without what their kinds do not name. -/
theorem deedText_eq {a b : List POp} (ha : deedCheck a = 0) (hb : deedCheck b = 0) : deedText a = deedText b ↔ a.map bare = b.map bare := by
  constructor
  · intro h
    have h1 := read_deedText ha
    rw [h, read_deedText hb] at h1
    exact (congrArg Prod.fst h1).symm
  · intro h
    have key : ∀ {l : List POp}, deedCheck l = 0 → deedText (l.map bare) = deedText l := fun {l} hl => by
      unfold deedText
      rw [List.map_map]
      congr 1
      exact List.map_congr_left fun o ho => bare_text (all_ok hl o ho)
    rw [← key ha, ← key hb, h]
theorem isKey_size6 {s : Str} (h : isKey s = true) : s.data.toList.length ≤ 6 := by
  by_cases h6 : 6 < s.size
  · rw [isKey_long h6] at h; cases h
  · have : s.data.toList.length = s.size := rfl
    omega
theorem opText_len {o : POp} (h : OpOk o) : (opText o).length ≤ 25 := by
  have hk : o.key.data.toList.length ≤ 6 := isKey_size6 h.key
  have hn : ¬ o.kind = 3 → (Lib.itoa o.n).length ≤ 11 := fun hk => itoa_len (h.val hk).1 (h.val hk).2
  have hs : o.kind = 3 ∨ o.kind = 5 → o.src.data.toList.length ≤ 6 := fun hk => isKey_size6 (h.src hk).1
  have hlo := h.lo; have hhi := h.hi
  unfold opText
  split
  · have := hn (by omega); simp only [List.length_append, List.length_cons]; omega
  · split
    · have := hn (by omega); simp only [List.length_append, List.length_cons]; omega
    · split
      · have := hs (by omega); simp only [List.length_append, List.length_cons]; omega
      · split
        · have := hn (by omega); simp only [List.length_append, List.length_cons]; omega
        · have := hn (by omega); have := hs (by omega); simp only [List.length_append, List.length_cons]; omega
theorem join1_len (c : UInt8) : ∀ ws : List Bs, (∀ w ∈ ws, w.length ≤ 25) → (join1 c ws).length ≤ 26 * ws.length
  | [], _ => by simp [join1]
  | [a], h => by have := h a (by simp); simp [join1]; omega
  | a :: b :: r, h => by
    have ih := join1_len c (b :: r) (fun w hw => h w (by simp [hw]))
    have := h a (by simp)
    simp only [join1, List.length_append, List.length_cons] at ih ⊢; omega
theorem deedText_len {l : List POp} (h : deedCheck l = 0) : (deedText l).length ≤ 208 := by
  have h1 := join1_len 59 (l.map opText) (fun w hw => by obtain ⟨o, ho, rfl⟩ := List.mem_map.1 hw; exact opText_len (all_ok h o ho))
  have h2 := (deedCheck_zero.1 h).2.1
  unfold deedText
  simp only [List.length_map] at h1; omega
end Go.Proofs.YtdhfcelhgnjpcaaDoor
