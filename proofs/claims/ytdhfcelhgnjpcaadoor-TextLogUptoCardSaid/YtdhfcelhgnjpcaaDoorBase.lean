/-
  Plain words and facts that all walks of this seat share: no program is named here. What a slice value holds in a world (Sl), what a key is, how strings are ordered.
-/
import Derived.WalkKit
import Derived.WalkLawsBesides
import Derived.WalkSpells
import Derived.Lib.Hide
namespace Go.Proofs.YtdhfcelhgnjpcaaDoor
open Go.RowKit

/-- The slice `.slice ao n c` of elements of `size` cells holds the cells xs in w. -/
structure Sl (w : World) (size : Nat) (ao : Option Addr) (n c : Nat) (xs : List Value) : Prop where
  len : xs.length = n * size
  le : n ≤ c
  nil : ao = none → c = 0
  cell : ∀ j u, xs[j]? = some u → ∃ b off, ao = some ⟨b, off, none⟩ ∧ w.cell? ⟨b, off + j, none⟩ = some u

theorem Sl.mono {w w' : World} {size : Nat} {ao : Option Addr} {n c : Nat} {xs : List Value} (h : Sl w size ao n c xs)
    (hb : ∀ p : Addr, p.block < w.heap.size → w'.cell? p = w.cell? p) : Sl w' size ao n c xs :=
  ⟨h.len, h.le, h.nil, fun j u hu => by
    obtain ⟨b, off, h1, h2⟩ := h.cell j u hu
    exact ⟨b, off, h1, (hb ⟨b, off + j, none⟩ (World.block_lt_of_cell? w _ h2)).trans h2⟩⟩

theorem Sl.below {w w' : World} {size : Nat} {ao : Option Addr} {n c : Nat} {xs : List Value} (h : Sl w size ao n c xs)
    (hb : Below w.heap.size w w') : Sl w' size ao n c xs := h.mono fun _ hp => hb.cell hp

theorem Sl.drew {w : World} {size : Nat} {ao : Option Addr} {n c : Nat} {xs : List Value} (h : Sl w size ao n c xs) : Sl w.drew size ao n c xs :=
  ⟨h.len, h.le, h.nil, fun j u hu => h.cell j u hu⟩

/-- What is owned holds what it says. -/
theorem Sl.of_owns {w : World} {base : Nat} {e : TypeId} {size : Nat} {v : Value} {n : Nat} {xs : List Value} (h : w.ownsRow base e size v n xs) :
    ∃ ao c, v = .slice ao n c ∧ Sl w size ao n c xs := by
  obtain ⟨h1, h2⟩ := h
  rcases h2 with ⟨rfl, rfl⟩ | ⟨g, cap, cur, rfl, hb, hg, hnc, hcm, hcs, htake⟩
  · refine ⟨none, 0, rfl, h1, Nat.le_refl _, fun _ => rfl, fun j u hu => ?_⟩
    have : xs = [] := List.eq_nil_of_length_eq_zero (by simpa using h1)
    subst this; simp at hu
  · refine ⟨_, cap, rfl, h1, hnc, (fun h => nomatch h), fun j u hu => ⟨g, 0, rfl, ?_⟩⟩
    rw [Nat.zero_add, cell_of_row w g j cur e (0, 0) hg]
    rw [← htake, List.getElem?_take] at hu
    split at hu
    · simpa using hu
    · cases hu

theorem below_alloc (w : World) (o : Obj) : Below w.heap.size w (w.alloc o) := (Below.refl _ _).alloc (Nat.le_refl _) o

/-- From a step's own bound to the bound of the beginning. -/
theorem below_more {B : Nat} {a b c : World} (h : Below B a b) (k : Below b.heap.size b c) (hB : B ≤ a.heap.size) : Below B a c :=
  h.trans (k.mono (Nat.le_trans hB h.size))

theorem ret_int {k : IntKind} {a b : Int} (h : a = b) : Ending.returned (.int k a) = .returned (.int k b) := by rw [h]
theorem ret_bool {a b : Bool} (h : a = b) : Ending.returned (.bool a) = .returned (.bool b) := by rw [h]

/-- What is known of old memory behind a call, in the form that the walk takes. -/
theorem bcell {W w1 : World} (hb : Below W.heap.size W w1) : (∀ b o, b < W.heap.size → w1.cell? ⟨b, o, none⟩ = W.cell? ⟨b, o, none⟩) ∧ (∀ b o, b < W.heap.size → w1.frozen? ⟨b, o, none⟩ = W.frozen? ⟨b, o, none⟩) :=
  ⟨fun b o h => hb.cell (p := ⟨b, o, none⟩) h, fun b o h => hb.frozen (p := ⟨b, o, none⟩) h⟩

/- BLOCKS THAT ARE KNOWN WHOLE -/
theorem heap_set_same {w : World} {b o : Nat} {cur : Array Value} {e : TypeId} {fr : Nat × Nat} (h : w.heap[b]? = some (.cells cur e fr)) (v : Value) :
    (w.setCell ⟨b, o, none⟩ v).heap[b]? = some (.cells (cur.setIfInBounds o v) e fr) := by
  simp only [World.setCell, Array.getElem?_modify]
  simp [h]
theorem heap_set_other {w : World} {b b' o : Nat} (h : b ≠ b') (v : Value) : (w.setCell ⟨b', o, none⟩ v).heap[b]? = w.heap[b]? := Below.heap_setCell w ⟨b', o, none⟩ v b h
theorem heap_lt {w : World} {b : Nat} {o : Obj} (h : w.heap[b]? = some o) : b < w.heap.size := (Array.getElem?_eq_some_iff.1 h).1
theorem heap_cell {w : World} {b : Nat} {cur : Array Value} {e : TypeId} {fr : Nat × Nat} (h : w.heap[b]? = some (.cells cur e fr)) (j : Nat) : w.cell? ⟨b, j, none⟩ = cur[j]? := cell_of_row w b j cur e fr h
theorem heap_free {w : World} {b : Nat} {cur : Array Value} {e : TypeId} (h : w.heap[b]? = some (.cells cur e (0, 0))) (j : Nat) : w.frozen? ⟨b, j, none⟩ = false := by
  simp [World.frozen?, h]
/-- An owned row lies elsewhere than a block of another element type. -/
theorem owns_apart {w : World} {base : Nat} {e e' : TypeId} {size : Nat} {v : Value} {n : Nat} {xs : List Value} (h : w.ownsRow base e size v n xs)
    {b : Nat} {cur : Array Value} {fr : Nat × Nat} (hb : w.heap[b]? = some (.cells cur e' fr)) (hne : e ≠ e') : v.ownBlock ≠ some b := by
  intro hv
  rcases h.2 with ⟨rfl, _⟩ | ⟨g, cap, cur', rfl, _, hg, _⟩
  · simp [Value.ownBlock] at hv
  · simp only [Value.ownBlock, Option.some.injEq] at hv
    subst hv
    rw [hb] at hg
    simp only [Option.some.injEq, Obj.cells.injEq] at hg
    exact hne hg.2.1.symm
theorem owns_two {w : World} {base base' : Nat} {e e' : TypeId} {size size' : Nat} {v v' : Value} {n n' : Nat} {xs xs' : List Value} (h : w.ownsRow base e size v n xs)
    (h' : w.ownsRow base' e' size' v' n' xs') (hne : e ≠ e') : v.ownBlock = none ∨ v.ownBlock ≠ v'.ownBlock := by
  rcases h'.2 with ⟨rfl, _⟩ | ⟨g, cap, cur', rfl, _, hg, _⟩
  · cases hv : v.ownBlock
    · exact .inl rfl
    · right; simp [Value.ownBlock]
  · right; exact owns_apart h hg hne
theorem owns_far {w : World} {base : Nat} {e : TypeId} {size : Nat} {v : Value} {n : Nat} {xs : List Value} (h : w.ownsRow base e size v n xs) {b : Nat} (hb : b < base) : v.ownBlock ≠ some b := by
  intro hv
  have := (h.lt b hv).1
  omega
theorem owns_set {w : World} {base : Nat} {e : TypeId} {size : Nat} {v : Value} {n : Nat} {xs : List Value} (h : w.ownsRow base e size v n xs) {b o : Nat} (hb : v.ownBlock ≠ some b) (u : Value) :
    (w.setCell ⟨b, o, none⟩ u).ownsRow base e size v n xs := by
  refine ⟨h.1, ?_⟩
  rcases h.2 with hn | ⟨g, cap, cur, rfl, hbg, hg, rest⟩
  · exact .inl hn
  · refine .inr ⟨g, cap, cur, rfl, hbg, ?_, rest⟩
    rw [heap_set_other (by simpa [Value.ownBlock] using hb)]
    exact hg
theorem owns_base {w : World} {base base' : Nat} {e : TypeId} {size : Nat} {v : Value} {n : Nat} {xs : List Value} (h : w.ownsRow base e size v n xs) (hb : base' ≤ base) : w.ownsRow base' e size v n xs := by
  refine ⟨h.1, ?_⟩
  rcases h.2 with hn | ⟨g, cap, cur, rfl, hbg, hg, rest⟩
  · exact .inl hn
  · exact .inr ⟨g, cap, cur, rfl, by omega, hg, rest⟩
theorem owns_below {w w' : World} {base : Nat} {e : TypeId} {size : Nat} {v : Value} {n : Nat} {xs : List Value} (h : w.ownsRow base e size v n xs) (hb : Below w.heap.size w w') : w'.ownsRow base e size v n xs := by
  refine ⟨h.1, ?_⟩
  rcases h.2 with hn | ⟨g, cap, cur, rfl, hbg, hg, rest⟩
  · exact .inl hn
  · exact .inr ⟨g, cap, cur, rfl, hbg, (hb.block g (heap_lt hg)).trans hg, rest⟩
theorem Sl.of_own {w : World} {base : Nat} {e : TypeId} {size : Nat} {ao : Option Addr} {n' c n : Nat} {xs : List Value} (h : w.ownsRow base e size (.slice ao n' c) n xs) : n' = n ∧ Sl w size ao n c xs := by
  obtain ⟨a, d, hv, hs⟩ := Sl.of_owns h
  simp only [Value.slice.injEq] at hv
  obtain ⟨rfl, rfl, rfl⟩ := hv
  exact ⟨rfl, hs⟩
/-- A block that is no row's stays as it was. -/
theorem grown_heap {w w' : World} {row : Option Nat} (hg : w.grownBy w' row) {b : Nat} {o : Obj} (h : w.heap[b]? = some o) (hne : row ≠ some b) : w'.heap[b]? = some o :=
  (hg.block b (heap_lt h) (fun e => hne e.symm)).trans h
theorem heap_alloc {w : World} {b : Nat} {o : Obj} (h : w.heap[b]? = some o) (o' : Obj) : (w.alloc o').heap[b]? = some o := (Below.heap_alloc w o' b (heap_lt h)).trans h

/- KEYS AND THEIR ORDER -/
abbrev Str := ByteArray
def Str.l (s : Str) : List UInt8 := s.data.toList
def lowerB (c : UInt8) : Bool := decide (97 ≤ c.toNat) && decide (c.toNat ≤ 122)
def keyL (l : List UInt8) : Bool := !l.isEmpty && decide (l.length ≤ 6) && l.all lowerB
def isKey (s : Str) : Bool := keyL s.data.toList
/-- Go's '<' on strings. -/
def slt (a b : Str) : Bool := Op.bytesLess a.toList b.toList

theorem isKey_empty {s : Str} (h : s.toList = []) : isKey s = false := by rw [ByteArray.toList_eq] at h; simp [isKey, keyL, h]
theorem isKey_long {s : Str} (h : 6 < s.size) : isKey s = false := by
  have : ¬ s.data.toList.length ≤ 6 := by simpa using h
  simp [isKey, keyL] at this ⊢; intros; omega
theorem isKey_bad {s : Str} (k : Nat) (h : k < s.size) (hb : lowerB s[k] = false) : isKey s = false := by
  simp only [isKey, keyL, Bool.and_eq_false_iff]
  right
  rw [List.all_eq_false]
  exact ⟨s[k], by simp [Array.mem_toList_iff]; exact Array.getElem_mem h, by simpa using hb⟩
theorem isKey_good {s : Str} (h0 : ¬ s.toList = []) (h6 : s.size ≤ 6) (ha : ∀ j, ∀ h : j < s.size, lowerB s[j] = true) : isKey s = true := by
  rw [ByteArray.toList_eq] at h0
  simp only [isKey, keyL, Bool.and_eq_true]
  refine ⟨⟨by simpa using h0, by simpa using h6⟩, ?_⟩
  rw [List.all_eq_true]
  intro x hx
  obtain ⟨j, hj, rfl⟩ := List.mem_iff_getElem.1 hx
  exact ha j (by simpa using hj)
end Go.Proofs.YtdhfcelhgnjpcaaDoor
