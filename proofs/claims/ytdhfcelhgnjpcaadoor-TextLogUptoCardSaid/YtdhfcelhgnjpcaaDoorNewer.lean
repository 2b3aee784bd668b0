/-
  Slices that lie in memory which is newer than a call's beginning. No program is named here.
-/
import Derived.Test.YtdhfcelhgnjpcaaDoorCheck
namespace Go.Proofs.YtdhfcelhgnjpcaaDoor
open Go.RowKit

def Newer (N : Nat) (ao : Option Addr) : Prop := ∀ a, ao = some a → N ≤ a.block
theorem Newer.nil (N : Nat) : Newer N none := fun _ h => nomatch h
theorem Newer.mono {N M : Nat} {ao : Option Addr} (h : Newer N ao) (hm : M ≤ N) : Newer M ao := fun a e => Nat.le_trans hm (h a e)
theorem Newer.of_own {w : World} {base : Nat} {e : TypeId} {size : Nat} {ao : Option Addr} {n' c n : Nat} {xs : List Value} (h : w.ownsRow base e size (.slice ao n' c) n xs) : Newer base ao := by
  intro a ha
  subst ha
  rcases h.2 with ⟨h0, _⟩ | ⟨g, cap, cur, hv, hb, _⟩
  · simp at h0
  · simp only [Value.slice.injEq, Option.some.injEq] at hv
    rw [hv.1]; exact hb
theorem Sl.set {w : World} {size : Nat} {ao : Option Addr} {n c : Nat} {xs : List Value} (h : Sl w size ao n c xs) {N b o : Nat} (hn : Newer N ao) (hb : b < N) (v : Value) : Sl (w.setCell ⟨b, o, none⟩ v) size ao n c xs :=
  ⟨h.len, h.le, h.nil, fun j u hu => by
    obtain ⟨b', off, h1, h2⟩ := h.cell j u hu
    have := hn _ h1
    refine ⟨b', off, h1, ?_⟩
    rw [World.cell?_setCell_other w _ _ v (fun e => by simp only [Addr.mk.injEq] at e; simp only at this; omega)]
    exact h2⟩
theorem MapAt.set {w : World} {ao : Option Addr} {n c : Nat} {bo : Option Addr} {m d : Nat} {p : PMap} (h : MapAt w ao n c bo m d p) {N b o : Nat} (h1 : Newer N ao) (h2 : Newer N bo) (hb : b < N) (v : Value) :
    MapAt (w.setCell ⟨b, o, none⟩ v) ao n c bo m d p := ⟨h.cuts.set h1 hb v, h.owns.set h2 hb v⟩
/-- The slice's array is a block of elements of type T. -/
def TypedAt (T : TypeId) (w : World) (ao : Option Addr) : Prop := ∀ a, ao = some a → ∃ cur fr, w.heap[a.block]? = some (.cells cur T fr)
theorem TypedAt.nil (T : TypeId) (w : World) : TypedAt T w none := fun _ h => nomatch h
theorem TypedAt.of_own {w : World} {base : Nat} {T : TypeId} {size : Nat} {ao : Option Addr} {n' c n : Nat} {xs : List Value} (h : w.ownsRow base T size (.slice ao n' c) n xs) : TypedAt T w ao := by
  intro a ha
  subst ha
  rcases h.2 with ⟨h0, _⟩ | ⟨g, cap, cur, hv, hb, hg, _⟩
  · simp at h0
  · simp only [Value.slice.injEq, Option.some.injEq] at hv
    rw [hv.1]; exact ⟨_, _, hg⟩
theorem TypedAt.below {w w' : World} {T : TypeId} {ao : Option Addr} (h : TypedAt T w ao) (hb : Below w.heap.size w w') : TypedAt T w' ao := fun a ha => by
  obtain ⟨cur, fr, hc⟩ := h a ha
  exact ⟨cur, fr, (hb.block _ (heap_lt hc)).trans hc⟩
theorem TypedAt.set {w : World} {T : TypeId} {ao : Option Addr} (h : TypedAt T w ao) (b o : Nat) (v : Value) : TypedAt T (w.setCell ⟨b, o, none⟩ v) ao := fun a ha => by
  obtain ⟨cur, fr, hc⟩ := h a ha
  by_cases hb : a.block = b
  · subst hb; exact ⟨_, _, heap_set_same hc v⟩
  · exact ⟨cur, fr, by rw [heap_set_other hb]; exact hc⟩
theorem TypedAt.grown {w w' : World} {T E : TypeId} {ao : Option Addr} (h : TypedAt T w ao) {row : Option Nat} (hg : w.grownBy w' row) (hr : ∀ b, row = some b → ∃ cur fr, w.heap[b]? = some (.cells cur E fr)) (hne : T ≠ E) : TypedAt T w' ao := fun a ha => by
  obtain ⟨cur, fr, hc⟩ := h a ha
  refine ⟨cur, fr, grown_heap hg hc fun e => ?_⟩
  obtain ⟨c2, f2, h2⟩ := hr _ e
  rw [hc] at h2
  simp only [Option.some.injEq, Obj.cells.injEq] at h2
  exact hne h2.2.1
/-- New, and of elements of type T. -/
structure Fresh (N : Nat) (T : TypeId) (w : World) (ao : Option Addr) : Prop where
  newer : Newer N ao
  typed : TypedAt T w ao
theorem Fresh.nil (N : Nat) (T : TypeId) (w : World) : Fresh N T w none := ⟨Newer.nil N, TypedAt.nil T w⟩
theorem Fresh.of_own {w : World} {base : Nat} {T : TypeId} {size : Nat} {ao : Option Addr} {n' c n : Nat} {xs : List Value} (h : w.ownsRow base T size (.slice ao n' c) n xs) : Fresh base T w ao := ⟨Newer.of_own h, TypedAt.of_own h⟩
theorem Fresh.mono {N M : Nat} {T : TypeId} {w : World} {ao : Option Addr} (h : Fresh N T w ao) (hm : M ≤ N) : Fresh M T w ao := ⟨h.newer.mono hm, h.typed⟩
theorem Fresh.below {N : Nat} {T : TypeId} {w w' : World} {ao : Option Addr} (h : Fresh N T w ao) (hb : Below w.heap.size w w') : Fresh N T w' ao := ⟨h.newer, h.typed.below hb⟩
theorem Fresh.set {N : Nat} {T : TypeId} {w : World} {ao : Option Addr} (h : Fresh N T w ao) (b o : Nat) (v : Value) : Fresh N T (w.setCell ⟨b, o, none⟩ v) ao := ⟨h.newer, h.typed.set b o v⟩
end Go.Proofs.YtdhfcelhgnjpcaaDoor
