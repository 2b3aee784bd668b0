/-
  Blocks of the call's own that are known whole, one behind the other (Own). No program is named here.
-/
import Derived.Test.YtdhfcelhgnjpcaaDoorBase
namespace Go.Proofs.YtdhfcelhgnjpcaaDoor
open Go.RowKit

theorem heap_new1 (w : World) (o : Obj) : (w.alloc o).heap[w.heap.size]? = some o := by
  show (w.heap.push o)[w.heap.size]? = _
  simp
/-- Behind the call's beginning w lie the blocks os; below them nothing has turned. -/
structure Own (w : World) (os : List Obj) (W : World) : Prop where
  blk : ∀ i o, os[i]? = some o → W.heap[w.heap.size + i]? = some o
  old : Below w.heap.size w W
section
variable {w W W' : World} {os : List Obj}
theorem Own.start (w : World) : Own w [] w := ⟨fun i o h => by simp at h, Below.refl _ _⟩
theorem Own.lt (h : Own w os W) {i : Nat} (hi : i < os.length) : w.heap.size + i < W.heap.size := heap_lt (h.blk i _ (List.getElem?_eq_getElem hi))
theorem Own.below (h : Own w os W) (hb : Below W.heap.size W W') : Own w os W' :=
  ⟨fun i o hi => (hb.block _ (heap_lt (h.blk i o hi))).trans (h.blk i o hi), below_more h.old hb (Nat.le_refl _)⟩
theorem Own.alloc (h : Own w os W) (o : Obj) : Own w os (W.alloc o) := h.below (below_alloc W o)
theorem Own.drew (h : Own w os W) : Own w os W.drew := h.below (Below.refl _ _).drew
theorem Own.push (h : Own w os W) (hs : W.heap.size = w.heap.size + os.length) (o : Obj) : Own w (os ++ [o]) (W.alloc o) ∧ (W.alloc o).heap.size = w.heap.size + (os ++ [o]).length := by
  refine ⟨⟨fun i x hi => ?_, (h.alloc o).old⟩, by simp [hs]; omega⟩
  by_cases hlt : i < os.length
  · rw [List.getElem?_append_left hlt] at hi
    exact (h.alloc o).blk i x hi
  · rw [List.getElem?_append_right (by omega)] at hi
    have h0 : i = os.length := by
      by_cases e : i - os.length = 0
      · omega
      · rw [List.getElem?_eq_none (by simp; omega)] at hi; cases hi
    subst h0
    simp at hi
    subst hi
    rw [← hs]; exact heap_new1 W o
theorem Own.cell (h : Own w os W) (i j : Nat) {cs : Array Value} {e : TypeId} {fr : Nat × Nat} (hi : os[i]? = some (.cells cs e fr)) : W.cell? ⟨w.heap.size + i, j, none⟩ = cs[j]? := heap_cell (h.blk i _ hi) j
theorem Own.free (h : Own w os W) (i j : Nat) {cs : Array Value} {e : TypeId} (hi : os[i]? = some (.cells cs e (0, 0))) : W.frozen? ⟨w.heap.size + i, j, none⟩ = false := heap_free (h.blk i _ hi) j
theorem Own.set (h : Own w os W) (i j : Nat) {cs : Array Value} {e : TypeId} {fr : Nat × Nat} (hi : os[i]? = some (.cells cs e fr)) (v : Value) :
    Own w (os.set i (.cells (cs.setIfInBounds j v) e fr)) (W.setCell ⟨w.heap.size + i, j, none⟩ v) := by
  refine ⟨fun k o hk => ?_, h.old.setCell (by simp) v⟩
  rw [List.getElem?_set] at hk
  by_cases hki : i = k
  · subst hki
    have hl := (List.getElem?_eq_some_iff.1 hi).1
    simp only [if_true, hl] at hk
    cases hk
    exact heap_set_same (h.blk i _ hi) v
  · rw [if_neg hki] at hk
    rw [heap_set_other (by omega)]
    exact h.blk k o hk
theorem Own.far (h : Own w os W) {b : Nat} (hb : w.heap.size + os.length ≤ b) (o : Nat) (v : Value) : Own w os (W.setCell ⟨b, o, none⟩ v) := by
  refine ⟨fun k x hk => ?_, h.old.setCell (by simp; omega) v⟩
  have := (List.getElem?_eq_some_iff.1 hk).1
  rw [heap_set_other (by omega)]
  exact h.blk k x hk
/-- What stays of the blocks, where a row grows that is none of them. -/
theorem Own.grown (h : Own w os W) {row : Option Nat} (hg : W.grownBy W' row) (hr : ∀ b, row = some b → w.heap.size + os.length ≤ b ∨ W.heap.size ≤ b) : Own w os W' := by
  refine ⟨fun i o hi => grown_heap hg (h.blk i o hi) ?_, h.old.grown hg h.old.size (fun k hk => ?_)⟩
  · intro e
    have hl := h.lt (List.getElem?_eq_some_iff.1 hi).1
    have hl' := (List.getElem?_eq_some_iff.1 hi).1
    rcases hr _ e with h1 | h1 <;> omega
  · have hs := h.old.size
    rcases hr _ hk with h1 | h1 <;> omega
end
end Go.Proofs.YtdhfcelhgnjpcaaDoor
