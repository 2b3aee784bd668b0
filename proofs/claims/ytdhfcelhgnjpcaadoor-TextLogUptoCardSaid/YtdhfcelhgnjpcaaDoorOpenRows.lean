/-
  Arguments opened: slices of slices of ints.
-/
import Derived.Test.YtdhfcelhgnjpcaaDoorOpen
import Derived.Test.YtdhfcelhgnjpcaaDoorDeeds
import Derived.Deep.Slices
namespace Go.Proofs.YtdhfcelhgnjpcaaDoor
open Go.ChangeShapes Go.WideShapes Go.ChangeAt Go.RowKit Go.Deep

instance : Inhabited IRow := ⟨⟨none, 0, 0, []⟩⟩
section
variable {H : Type} {enc : TypeId × Value → H} {P : Program} {W : World}
theorem open_rows' {T E Q : TypeId} {fuel : Nat} {cs : List Value} {x : DataW H × List MemPlace} (ht : P.underlying T = some (.slice E)) (he : P.underlying E = some (.slice Q)) (hq : P.underlying Q = some (.int .i64)) (ce : P.cellsOf E = 1) (cq : P.cellsOf Q = 1)
    (h : DataW.trod enc P W 0 (fun _ => true) true fuel T cs = some x) :
    ∃ ao n c, ∃ rs : List IRow, cs = [.slice ao n c] ∧ RowsAt W ao n c rs ∧ n < Rows.uptoBulk x.1 ∧ ∀ r ∈ rs, r.n < Rows.uptoBulk x.1 := by
  rcases open_slice1 ht ce h with ⟨rfl, rfl⟩ | ⟨a, len, cap, m, n, V, D, Pl, rfl, _, hl, hm, hmm, rfl, hx⟩
  · exact ⟨none, 0, 0, [], rfl, ⟨⟨by simp, Nat.le_refl _, fun _ => rfl, fun j u hu => by simp at hu⟩, by simp⟩, by simp [Rows.uptoBulk], by simp⟩
  · simp only [if_true] at hmm
    subst hmm
    have each : ∀ i, i < m → ∃ r : IRow, V i = .slice r.ao r.n r.c ∧ r.Ok W ∧ r.n < Rows.uptoBulk (D i) := fun i hi => by
      obtain ⟨ao, n', c', l, e0, s0, b0, _⟩ := sl_ints' he hq cq (hx i hi).2
      exact ⟨⟨ao, n', c', l⟩, by simpa using e0, s0, b0⟩
    obtain ⟨f, hf⟩ := choose_lt each
    refine ⟨some a, len, m, (List.range len).map f, rfl, ⟨⟨by simp, hl, (fun h => nomatch h), fun j u hu => ?_⟩, fun r hr => ?_⟩, ?_, fun r hr => ?_⟩
    · have hj : j < len := by
        have := (List.getElem?_eq_some_iff.1 hu).1
        simpa using this
      have h0 := (hx 0 (by omega)).1
      obtain ⟨b, off, spot⟩ := a
      have hspot : spot = none := by simpa [Addr.add] using World.cell?_spot h0
      subst hspot
      refine ⟨b, off, rfl, ?_⟩
      have hj' := (hx j (by omega)).1
      rw [add_plain] at hj'
      rw [hj', (hf j (by omega)).1]
      simpa [hj] using hu
    · obtain ⟨i, hi, rfl⟩ := List.mem_map.1 hr
      have := List.mem_range.1 hi
      exact (hf i (by omega)).2.1
    · have := bulks.slice_le (H := H) ((List.range len).map D) ((List.range (m - len)).map fun j => D (len + j))
      simp at this ⊢; omega
    · obtain ⟨i, hi, rfl⟩ := List.mem_map.1 hr
      have hi' := List.mem_range.1 hi
      have h1 := (hf i (by omega)).2.2
      have h2 := bulks.part_le (H := H) (d := D i) (l := (List.range len).map D) (List.mem_map_of_mem hi)
      have h3 := bulks.slice_elems (H := H) ((List.range len).map D) ((List.range (m - len)).map fun j => D (len + j))
      simp only at h3 ⊢
      omega
theorem open_rows {r : Reach} {b0 : Nat} {T E Q : TypeId} {v : Value} {d : DataW H} {ps : List MemPlace} (ht : P.underlying T = some (.slice E)) (he : P.underlying E = some (.slice Q)) (hq : P.underlying Q = some (.int .i64)) (ce : P.cellsOf E = 1) (cq : P.cellsOf Q = 1)
    (hv : Value.okWide P W r b0 T v) (hd : DataW.Trod enc P W 0 (fun _ => true) true T v d ps) :
    ∃ ao n c, ∃ rs : List IRow, v = .slice ao n c ∧ RowsAt W ao n c rs ∧ n < Rows.uptoBulk d ∧ ∀ r ∈ rs, r.n < Rows.uptoBulk d := by
  obtain ⟨a, n, c, rfl⟩ := okWide_slice ht hv
  obtain ⟨fuel, hf⟩ := hd
  obtain ⟨ao, n', c', rs, e0, h1, h2, h3⟩ := open_rows' ht he hq ce cq hf
  simp [Value.cells] at e0
  obtain ⟨rfl, rfl, rfl⟩ := e0
  exact ⟨_, _, _, rs, rfl, h1, h2, h3⟩
end
end Go.Proofs.YtdhfcelhgnjpcaaDoor
