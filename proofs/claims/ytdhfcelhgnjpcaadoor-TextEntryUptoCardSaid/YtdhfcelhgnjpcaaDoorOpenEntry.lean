/-
  Arguments opened: an entry.
-/
import Derived.Test.YtdhfcelhgnjpcaaDoorOpenDeed
import Derived.Test.YtdhfcelhgnjpcaaDoorEntry
import Derived.Deep.Strs
namespace Go.Proofs.YtdhfcelhgnjpcaaDoor
open Go.ChangeShapes Go.WideShapes Go.ChangeAt Go.RowKit Go.Deep

section
variable {H : Type} {enc : TypeId × Value → H} {W : World}
theorem entryFields : ∃ f0 f1 f2, Tryd.prog.underlying 41 = some (.struct #[f0, f1, f2]) ∧ (f0.type = 36 ∧ f0.offset = 0) ∧ (f1.type = 4 ∧ f1.offset = 1) ∧ (f2.type = 39 ∧ f2.offset = 2) :=
  ⟨_, _, _, Tryd.underlying41, ⟨rfl, rfl⟩, ⟨rfl, rfl⟩, ⟨rfl, rfl⟩⟩
theorem cellsEntry : Tryd.prog.cellsOf 41 = 4 ∧ Tryd.prog.cellsOf 36 = 1 ∧ Tryd.prog.cellsOf 4 = 1 ∧ Tryd.prog.cellsOf 39 = 2 := ⟨by kernel_rfl, by kernel_rfl, by kernel_rfl, by kernel_rfl⟩
set_option maxRecDepth 100000 in
theorem open_entry' {fuel : Nat} {cs : List Value} {x : DataW H × List MemPlace} (h : DataW.trod enc Tryd.prog W 0 (fun _ => true) true fuel 41 cs = some x) :
    ∃ eo en ec ao n c bo m d, ∃ y : PEntry, cs = [.slice eo en ec, .bool y.isMap, .slice ao n c, .slice bo m d] ∧ EntAt W eo en ec ao n c bo m d y ∧ en + n + m < Rows.uptoBulk x.1 ∧ ∀ o ∈ y.deed, I64 o.n := by
  obtain ⟨f0, f1, f2, hu, ⟨t0, o0⟩, ⟨t1, o1⟩, ⟨t2, o2⟩⟩ := entryFields
  obtain ⟨c0, c1, c2, c3⟩ := cellsEntry
  obtain ⟨y0, y1, y2, k, rfl, hl, h0, h1, h2⟩ := Go.Deep.trod_struct3 hu h
  rw [t0, o0, c1] at h0
  rw [t1, o1, c2] at h1
  rw [t2, o2, c3] at h2
  rw [c0] at hl
  match cs, hl with
  | [u0, u1, u2, u3], _ =>
    obtain ⟨eo, en, ec, l, e0, s0, b0, hI⟩ := open_deed' h0
    obtain ⟨b, e1, _⟩ := DataW.trod_bool Tryd.underlying4 h1
    obtain ⟨ao, n, c, bo, m, d, p, e2, s2, b2⟩ := open_map' h2
    simp at e0 e1 e2
    obtain ⟨e2, e3⟩ := e2
    subst e0; subst e1; subst e2; subst e3
    refine ⟨eo, en, ec, ao, n, c, bo, m, d, ⟨l, b, p⟩, rfl, ⟨s0, s2⟩, ?_, hI⟩
    simp only [Rows.uptoBulk, Rows.uptoBulkAll]
    omega
theorem open_entry {v : Value} {d : DataW H} {ps : List MemPlace} (hv : ∃ cs, v = .agg cs) (hd : DataW.Trod enc Tryd.prog W 0 (fun _ => true) true 41 v d ps) :
    ∃ eo en ec ao n c bo m e, ∃ y : PEntry, v = .agg #[.slice eo en ec, .bool y.isMap, .slice ao n c, .slice bo m e] ∧ EntAt W eo en ec ao n c bo m e y ∧ en + n + m < Rows.uptoBulk d ∧ ∀ o ∈ y.deed, I64 o.n := by
  obtain ⟨cs, rfl⟩ := hv
  obtain ⟨fuel, hf⟩ := hd
  obtain ⟨eo, en, ec, ao, n, c, bo, m, e, y, hcs, hM, hb, hI⟩ := open_entry' hf
  refine ⟨eo, en, ec, ao, n, c, bo, m, e, y, ?_, hM, hb, hI⟩
  simp only [Value.cells] at hcs
  congr 1
  exact Array.ext' hcs
end
end Go.Proofs.YtdhfcelhgnjpcaaDoor
