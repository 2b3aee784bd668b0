/-
  Arguments opened: slices of operations, deeds, entries.
-/
import Derived.Test.YtdhfcelhgnjpcaaDoorOpen
import Derived.Test.YtdhfcelhgnjpcaaDoorDeedText
import Derived.Deep.Slices
namespace Go.Proofs.YtdhfcelhgnjpcaaDoor
open Go.ChangeShapes Go.WideShapes Go.ChangeAt Go.RowKit Go.Deep

section
variable {H : Type} {enc : TypeId × Value → H} {W : World}
theorem opFields : ∃ f0 f1 f2 f3, Tryd.prog.underlying 54 = some (.struct #[f0, f1, f2, f3]) ∧ (f0.type = 3 ∧ f0.offset = 0) ∧ (f1.type = 9 ∧ f1.offset = 1) ∧ (f2.type = 9 ∧ f2.offset = 2) ∧ (f3.type = 3 ∧ f3.offset = 3) :=
  ⟨_, _, _, _, Tryd.underlying54, ⟨rfl, rfl⟩, ⟨rfl, rfl⟩, ⟨rfl, rfl⟩, ⟨rfl, rfl⟩⟩
theorem cellsOp : Tryd.prog.cellsOf 54 = 4 ∧ Tryd.prog.cellsOf 9 = 1 ∧ Tryd.prog.cellsOf 3 = 1 := ⟨by kernel_rfl, by kernel_rfl, by kernel_rfl⟩
theorem take1 {cs : List Value} {j : Nat} {v : Value} (h : (cs.drop j).take 1 = [v]) : cs[j]? = some v := by
  have := congrArg (fun l : List Value => l[0]?) h
  simpa [List.getElem?_take, List.getElem?_drop] using this
instance : Inhabited POp := ⟨noOp⟩
theorem wf_i64 {n : Int} (h : (Lit.int .i64 n).wf = true) : I64 n := by
  have e1 : IntKind.i64.min = -9223372036854775808 := rfl
  have e2 : IntKind.i64.max = 9223372036854775807 := rfl
  unfold I64
  simp [Lit.wf, e1, e2] at h
  constructor <;> omega
set_option maxRecDepth 100000 in
theorem open_op {fuel : Nat} {cs : List Value} {x : DataW H × List MemPlace} (h : DataW.trod enc Tryd.prog W 0 (fun _ => true) true fuel 54 cs = some x) :
    ∃ o : POp, cs = opCells o ∧ I64 o.n := by
  obtain ⟨f0, f1, f2, f3, hu, ⟨t0, o0⟩, ⟨t1, o1⟩, ⟨t2, o2⟩, ⟨t3, o3⟩⟩ := opFields
  obtain ⟨c0, c1, c2⟩ := cellsOp
  obtain ⟨xs, n, _, rfl, hl, hlen, hf⟩ := DataW.trod_struct hu h
  rw [c0] at hl
  match xs, hlen with
  | [y0, y1, y2, y3], _ =>
    have h0 := hf 0 f0 rfl
    have h1 := hf 1 f1 rfl
    have h2 := hf 2 f2 rfl
    have h3 := hf 3 f3 rfl
    rw [t0, o0, c2] at h0
    rw [t1, o1, c1] at h1
    rw [t2, o2, c1] at h2
    rw [t3, o3, c2] at h3
    obtain ⟨k, e0, _, _⟩ := DataW.trod_int Tryd.underlying3 (h0.trans rfl)
    obtain ⟨a, e1, _, _⟩ := DataW.trod_string Tryd.underlying9 (h1.trans rfl)
    obtain ⟨b, e2, _, _⟩ := DataW.trod_string Tryd.underlying9 (h2.trans rfl)
    obtain ⟨m, e3, _, wf⟩ := DataW.trod_int Tryd.underlying3 (h3.trans rfl)
    refine ⟨⟨k, a, b, m⟩, ?_, wf_i64 wf⟩
    match cs, hl with
    | [u0, u1, u2, u3], _ =>
      simp at e0 e1 e2 e3
      subst e0; subst e1; subst e2; subst e3
      rfl
theorem open_ops {fuel : Nat} {cs : List Value} {x : DataW H × List MemPlace} (h : DataW.trod enc Tryd.prog W 0 (fun _ => true) true fuel 34 cs = some x) :
    ∃ ao n c, ∃ l : List POp, cs = [.slice ao n c] ∧ OpsAt W ao n c l ∧ n < Rows.uptoBulk x.1 ∧ ∀ o ∈ l, I64 o.n := by
  rcases open_slice Tryd.underlying34 h with ⟨rfl, rfl⟩ | ⟨a, len, cap, m, n, D, Pl, rfl, _, hl, hm, hmm, rfl, hx⟩
  · exact ⟨none, 0, 0, [], rfl, ⟨by simp, Nat.le_refl _, fun _ => rfl, fun j u hu => by simp at hu⟩, by simp [Rows.uptoBulk], by simp⟩
  · simp only [if_true] at hmm
    subst hmm
    have each : ∀ i, i < m → ∃ o : POp, (∀ j u, (opCells o)[j]? = some u → W.cell? (a.add (i * 4 + j)) = some u) ∧ I64 o.n := fun i hi => by
      obtain ⟨cs', hc, ht⟩ := hx i hi
      rw [cellsOp.1] at hc
      obtain ⟨o, rfl, hI⟩ := open_op ht
      obtain ⟨_, hcl, hat⟩ := World.cells?_some hc
      refine ⟨o, fun j u hu => ?_, hI⟩
      have hj : j < 4 := by have := (List.getElem?_eq_some_iff.1 hu).1; simpa [opCells] using this
      have := hat j hj
      rw [Go.Deep.add_add] at this
      rw [this, hu]
    obtain ⟨f, hf⟩ := choose_lt each
    refine ⟨some a, len, m, (List.range len).map f, rfl, ⟨⟨by rw [flat_len]; simp, hl, (fun h => nomatch h), fun j u hu => ?_⟩⟩, ?_, ?_⟩
    · have hj : j < len * 4 := by
        have := (List.getElem?_eq_some_iff.1 hu).1
        rw [flat_len] at this
        simpa using this
      have hcell : W.cell? (a.add j) = some u := by
        have hk : j / 4 < len := by omega
        have e := flat_at ((List.range len).map f) (j / 4) (j % 4) (by omega)
        rw [show j / 4 * 4 + j % 4 = j from by omega, hu] at e
        simp [hk] at e
        have := (hf (j / 4) (by omega)).1 (j % 4) u e.symm
        rwa [show j / 4 * 4 + j % 4 = j from by omega] at this
      obtain ⟨b, off, spot⟩ := a
      have h00 := (hf 0 (by omega)).1 0 _ rfl
      have hspot : spot = none := by simpa [Addr.add] using World.cell?_spot h00
      subst hspot
      refine ⟨b, off, rfl, ?_⟩
      rwa [add_plain] at hcell
    · have := bulks.slice_le (H := H) ((List.range len).map D) ((List.range (m - len)).map fun j => D (len + j))
      simp at this ⊢; omega
    · intro o ho
      obtain ⟨i, hi, rfl⟩ := List.mem_map.1 ho
      have := List.mem_range.1 hi
      exact (hf i (by omega)).2
theorem deedFields : ∃ f0, Tryd.prog.underlying 36 = some (.struct #[f0]) ∧ f0.type = 34 ∧ f0.offset = 0 := ⟨_, Tryd.underlying36, rfl, rfl⟩
theorem cellsDeed : Tryd.prog.cellsOf 36 = 1 ∧ Tryd.prog.cellsOf 34 = 1 := ⟨by kernel_rfl, by kernel_rfl⟩
theorem open_deed' {fuel : Nat} {cs : List Value} {x : DataW H × List MemPlace} (h : DataW.trod enc Tryd.prog W 0 (fun _ => true) true fuel 36 cs = some x) :
    ∃ ao n c, ∃ l : List POp, cs = [.slice ao n c] ∧ OpsAt W ao n c l ∧ n < Rows.uptoBulk x.1 ∧ ∀ o ∈ l, I64 o.n := by
  obtain ⟨f0, hu, t0, o0⟩ := deedFields
  obtain ⟨c0, c1⟩ := cellsDeed
  obtain ⟨y0, k, rfl, hl, h0⟩ := trod_struct1 hu h
  rw [t0, o0, c1] at h0
  rw [c0] at hl
  match cs, hl with
  | [u], _ =>
    obtain ⟨ao, n, c, l, e0, s0, b0, hI⟩ := open_ops h0
    have e0' : u = .slice ao n c := by simpa using e0
    subst e0'
    refine ⟨ao, n, c, l, rfl, s0, ?_, hI⟩
    simp only [Rows.uptoBulk, Rows.uptoBulkAll]
    omega
theorem open_deed {v : Value} {d : DataW H} {ps : List MemPlace} (hv : ∃ cs, v = .agg cs) (hd : DataW.Trod enc Tryd.prog W 0 (fun _ => true) true 36 v d ps) :
    ∃ ao n c, ∃ l : List POp, v = .agg #[.slice ao n c] ∧ OpsAt W ao n c l ∧ n < Rows.uptoBulk d ∧ ∀ o ∈ l, I64 o.n := by
  obtain ⟨cs, rfl⟩ := hv
  obtain ⟨fuel, hf⟩ := hd
  obtain ⟨ao, n, c, l, hcs, hM, hb, hI⟩ := open_deed' hf
  refine ⟨ao, n, c, l, ?_, hM, hb, hI⟩
  simp only [Value.cells] at hcs
  congr 1
  exact Array.ext' hcs
end
end Go.Proofs.YtdhfcelhgnjpcaaDoor
