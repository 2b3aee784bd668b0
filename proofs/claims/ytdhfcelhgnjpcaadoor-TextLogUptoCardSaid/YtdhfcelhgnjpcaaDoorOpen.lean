/-
  Arguments opened: slices of strings and of ints, a map of the document's (api.Map).
-/
import Derived.Test.YtdhfcelhgnjpcaaDoorRows
import Derived.Test.YtdhfcelhgnjpcaaDoorFrame
import Derived.Test.YtdhfcelhgnjpcaaDoorBulk
import Derived.Test.YtdhfcelhgnjpcaaDoorCheck
import Derived.Deep.Strs
import Derived.ChangeSame
namespace Go.Proofs.YtdhfcelhgnjpcaaDoor
open Go.ChangeShapes Go.WideShapes Go.ChangeAt Go.RowKit

section
variable {H : Type} {enc : TypeId × Value → H} {P : Program} {W : World}

theorem sl_strs {T E : TypeId} {fuel : Nat} {cs : List Value} {x : DataW H × List MemPlace} (ht : P.underlying T = some (.slice E)) (he : P.underlying E = some .string) (hc : P.cellsOf E = 1)
    (h : DataW.trod enc P W 0 (fun _ => true) true fuel T cs = some x) :
    ∃ ao n c, ∃ l : List Str, cs = [.slice ao n c] ∧ Sl W 1 ao n c (l.map .string) ∧ n < Rows.uptoBulk x.1 ∧ (∀ s ∈ l, s.size ≤ maxLen) := by
  rcases Go.Deep.open_strs ht he hc h with ⟨rfl, rfl⟩ | ⟨a, len, cap, m, Sx, rfl, _, hl, hm, hmm, rfl, hx⟩
  · exact ⟨none, 0, 0, [], rfl, ⟨by simp, Nat.le_refl _, fun _ => rfl, fun j u hu => by simp at hu⟩, by simp [Rows.uptoBulk], by simp⟩
  · simp only [if_true] at hmm
    subst hmm
    refine ⟨some a, len, m, (List.range len).map Sx, rfl, ⟨by simp, hl, (fun h => nomatch h), fun j u hu => ?_⟩, ?_, ?_⟩
    · have hj : j < len := by
        have := (List.getElem?_eq_some_iff.1 hu).1
        simpa using this
      have h0 := (hx 0 (by omega)).1
      obtain ⟨b, off, spot⟩ := a
      have hspot : spot = none := by simpa [Addr.add] using World.cell?_spot h0
      subst hspot
      refine ⟨b, off, rfl, ?_⟩
      have hj' := (hx j (by omega)).1
      rw [add_plain] at hj'
      rw [hj']
      simpa [hj] using hu
    · have := bulks.slice_le (H := H) ((List.range len).map fun i => .lit (.string (Sx i).data.toList)) ((List.range (m - len)).map fun j => .lit (.string (Sx (len + j)).data.toList))
      simp at this ⊢; omega
    · intro s hs
      obtain ⟨i, hi, rfl⟩ := List.mem_map.1 hs
      have := List.mem_range.1 hi
      exact (hx i (by omega)).2

theorem sl_ints' {T E : TypeId} {fuel : Nat} {cs : List Value} {x : DataW H × List MemPlace} (ht : P.underlying T = some (.slice E)) (he : P.underlying E = some (.int .i64)) (hc : P.cellsOf E = 1)
    (h : DataW.trod enc P W 0 (fun _ => true) true fuel T cs = some x) :
    ∃ ao n c, ∃ l : List Int, cs = [.slice ao n c] ∧ Sl W 1 ao n c (l.map (.int .i64)) ∧ n < Rows.uptoBulk x.1 ∧ (∀ x ∈ l, (Lit.int .i64 x).wf = true) := by
  rcases open_ints ht he hc h with ⟨rfl, rfl⟩ | ⟨a, len, cap, zs, rfl, _, hl, hm, hz, rfl, hcell, hwf⟩
  · exact ⟨none, 0, 0, [], rfl, ⟨by simp, Nat.le_refl _, fun _ => rfl, fun j u hu => by simp at hu⟩, by simp [Rows.uptoBulk], by simp⟩
  · have hd : ∃ l : List Int, Sl W 1 (some a) len cap (l.map (.int .i64)) ∧ (∀ x ∈ l, (Lit.int .i64 x).wf = true) ∧ _ :=
      sl_ints (enc := enc) (W := W) (d := .slice (lits .i64 (zs.take len)) (lits .i64 (zs.drop len))) (p := MemPlace.row a zs.length) ht he hc ⟨fuel, h⟩
    obtain ⟨l, h1, h2, _⟩ := hd
    refine ⟨some a, len, cap, l, rfl, h1, ?_, h2⟩
    have := bulks.slice_le (H := H) (lits .i64 (zs.take len)) (lits .i64 (zs.drop len))
    simp only [if_true] at hz
    simp [lits] at this ⊢; omega
theorem agg_of {r : Reach} {b0 : Nat} {t : TypeId} {fs : Array Field} {v : Value} (ht : P.underlying t = some (.struct fs)) (h : Value.okWide P W r b0 t v) : ∃ cs, v = .agg cs := (okWide_struct ht h).imp fun _ h => h.1
theorem iface_cell {t : TypeId} {ms : Array (String × TypeId)} {held : Bool} {fuel : Nat} {cs : List Value} {sp : Nat → Bool} {base : Nat} {x : DataW H × List MemPlace} (ht : P.underlying t = some (.interface ms))
    (h : DataW.trod enc P W base sp held fuel t cs = some x) : ∃ v, cs = [v] ∧ (v = .nilIface ∨ ∃ te pe, v = .iface te pe) := by
  cases fuel with
  | zero => simp [DataW.trod] at h
  | succ n =>
    unfold DataW.trod at h
    rw [ht] at h
    split at h <;> first | (simp_all; done) | (cases h; done) | exact ⟨_, rfl, by simp⟩
end
section
variable {H : Type} {enc : TypeId × Value → H} {W : World}
theorem mapFields : ∃ f0 f1, Tryd.prog.underlying 39 = some (.struct #[f0, f1]) ∧ f0.type = 37 ∧ f0.offset = 0 ∧ f1.type = 29 ∧ f1.offset = 1 :=
  ⟨_, _, Tryd.underlying39, rfl, rfl, rfl, rfl⟩
theorem cellsMap : Tryd.prog.cellsOf 39 = 2 ∧ Tryd.prog.cellsOf 37 = 1 ∧ Tryd.prog.cellsOf 29 = 1 ∧ Tryd.prog.cellsOf 9 = 1 ∧ Tryd.prog.cellsOf 3 = 1 := ⟨by kernel_rfl, by kernel_rfl, by kernel_rfl, by kernel_rfl, by kernel_rfl⟩
theorem open_map' {fuel : Nat} {cs : List Value} {x : DataW H × List MemPlace} (h : DataW.trod enc Tryd.prog W 0 (fun _ => true) true fuel 39 cs = some x) :
    ∃ ao n c bo m d p, cs = [.slice ao n c, .slice bo m d] ∧ MapAt W ao n c bo m d p ∧ n + m < Rows.uptoBulk x.1 := by
  obtain ⟨f0, f1, hu, t0, o0, t1, o1⟩ := mapFields
  obtain ⟨c0, c1, c2, c3, c4⟩ := cellsMap
  obtain ⟨y0, y1, k, rfl, hl, h0, h1⟩ := trod_struct2 hu h
  rw [t0, o0, c1] at h0
  rw [t1, o1, c2] at h1
  rw [c0] at hl
  match cs, hl with
  | [u, v], _ =>
    obtain ⟨ao, n, c, l, e0, s0, b0, _⟩ := sl_strs Tryd.underlying37 Tryd.underlying9 c3 h0
    obtain ⟨bo, m, d, q, e1, s1, b1, _⟩ := sl_ints' Tryd.underlying29 Tryd.underlying3 c4 h1
    have e0' : u = .slice ao n c := by simpa using e0
    have e1' : v = .slice bo m d := by simpa using e1
    subst e0'; subst e1'
    refine ⟨ao, n, c, bo, m, d, ⟨l, q⟩, rfl, ⟨s0, s1⟩, ?_⟩
    simp only [Rows.uptoBulk, Rows.uptoBulkAll]
    omega
theorem open_map {v : Value} {d : DataW H} {ps : List MemPlace} (hv : ∃ cs, v = .agg cs) (hd : DataW.Trod enc Tryd.prog W 0 (fun _ => true) true 39 v d ps) :
    ∃ ao n c bo m e p, v = .agg #[.slice ao n c, .slice bo m e] ∧ MapAt W ao n c bo m e p ∧ n + m < Rows.uptoBulk d := by
  obtain ⟨cs, rfl⟩ := hv
  obtain ⟨fuel, hf⟩ := hd
  obtain ⟨ao, n, c, bo, m, e, p, hcs, hM, hb⟩ := open_map' hf
  refine ⟨ao, n, c, bo, m, e, p, ?_, hM, hb⟩
  simp only [Value.cells] at hcs
  congr 1
  exact Array.ext' hcs
end
end Go.Proofs.YtdhfcelhgnjpcaaDoor
