/-
  deed.Check: may a deed be?
-/
import Derived.Test.YtdhfcelhgnjpcaaDoorDeedOp
import Derived.Deep.DeepCutAuto
namespace Go.Proofs.YtdhfcelhgnjpcaaDoor
open Go.RowKit

def noOp : POp := ⟨0, noStr, noStr, 0⟩
theorem flat_at : ∀ (l : List POp) (k j : Nat), j < 4 → (l.flatMap opCells)[k * 4 + j]? = (l[k]?).bind fun o => (opCells o)[j]?
  | [], k, j, _ => by simp
  | o :: r, 0, j, hj => by
    rw [List.flatMap_cons, List.getElem?_append_left (by simp [opCells]; omega)]; simp
  | o :: r, k + 1, j, hj => by
    have ih := flat_at r k j hj
    rw [List.flatMap_cons, List.getElem?_append_right (by simp [opCells]; omega)]
    have : (k + 1) * 4 + j - (opCells o).length = k * 4 + j := by simp [opCells]; omega
    rw [this, ih]; simp
theorem flat_len : ∀ l : List POp, (l.flatMap opCells).length = l.length * 4
  | [] => rfl
  | o :: r => by rw [List.flatMap_cons, List.length_append, flat_len r]; simp [opCells]; omega
/-- A slice of operations. -/
structure OpsAt (w : World) (ao : Option Addr) (n c : Nat) (l : List POp) : Prop where
  sl : Sl w 4 ao n c (l.flatMap opCells)
theorem OpsAt.below {w w' : World} {ao : Option Addr} {n c : Nat} {l : List POp} (h : OpsAt w ao n c l) (hb : Below w.heap.size w w') : OpsAt w' ao n c l := ⟨h.sl.below hb⟩
theorem OpsAt.drew {w : World} {ao : Option Addr} {n c : Nat} {l : List POp} (h : OpsAt w ao n c l) : OpsAt w.drew ao n c l := ⟨h.sl.drew⟩
theorem OpsAt.n {w : World} {ao : Option Addr} {n c : Nat} {l : List POp} (h : OpsAt w ao n c l) : l.length = n := by
  have := h.sl.len; rw [flat_len] at this; omega
theorem OpsAt.cells {w : World} {ao : Option Addr} {n c : Nat} {l : List POp} (h : OpsAt w ao n c l) (k : Nat) (hk : k < n) :
    ∃ b off, ao = some ⟨b, off, none⟩ ∧ b < w.heap.size ∧ w.cell? ⟨b, off + k * 4, none⟩ = some (.int .i64 (l.getD k noOp).kind) ∧ w.cell? ⟨b, off + k * 4 + 1, none⟩ = some (.string (l.getD k noOp).key) ∧
      w.cell? ⟨b, off + k * 4 + 2, none⟩ = some (.string (l.getD k noOp).src) ∧ w.cell? ⟨b, off + k * 4 + 3, none⟩ = some (.int .i64 (l.getD k noOp).n) := by
  have hl := h.n
  have hkl : k < l.length := by omega
  have hg : l[k]? = some (l.getD k noOp) := by rw [List.getD_eq_getElem?_getD, List.getElem?_eq_getElem hkl]; rfl
  have e : ∀ j u, j < 4 → (opCells (l.getD k noOp))[j]? = some u → ∃ b off, ao = some ⟨b, off, none⟩ ∧ w.cell? ⟨b, off + (k * 4 + j), none⟩ = some u := fun j u hj hu =>
    h.sl.cell (k * 4 + j) u (by rw [flat_at l k j hj, hg]; exact hu)
  obtain ⟨b, off, hb, h0⟩ := e 0 _ (by omega) rfl
  refine ⟨b, off, hb, World.block_lt_of_cell? w _ h0, h0, ?_, ?_, ?_⟩
  · obtain ⟨b', off', hb', h1⟩ := e 1 _ (by omega) rfl
    rw [hb] at hb'; cases hb'; exact h1
  · obtain ⟨b', off', hb', h1⟩ := e 2 _ (by omega) rfl
    rw [hb] at hb'; cases hb'; exact h1
  · obtain ⟨b', off', hb', h1⟩ := e 3 _ (by omega) rfl
    rw [hb] at hb'; cases hb'; exact h1
theorem firstBad_at : ∀ (l : List POp) (k : Nat), k < l.length → (∀ j, j < k → opCheck (l.getD j noOp) = 0) → ¬ opCheck (l.getD k noOp) = 0 → firstBad l = opCheck (l.getD k noOp)
  | [], k, hk, _, _ => by simp at hk
  | o :: r, 0, _, _, h => by simp at h; simp [firstBad, h]
  | o :: r, k + 1, hk, hall, h => by
    have h0 := hall 0 (by omega)
    simp at h0
    have := firstBad_at r k (by simpa using hk) (fun j hj => by have := hall (j + 1) (by omega); simpa using this) (by simpa using h)
    simp [firstBad, h0, this]
theorem firstBad_all {l : List POp} (h : ∀ j, j < l.length → opCheck (l.getD j noOp) = 0) : firstBad l = 0 := by
  refine firstBad_zero.2 fun o ho => ?_
  obtain ⟨j, hj, rfl⟩ := List.getElem_of_mem ho
  have := h j hj
  rwa [List.getD_eq_getElem?_getD, List.getElem?_eq_getElem hj] at this

set_option maxHeartbeats 2000000 in
theorem deedCheck_any (ao : Option Addr) (n c : Nat) (l : List POp) (w : World) (h : OpsAt w ao n c l) (hn : n ≤ 1099511627776) :
    Calls Tryd.prog 28 #[.agg #[.slice ao n c]] w fun e w' => e = .returned (.int .i64 (deedCheck l)) ∧ Below w.heap.size w w' := by
  have hl := h.n
  by_cases h0 : n = 0
  · subst h0
    have hr : deedCheck l = 2 := by rw [deedCheck, if_pos (by omega)]
    have HR := Lib.hid hr; clear hr hl
    go_enter Tryd.func28, Tryd.ntmps28
    go_wp2_with fail
    go_ret
    exact ⟨ret_int HR.out.symm, below_alloc _ _⟩
  · by_cases h8 : 8 < n
    · have hr : deedCheck l = 2 := by rw [deedCheck, if_pos (by omega)]
      have hz : ((n : Int) == 0) = false := by simpa using h0
      have HR := Lib.hid hr; clear hr hl
      go_enter Tryd.func28, Tryd.ntmps28
      go_wp2_with fail
      go_ret
      exact ⟨ret_int HR.out.symm, below_alloc _ _⟩
    · have hr : deedCheck l = firstBad l := by rw [deedCheck, if_neg (by omega)]
      have HR := Lib.hid hr; clear hr
      have HL := Lib.hid hl; clear hl
      have H := Lib.hid h; clear h
      have hz : ((n : Int) == 0) = false := by simpa using h0
      go_enter Tryd.func28, Tryd.ntmps28
      go_wp2_with fail
      go_loopw [19] (fun i wr => ∃ k : Nat, k ≤ n ∧ i = .int .i64 k ∧ (∀ j, j < k → opCheck (l.getD j noOp) = 0) ∧ Below w.heap.size w wr) (fun i _ => n - (intOf i).toNat)
      case atStart => exact ⟨0, Nat.zero_le _, rfl, fun j hj => by omega, below_alloc _ _⟩
      case round =>
        obtain ⟨k, hk, rfl, hall, hb⟩ := hrel
        have HA := Lib.hid hall; clear hall
        by_cases hlt : k < n
        · obtain ⟨b, off, rfl, hbs, hc0, hc1, hc2, hc3⟩ := (H.out.below hb).cells k hlt
          have HB := Lib.hid hb; clear hb
          obtain ⟨o, ho⟩ : ∃ o, l.getD k noOp = o := ⟨_, rfl⟩
          rw [ho] at hc0 hc1 hc2 hc3
          have HO := Lib.hid ho; clear ho
          go_wp2_with fail
          refine (op_any o _).mono ?_
          rintro e w2 ⟨rfl, hb2⟩
          have HB2 := Lib.hid (HB.out.trans (((below_alloc wr _).trans (hb2.mono (below_alloc wr _).size)).mono HB.out.size)); clear hb2
          by_cases hc : opCheck o = 0
          · have hcb : (opCheck o != 0) = false := by rw [hc]; rfl
            have HC := Lib.hid hc; clear hc
            go_wp2_with fail
            go_roundw
            case rel =>
              refine ⟨k + 1, by omega, by go_num, fun j hj => ?_, HB2.out⟩
              by_cases hj' : j < k
              · exact HA.out j hj'
              · obtain rfl : j = k := by omega
                rw [HO.out]; exact HC.out
            case measure => simp [intOf]; omega
          · have hcb : (opCheck o != 0) = true := by simpa using hc
            have hf := firstBad_at l k (by rw [HL.out]; exact hlt) HA.out (by rw [HO.out]; exact hc)
            have HF := Lib.hid hf; clear hf hc
            go_wp2_with fail
            go_ret
            exact ⟨ret_int (by rw [HR.out, HF.out, HO.out]), HB2.out⟩
        · have hf : firstBad l = 0 := firstBad_all (by rw [HL.out]; intro j hj; exact HA.out j (by omega))
          have HF := Lib.hid hf; clear hf
          go_wp2_with fail
          go_ret
          exact ⟨ret_int (by rw [HR.out, HF.out]), hb⟩
end Go.Proofs.YtdhfcelhgnjpcaaDoor
