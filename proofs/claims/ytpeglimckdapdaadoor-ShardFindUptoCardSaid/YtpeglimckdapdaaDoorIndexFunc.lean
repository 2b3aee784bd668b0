/-
  slices.IndexFunc and slices.ContainsFunc at []string, at whatever function value that tells a Bool of a string and lets old memory be.
-/
import Derived.Test.YtpeglimckdapdaaDoorCheck
import Derived.Deep.DeepFit
namespace Go.Proofs.YtpeglimckdapdaaDoor
open Go.RowKit

/-- What is asked of the function value: in every later world it tells pr of the string; whatever lay, lies. -/
def Tells (P : Program) (g : FuncId) (caps : Array Value) (pr : Str → Bool) (w : World) : Prop :=
  ∀ W, Below w.heap.size w W → ∀ k : Str, Calls P g (#[.string k] ++ caps) W fun e w' => e = .returned (.bool (pr k)) ∧ Below W.heap.size W w'
def NoneTo (pr : Str → Bool) (l : List Str) (k : Nat) : Prop := ∀ j, j < k → pr (l.getD j noStr) = false
theorem NoneTo.next {pr : Str → Bool} {l : List Str} {k : Nat} (h : NoneTo pr l k) (hk : pr (l.getD k noStr) = false) : NoneTo pr l (k + 1) := fun j hj => by
  by_cases e : j = k
  · subst e; exact hk
  · exact h j (by omega)
theorem any_no {pr : Str → Bool} {l : List Str} (h : NoneTo pr l l.length) : l.any pr = false := by
  rw [List.any_eq_false]; intro x hx
  obtain ⟨j, hj, rfl⟩ := List.mem_iff_getElem.1 hx
  have := h j hj
  rw [List.getD_eq_getElem?_getD, List.getElem?_eq_getElem hj] at this
  simpa using this
theorem any_yes {pr : Str → Bool} {l : List Str} (k : Nat) (hk : k < l.length) (h : pr (l.getD k noStr) = true) : l.any pr = true := by
  rw [List.any_eq_true]
  exact ⟨l[k], List.getElem_mem hk, by rw [List.getD_eq_getElem?_getD, List.getElem?_eq_getElem hk] at h; simpa using h⟩

/-- The place that IndexFunc tells: -1, or one at which pr says yes. -/
def Found (pr : Str → Bool) (l : List Str) (r : Int) : Prop := (r = -1 ∧ l.any pr = false) ∨ (0 ≤ r ∧ r < l.length ∧ l.any pr = true)

set_option maxHeartbeats 1000000 in
theorem indexFunc_any (ao : Option Addr) (n c : Nat) (l : List Str) (g : FuncId) (caps : Array Value) (pr : Str → Bool) (w : World) (h : Sl w 1 ao n c (l.map .string)) (hn : n ≤ 1099511627776)
    (eg : ∀ args w, (callFunc g args).run Tryd.prog w = .ok (.enter g args) w) (hf : Tells Tryd.prog g caps pr w) :
    Calls Tryd.prog 15 #[.slice ao n c, .func (.func g) #[] caps] w fun e w' => (∃ r, e = .returned (.int .i64 r) ∧ Found pr l r) ∧ Below w.heap.size w w' := by
  have hl : l.length = n := by have := h.len; simpa using this
  have HL := Lib.hid hl; clear hl
  have HF := Lib.hid hf; clear hf
  go_enter Tryd.func15, Tryd.ntmps15
  go_wp2_with fail
  go_loopw [8] (fun i wr => ∃ k : Nat, k ≤ n ∧ i = .int .i64 k ∧ NoneTo pr l k ∧ Below w.heap.size w wr) (fun i _ => n - (intOf i).toNat)
  case atStart => exact ⟨0, Nat.zero_le _, rfl, fun j hj => by omega, Below.refl _ _⟩
  case round =>
    obtain ⟨k, hk, rfl, hall, hb⟩ := hrel
    have HA := Lib.hid hall; clear hall
    by_cases hlt : k < n
    · obtain ⟨b, off, rfl, hbs, hc⟩ := (h.below hb).str k hlt
      obtain ⟨x, hx⟩ : ∃ x, l.getD k noStr = x := ⟨_, rfl⟩
      rw [hx] at hc
      have HX := Lib.hid hx; clear hx
      have HB := Lib.hid hb; clear hb
      cases hp : pr x
      · have HP := Lib.hid hp; clear hp
        go_wp2_with fail
        refine (HF.out _ HB.out x).mono ?_
        rintro e w1 ⟨rfl, hb1⟩
        rw [HP.out]
        have HB1 := Lib.hid (below_more HB.out hb1 (Nat.le_refl _)); clear hb1
        go_wp2_with fail
        go_roundw
        case rel => exact ⟨k + 1, by omega, by go_num, HA.out.next (by rw [HX.out]; exact HP.out), HB1.out⟩
        case measure => simp [intOf]; omega
      · have HP := Lib.hid hp; clear hp
        go_wp2_with fail
        refine (HF.out _ HB.out x).mono ?_
        rintro e w1 ⟨rfl, hb1⟩
        rw [HP.out]
        have HB1 := Lib.hid (below_more HB.out hb1 (Nat.le_refl _)); clear hb1
        go_wp2_with fail
        go_ret
        exact ⟨⟨k, rfl, .inr ⟨by omega, by rw [HL.out]; omega, any_yes k (by rw [HL.out]; exact hlt) (by rw [HX.out]; exact HP.out)⟩⟩, HB1.out⟩
    · have hno := any_no (pr := pr) (l := l) (fun j hj => HA.out j (by rw [HL.out] at hj; omega))
      have HN := Lib.hid hno; clear hno
      have HB := Lib.hid hb; clear hb
      go_wp2_with fail
      go_ret
      exact ⟨⟨-1, rfl, .inl ⟨rfl, HN.out⟩⟩, HB.out⟩

set_option maxHeartbeats 1000000 in
theorem containsFunc_any (ao : Option Addr) (n c : Nat) (l : List Str) (g : FuncId) (caps : Array Value) (pr : Str → Bool) (w : World) (h : Sl w 1 ao n c (l.map .string)) (hn : n ≤ 1099511627776)
    (eg : ∀ args w, (callFunc g args).run Tryd.prog w = .ok (.enter g args) w) (hf : Tells Tryd.prog g caps pr w) :
    Calls Tryd.prog 7 #[.slice ao n c, .func (.func g) #[] caps] w fun e w' => e = .returned (.bool (l.any pr)) ∧ Below w.heap.size w w' := by
  have HF := Lib.hid hf; clear hf
  have HE := Lib.hid eg; clear eg
  go_enter Tryd.func7, Tryd.ntmps7
  go_wp2_with fail
  refine (indexFunc_any _ _ _ l g caps pr _ h hn HE.out HF.out).mono ?_
  rintro e w1 ⟨⟨r, rfl, hr⟩, hb⟩
  have HB := Lib.hid hb; clear hb
  rcases hr with ⟨rfl, ha⟩ | ⟨h0, _, ha⟩
  · have HA := Lib.hid ha; clear ha
    go_wp2_with fail
    go_ret
    exact ⟨ret_bool HA.out.symm, HB.out⟩
  · have HA := Lib.hid ha; clear ha
    go_wp2_with fail
    go_ret
    exact ⟨ret_bool (by rw [HA.out]), HB.out⟩
end Go.Proofs.YtpeglimckdapdaaDoor
