/-
  Regions that draw their order, where a cell that is loaded is stored to behind: what must hold of the world is asked twice: S1 always, S0 as long as number t (the first such store) has not come up. No program is named here.
-/
import Derived.OrdersHeld
import Derived.WalkKit
import Derived.KernelRfl
namespace Go.Proofs.YtdhfcelhgnjpcaaDoor
open Go

section
variable {P : Program} {ops : Array Oper} {Q : Exit → Act → World → Prop} {md : Region.Mode} {S0 S1 : World → Prop} {t : Nat}

/-- Whatever order is picked from here on; behind each operation S1 holds, and S0 as long as t has not come up. -/
def wpAnyT (P : Program) (md : Region.Mode) (ops : Array Oper) (Q : Exit → Act → World → Prop) (S0 S1 : World → Prop) (t : Nat) : Nat → Array Bool → Act → World → Prop
  | 0, listed, a, w => Region.ready md ops listed = [] ∧ Q .normal a w
  | fuel + 1, listed, a, w =>
    (Region.ready md ops listed = [] → Q .normal a w) ∧
    ∀ i ∈ Region.ready md ops listed, wpOp P ops Q i (fun a' w' => S1 w' ∧ ((listed.setIfInBounds i true).getD t true = false → S0 w') ∧ wpAnyT P md ops Q S0 S1 t fuel (listed.setIfInBounds i true) a' w') a w

theorem wpAny_of_T : ∀ (fuel : Nat) (listed : Array Bool) (a : Act) (w : World), wpAnyT P md ops Q S0 S1 t fuel listed a w → wpAny P md ops Q fuel listed a w
  | 0, _, _, _, h => h
  | fuel + 1, _, _, _, h => ⟨h.1, fun i hi => wpOp_mono (fun _ _ h' => wpAny_of_T fuel _ _ _ h'.2.2) (h.2 i hi)⟩

/-- The two ways by which an operation may be taken ahead of the others: its value hangs on S1 alone; or t waits for it, and it hangs on S0 too. -/
theorem wpAnyT_first {i : Nat} {oi : Oper} {v : Value} {C : World → Prop} (hi : ops[i]? = some oi) (hsel : ∀ (j : Nat) (o : Oper) cs b, ops[j]? = some o → o.op ≠ .select cs b)
    (hQ : ∀ c a w, Q (.panic c) (a.put oi.dst v) w → Q (.panic c) a w)
    (hti : i ≠ t) (hC : (∀ w, S1 w → C w) ∨ ((∀ w, S1 w → S0 w → C w) ∧ ∃ ot, ops[t]? = some ot ∧ ∃ e ∈ ot.after, Region.binds md e = true ∧ e.on = i)) :
    ∀ (fuel : Nat) (listed : Array Bool) (a : Act) (w : World),
      (∀ j oj, ops[j]? = some oj → j ≠ i → listed.getD j true = false → (∀ e ∈ oj.after, Region.binds md e = true → e.on ≠ i) → oi.apart ops oj = true) →
      i ∈ Region.ready md ops listed → YieldsIf P ops C oi v a → S1 w → (listed.getD t true = false → S0 w) → ((∀ w, S1 w → C w) ∨ listed.getD t true = false) →
      wpAnyT P md ops Q S0 S1 t fuel (listed.setIfInBounds i true) (a.put oi.dst v) w → wpAnyT P md ops Q S0 S1 t (fuel + 1) listed a w := by
  intro fuel
  induction fuel with
  | zero =>
    intro listed a w _ hr hy hS1 hS0 hun H
    have hc : C w := by
      rcases hC with h | ⟨h, _⟩
      · exact h w hS1
      · rcases hun with h' | h'
        · exact h' w hS1
        · exact h w hS1 (hS0 h')
    refine ⟨fun h => (by rw [h] at hr; cases hr), fun j hj => ?_⟩
    by_cases hji : j = i
    · subst hji
      refine hy.wpOp hi hc ⟨hS1, fun h => hS0 ?_, H⟩
      rwa [getD_set_ne true hti] at h
    · have := ready_mono hj hji
      rw [H.1] at this
      cases this
  | succ fuel ih =>
    intro listed a w hfree hr hy hS1 hS0 hun H
    have hc : C w := by
      rcases hC with h | ⟨h, _⟩
      · exact h w hS1
      · rcases hun with h' | h'
        · exact h' w hS1
        · exact h w hS1 (hS0 h')
    refine ⟨fun h => (by rw [h] at hr; cases hr), fun j hj => ?_⟩
    by_cases hji : j = i
    · subst hji
      refine hy.wpOp hi hc ⟨hS1, fun h => hS0 ?_, H⟩
      rwa [getD_set_ne true hti] at h
    · have h1 := H.2 j (ready_mono hj hji)
      obtain ⟨hjun, oj, hoj, hall⟩ := mem_ready.1 hj
      have hiun := (mem_ready.1 hr).1
      have hnot : ∀ e ∈ oj.after, Region.binds md e = true → e.on ≠ i := fun e he hb heq => by
        have h1 := hall e he hb
        rw [heq] at h1
        rcases Nat.lt_or_ge i listed.size with h' | h'
        · simp [h'] at hiun h1; rw [hiun] at h1; cases h1
        · simp [Array.getElem?_eq_none h'] at h1
      have h2 := wpOp_putIf hoj (hfree j oj hoj hji hjun hnot) (fun cs b => hsel i oi cs b hi) (fun cs b => hsel j oj cs b hoj) hQ hy h1
      have hfree' : ∀ k ok, ops[k]? = some ok → k ≠ i → (listed.setIfInBounds j true).getD k true = false →
          (∀ e ∈ ok.after, Region.binds md e = true → e.on ≠ i) → oi.apart ops ok = true := fun k ok hk hki hu hno => by
        refine hfree k ok hk hki ?_ hno
        by_cases hjk : j = k
        · subst hjk; exact hjun
        · rw [getD_set_ne true hjk] at hu; exact hu
      refine wpOp_mono (fun a' w' h3 => ?_) h2
      obtain ⟨hy', hS1', hS0', H'⟩ := h3
      have hS0'' : (listed.setIfInBounds j true).getD t true = false → S0 w' := fun h => hS0' (by
        rw [Array.setIfInBounds_comm _ _ (Ne.symm hji)]
        rw [getD_set_ne true hti]; exact h)
      refine ⟨hS1', hS0'', ih (listed.setIfInBounds j true) a' w' hfree' (ready_mono hr (Ne.symm hji)) hy' hS1' hS0'' ?_ ?_⟩
      · rcases hun with h' | h'
        · exact .inl h'
        · rcases hC with h'' | ⟨_, ot, hot, e, he, hb, hon⟩
          · exact .inl h''
          · right
            have hjt : j ≠ t := fun hjt => by
              subst hjt
              rw [hoj] at hot
              obtain rfl := Option.some.inj hot
              exact hnot e he hb hon
            rw [getD_set_ne true hjt]; exact h'
      · rw [Array.setIfInBounds_comm _ _ hji]; exact H'
/-- Does t wait for i? -/
def waitsFor (md : Region.Mode) (ops : Array Oper) (t i : Nat) : Bool := ((ops[t]?).map (·.after.any fun e => Region.binds md e && e.on == i)).getD false

/-- Take number i first: what it yields hangs on S1 alone. -/
theorem wpAnyT_take1 (i : Nat) {oi : Oper} {v : Value} {fuel : Nat} {listed : Array Bool} {a : Act} {w : World} (hi : ops[i]? = some oi)
    (hs : (Region.noSelect ops && Region.free md ops listed i && (Region.ready md ops listed).contains i && !(i == t)) = true)
    (hQ : ∀ c a w, Q (.panic c) (a.put oi.dst v) w → Q (.panic c) a w) (hy : YieldsIf P ops S1 oi v a) (hS1 : S1 w) (hS0 : listed.getD t true = false → S0 w)
    (h : wpAnyT P md ops Q S0 S1 t fuel (listed.setIfInBounds i true) (a.put oi.dst v) w) : wpAnyT P md ops Q S0 S1 t (fuel + 1) listed a w := by
  simp only [Bool.and_eq_true, Bool.not_eq_true', beq_eq_false_iff_ne] at hs
  exact wpAnyT_first hi (Region.noSelect_spec hs.1.1.1) hQ hs.2 (.inl fun _ h => h) fuel listed a w (Region.free_spec hi hs.1.1.2) (by simpa using hs.1.2) hy hS1 hS0 (.inl fun _ h => h) h

/-- Take number i first: t waits for it; what it yields hangs on S0. -/
theorem wpAnyT_take0 (i : Nat) {oi : Oper} {v : Value} {fuel : Nat} {listed : Array Bool} {a : Act} {w : World} (hi : ops[i]? = some oi)
    (hs : (Region.noSelect ops && Region.free md ops listed i && (Region.ready md ops listed).contains i && !(i == t) && waitsFor md ops t i && !(listed.getD t true)) = true)
    (hQ : ∀ c a w, Q (.panic c) (a.put oi.dst v) w → Q (.panic c) a w) (hy : YieldsIf P ops S0 oi v a) (hS1 : S1 w) (hS0 : listed.getD t true = false → S0 w)
    (h : wpAnyT P md ops Q S0 S1 t fuel (listed.setIfInBounds i true) (a.put oi.dst v) w) : wpAnyT P md ops Q S0 S1 t (fuel + 1) listed a w := by
  simp only [Bool.and_eq_true, Bool.not_eq_true', beq_eq_false_iff_ne] at hs
  refine wpAnyT_first hi (Region.noSelect_spec hs.1.1.1.1.1) hQ hs.1.1.2 (.inr ⟨fun _ _ h => h, ?_⟩) fuel listed a w (Region.free_spec hi hs.1.1.1.1.2) (by simpa using hs.1.1.1.2) hy hS1 hS0 (.inr hs.2) h
  have hw := hs.1.2
  unfold waitsFor at hw
  cases hot : ops[t]? with
  | none => simp [hot] at hw
  | some ot =>
    simp only [hot, Option.map_some, Option.getD_some] at hw
    obtain ⟨e, he, hb⟩ := Array.any_eq_true'.1 hw
    simp only [Bool.and_eq_true, beq_iff_eq] at hb
    exact ⟨ot, rfl, e, he, hb.1, hb.2⟩

/-- What comes up: each of a list, one goal each. -/
def AllT (P : Program) (md : Region.Mode) (ops : Array Oper) (Q : Exit → Act → World → Prop) (S0 S1 : World → Prop) (t fuel : Nat) (listed : Array Bool) (a : Act) (w : World) (rs : List Nat) : Prop :=
  ∀ i ∈ rs, wpOp P ops Q i (fun a' w' => S1 w' ∧ ((listed.setIfInBounds i true).getD t true = false → S0 w') ∧ wpAnyT P md ops Q S0 S1 t fuel (listed.setIfInBounds i true) a' w') a w
theorem AllT.nil {fuel : Nat} {listed : Array Bool} {a : Act} {w : World} : AllT P md ops Q S0 S1 t fuel listed a w [] := fun _ h => nomatch h
theorem AllT.cons {fuel : Nat} {listed : Array Bool} {a : Act} {w : World} {i : Nat} {rs : List Nat} {o : Oper} (hi : ops[i]? = some o)
    (h : ∀ K : Act → World → Prop, (∀ a' w', S1 w' → ((listed.setIfInBounds i true).getD t true = false → S0 w') → (wpAnyT P md ops Q S0 S1 t fuel (listed.setIfInBounds i true) a' w') → K a' w') →
      if Region.wanted o (yielded ops a.tmps) = true then o.wp P a w K Q else K (a.put o.dst undef) w)
    (hr : AllT P md ops Q S0 S1 t fuel listed a w rs) : AllT P md ops Q S0 S1 t fuel listed a w (i :: rs) := fun j hj => by
  rcases List.mem_cons.1 hj with rfl | hj
  · have := h (fun a' w' => S1 w' ∧ ((listed.setIfInBounds j true).getD t true = false → S0 w') ∧ wpAnyT P md ops Q S0 S1 t fuel (listed.setIfInBounds j true) a' w') (fun _ _ h1 h0 h => ⟨h1, h0, h⟩)
    unfold wpOp
    simp only [hi]
    split
    · rename_i hw; rw [if_pos hw] at this; exact .inl this
    · rename_i hw; rw [if_neg hw] at this; exact this
  · exact hr j hj
theorem wpAnyT_ready {rs : List Nat} {fuel : Nat} {listed : Array Bool} {a : Act} {w : World} (hr : Region.ready md ops listed = rs) (hne : rs ≠ [])
    (h : AllT P md ops Q S0 S1 t fuel listed a w rs) : wpAnyT P md ops Q S0 S1 t (fuel + 1) listed a w :=
  ⟨fun h0 => absurd (hr ▸ h0) hne, hr ▸ h⟩
theorem wpAnyT_done {listed : Array Bool} {a : Act} {w : World} (hr : Region.ready md ops listed = []) (h : Q .normal a w) : ∀ fuel, wpAnyT P md ops Q S0 S1 t fuel listed a w
  | 0 => ⟨hr, h⟩
  | _ + 1 => ⟨fun _ => h, by rw [hr]; simp⟩
/-- The beginning, from the world behind the draw. -/
theorem wp_region_T (S0 S1 : World → Prop) (t : Nat) {id : Nat} {a : Act} {w : World} (hm : P.follows .mixedOrders = true)
    (h : wpAnyT P .any ops Q S0 S1 t ops.size (Array.replicate ops.size false) a w.drew) : (Code.region id ops true).wp P Q a w :=
  wp_region_any hm (wpAny_of_T _ _ _ _ h)
end
end Go.Proofs.YtdhfcelhgnjpcaaDoor
