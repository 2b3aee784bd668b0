/-
  rokeep.TextEntry, where what it reads is of bulk at most 1048576: whatever the input it answers true and its arguments read as they did. The library's variables are laid as the program's text lays them (tied).
-/
import Derived.Test.YtdhfcelhgnjpcaaDoorCards
import Derived.Test.YtdhfcelhgnjpcaaDoorTie
import Derived.Test.YtdhfcelhgnjpcaaDoorTextEntryWalk
import Derived.Test.YtdhfcelhgnjpcaaDoorLibEnv
import Derived.Test.YtdhfcelhgnjpcaaDoorOpenEntry
import Derived.Deep.DeepHandedRow
import Derived.PinnedBridge
namespace Go.Proofs.YtdhfcelhgnjpcaaDoor.textEntry
open Go.ChangeShapes Go.WideShapes Go.ChangeAt Go.RowKit

theorem own : ownKnob Tryd.prog.godebug = none := by kernel_rfl
theorem laidOut : laidOutB Tryd.prog = true := by kernel_rfl

theorem wf_u8 {n : Int} (h : (Lit.int .u8 n).wf = true) : 0 ≤ n ∧ n < 256 := by
  have e1 : IntKind.u8.min = 0 := rfl
  have e2 : IntKind.u8.max = 255 := rfl
  simp [Lit.wf, e1, e2] at h
  omega
set_option maxRecDepth 100000 in
theorem contract (H : Type) (enc : TypeId × Value → H) (W : World) (base : Nat) (args : Array Value) (ds gs : List (DataW H)) (before : List MemPlace)
    (hval : ∀ (j : Nat) t v, Tryd.f5.params[j]? = some t → args[j]? = some v → Value.okWide Tryd.prog W .any base t v)
    (hW : DataW.Whole enc Tryd.prog Tryd.f5.params.toList Rows.textEntrySpec.vars false W args.toList ds gs before) (hk : Rows.uptoSmall H (ds ++ gs) = true)
    (hL : laidMetH Tryd.prog Rows.textEntryRow.laid W) (hS : W.ShapedOpen Tryd.prog) :
    Calls Tryd.prog 5 args W fun e W' => ∃ v, e = .returned v ∧ Rows.textEntrySpec.post enc Tryd.prog Tryd.f5 false true false false W args v W' := by
  have hW' := hW
  obtain ⟨p, q, hA0, hV, rfl, hfz, hnd⟩ := hW
  have hA : DataW.TrodAll enc Tryd.prog W 0 (fun _ => true) true Tryd.f5.params.toList args.toList ds p := hA0
  rw [Tryd.params5] at hA hval
  obtain ⟨v0, v1, v2, v3, d0, d1, d2, d3, p0, p1, p2, p3, rfl, rfl, rfl, h0, h1, h2, h3⟩ := trodAll_four hA
  obtain ⟨rfl, rfl⟩ := trodVars_none hV
  obtain ⟨eo, en, ec, ao, n, c, bo, m, e, x, rfl, hX, hnx, hIx⟩ := open_entry (agg_of Tryd.underlying41 (hval 0 41 v0 rfl rfl)) h0
  obtain ⟨a, rfl, rfl, rfl, ha⟩ := Go.ChangeMaps.open_string Tryd.underlying9 (hval 1 9 v1 rfl rfl) h1
  obtain ⟨i, rfl, rfl, rfl, hi⟩ := open_int Tryd.underlying3 (hval 2 3 v2 rfl rfl) h2
  obtain ⟨b, rfl, rfl, rfl, hb⟩ := open_int Tryd.underlying5 (hval 3 5 v3 rfl rfl) h3
  have hB := bulks.bound hk
  have hba := bulks.part_le (d := DataW.lit (.string a.data.toList)) (l := [d0, .lit (.string a.data.toList), .lit (.int .i64 i), .lit (.int .u8 b)] ++ []) (by simp)
  have hb0 := bulks.part_le (d := d0) (l := [d0, .lit (.string a.data.toList), .lit (.int .i64 i), .lit (.int .u8 b)] ++ []) (by simp)
  rw [bulks.string_eq] at hba
  have hsa : a.size ≤ 1048576 := by
    have : a.data.toList.length = a.size := by simp
    omega
  have hbu := wf_u8 hb
  have hE := env_of (l := Rows.textEntryRow.laid) hL (by simp [Rows.textEntryRow]) (by simp [Rows.textEntryRow]) (by simp [Rows.textEntryRow]) hS
  refine (textEntry_law eo en ec ao bo n c m e x a i b W hX (by omega) (by omega) (by omega) hsa hbu.1 hbu.2 hIx hE).mono fun e W' ⟨he, hb'⟩ => ⟨_, he, ?_⟩
  exact law_post laidOut (by kernel_rfl) rfl Tryd.underlying4 hW' rfl rfl rfl rfl hb'

def wargs : Array Value := #[.agg #[.slice none 0 0, .bool false, .slice none 0 0, .slice none 0 0], .string ⟨#[]⟩, .int .i64 0, .int .u8 0]
noncomputable def laidWorld (os : Os) : World := World.laidAll Tryd.prog os Rows.textEntryUptoRow.laid
theorem laid_met (os : Os) : laidMet Tryd.prog Rows.textEntryUptoRow.laid ((laidWorld os).forCall (fun _ _ => 0) ⟨#[], wargs, []⟩).memory :=
  laidMet_laidAll _ (by kernel_rfl) (by kernel_rfl)
theorem reads (os : Os) {H : Type} (enc : TypeId × Value → H) : ∃ places, DataW.whole enc Tryd.prog ((laidWorld os).forCall (fun _ _ => 0) ⟨#[], wargs, []⟩).memory Tryd.f5.params.toList Rows.textEntrySpec.vars false wargs.toList 8 = some ([.agg [.agg [.nil], .lit (.bool false), .agg [.nil, .nil]], .lit (.string []), .lit (.int .i64 0), .lit (.int .u8 0)], [], places) :=
  ⟨[], by kernel_rfl⟩

set_option maxRecDepth 100000 in
theorem liftedUpto (os : Os) (started : os.Started) (H : Type) (enc : TypeId × Value → H) (F : Stop.Interp) :
    ReturnsInHanded {} Tryd.checked os 5 .any ((Rows.OpenSpec.upto Rows.textEntrySpec).preRow enc Tryd.prog Tryd.f5 Rows.textEntryUptoRow.domain false Rows.textEntryUptoRow.laid) (((Rows.OpenSpec.upto Rows.textEntrySpec).at F).post enc Tryd.prog Tryd.f5 false true false false) := by
  obtain ⟨places, hx⟩ := reads os enc
  refine returnsInHanded_of_row (C := Tryd.checked) (s := Rows.OpenSpec.upto Rows.textEntrySpec) own started (by kernel_rfl) Tryd.func5
    (witness_row_at (enc := enc) (C := Tryd.checked) false (laidWorld os) wargs (World.laidAll_os _ _ _) (by kernel_rfl) (by kernel_rfl) (by kernel_rfl)
      (OpenSpec.preRow_of_cond 8 hx (by kernel_rfl) (fun k hk => by cases hk; kernel_rfl) (by kernel_rfl) (laid_met os))) ?_
  intro W base args ds gs before hval hW _ hcond _ hL hS _
  exact contract H enc W base args ds gs before hval hW (hcond _ rfl) hL hS

theorem saidUpto : Rows.TextEntryUptoSaid :=
  OpenClaim.holds_of_cond 5 Tryd.f5 rfl rfl rfl rfl rfl rfl rfl ⟨rfl, rfl, rfl, rfl, rfl⟩ rfl rfl rfl rfl rfl (by kernel_rfl) Tryd.func5 (by kernel_rfl)
    (of_decide_eq_true (by kernel_rfl)) (by unfold Func.isWrapper; first | (rw [if_pos (by decide +kernel)]; kernel_rfl) | (rw [if_neg (by decide +kernel)]; exact ⟨rfl, rfl⟩))
    (fun os started H enc _ F => by rw [OpenClaim.pre_eq_preRow]; exact liftedUpto os started H enc F)

theorem plain (f : FuncId) (fn : Func) (hf : Tryd.pinned.checked.prog.funcNamed "ropery/rokeep.TextEntry" = some f) (hfn : Tryd.pinned.checked.prog.funcs[f]? = some fn) :
    true = Tryd.pinned.checked.prog.looks [] ∧ ∀ (j : Nat) t, fn.params[j]? = some t → Tryd.pinned.checked.prog.wantsStandIn t = false := by
  obtain rfl : f = 5 := Option.some.inj ((show Tryd.prog.funcNamed "ropery/rokeep.TextEntry" = some 5 by kernel_rfl).symm.trans hf) |>.symm
  obtain rfl : fn = Tryd.f5 := (Option.some.inj (Tryd.func5.symm.trans hfn)).symm
  refine ⟨by kernel_rfl, fun j t ht => ?_⟩
  rw [Tryd.params5] at ht
  have hm : t ∈ [41, 9, 3, 5] := by
    have := Array.mem_of_getElem? ht
    simp at this ⊢; omega
  have hall : ([41, 9, 3, 5].all fun t => Tryd.prog.wantsStandIn t == false) = true := by kernel_rfl
  show Tryd.prog.wantsStandIn t = false
  simpa using (List.all_eq_true.1 hall) t hm

/-- THE SECOND FORM's CARD. -/
theorem textEntry_card : Rows.TextEntryUptoCardSaid :=
  Claim7.holds_tied_plain_at .later [] _ _ _ _ saidUpto (fun _ h => by cases h) (by kernel_rfl) (fun _ h => by cases h) textEntryUpto_row_tie rfl ⟨rfl, rfl⟩ (by kernel_rfl) rfl plain (by kernel_rfl)
end Go.Proofs.YtdhfcelhgnjpcaaDoor.textEntry
