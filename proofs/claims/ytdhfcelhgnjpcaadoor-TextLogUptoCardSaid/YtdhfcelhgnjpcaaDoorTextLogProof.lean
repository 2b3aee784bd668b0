/-
  rokeep.TextLog, where what it reads is of bulk at most 1048576: whatever the input it answers true and its arguments read as they did. The library's variables are laid as the program's text lays them (tied).
-/
import Derived.Test.YtdhfcelhgnjpcaaDoorCards
import Derived.Test.YtdhfcelhgnjpcaaDoorTie
import Derived.Test.YtdhfcelhgnjpcaaDoorTextLogWalk
import Derived.Test.YtdhfcelhgnjpcaaDoorLibEnv
import Derived.Test.YtdhfcelhgnjpcaaDoorOpenRows
import Derived.Deep.DeepHandedRow
import Derived.PinnedBridge
namespace Go.Proofs.YtdhfcelhgnjpcaaDoor.textLog
open Go.ChangeShapes Go.WideShapes Go.ChangeAt Go.RowKit

theorem own : ownKnob Tryd.prog.godebug = none := by kernel_rfl
theorem laidOut : laidOutB Tryd.prog = true := by kernel_rfl

set_option maxRecDepth 100000 in
theorem contract (H : Type) (enc : TypeId × Value → H) (W : World) (base : Nat) (args : Array Value) (ds gs : List (DataW H)) (before : List MemPlace)
    (hval : ∀ (j : Nat) t v, Tryd.f6.params[j]? = some t → args[j]? = some v → Value.okWide Tryd.prog W .any base t v)
    (hW : DataW.Whole enc Tryd.prog Tryd.f6.params.toList Rows.textLogSpec.vars false W args.toList ds gs before) (hk : Rows.uptoSmall H (ds ++ gs) = true)
    (hL : laidMetH Tryd.prog Rows.textLogRow.laid W) (hS : W.ShapedOpen Tryd.prog) :
    Calls Tryd.prog 6 args W fun e W' => ∃ v, e = .returned v ∧ Rows.textLogSpec.post enc Tryd.prog Tryd.f6 false true false false W args v W' := by
  have hW' := hW
  obtain ⟨p, q, hA0, hV, rfl, hfz, hnd⟩ := hW
  have hA : DataW.TrodAll enc Tryd.prog W 0 (fun _ => true) true Tryd.f6.params.toList args.toList ds p := hA0
  rw [Tryd.params6] at hA hval
  obtain ⟨v0, v1, v2, d0, d1, d2, p0, p1, p2, rfl, rfl, rfl, h0, h1, h2⟩ := trodAll_three hA
  obtain ⟨rfl, rfl⟩ := trodVars_none hV
  obtain ⟨ao, n, c, rs, rfl, hX, hnx, hrx⟩ := open_rows Tryd.underlying22 Tryd.underlying29 Tryd.underlying3 (by kernel_rfl) (by kernel_rfl) (hval 0 22 v0 rfl rfl) h0
  obtain ⟨bo, m, d, ms, rfl, hY, hny, hry⟩ := open_rows Tryd.underlying22 Tryd.underlying29 Tryd.underlying3 (by kernel_rfl) (by kernel_rfl) (hval 1 22 v1 rfl rfl) h1
  obtain ⟨i, rfl, rfl, rfl, hi⟩ := open_int Tryd.underlying3 (hval 2 3 v2 rfl rfl) h2
  have hB := bulks.bound hk
  have hb0 := bulks.part_le (d := d0) (l := [d0, d1, .lit (.int .i64 i)] ++ []) (by simp)
  have hb1 := bulks.part_le (d := d1) (l := [d0, d1, .lit (.int .i64 i)] ++ []) (by simp)
  have hE := env_of (l := Rows.textLogRow.laid) hL (by simp [Rows.textLogRow]) (by simp [Rows.textLogRow]) (by simp [Rows.textLogRow]) hS
  refine (textLog_law ao n c bo m d rs ms i W hX hY (by omega) (by omega) (fun r hr => by have := hrx r hr; omega) (fun r hr => by have := hry r hr; omega) hE).mono fun e W' ⟨he, hb'⟩ => ⟨_, he, ?_⟩
  exact law_post laidOut (by kernel_rfl) rfl Tryd.underlying4 hW' rfl rfl rfl rfl hb'

def wargs : Array Value := #[.slice none 0 0, .slice none 0 0, .int .i64 0]
noncomputable def laidWorld (os : Os) : World := World.laidAll Tryd.prog os Rows.textLogUptoRow.laid
theorem laid_met (os : Os) : laidMet Tryd.prog Rows.textLogUptoRow.laid ((laidWorld os).forCall (fun _ _ => 0) ⟨#[], wargs, []⟩).memory :=
  laidMet_laidAll _ (by kernel_rfl) (by kernel_rfl)
theorem reads (os : Os) {H : Type} (enc : TypeId × Value → H) : ∃ places, DataW.whole enc Tryd.prog ((laidWorld os).forCall (fun _ _ => 0) ⟨#[], wargs, []⟩).memory Tryd.f6.params.toList Rows.textLogSpec.vars false wargs.toList 8 = some ([.nil, .nil, .lit (.int .i64 0)], [], places) :=
  ⟨[], by kernel_rfl⟩

set_option maxRecDepth 100000 in
theorem liftedUpto (os : Os) (started : os.Started) (H : Type) (enc : TypeId × Value → H) (F : Stop.Interp) :
    ReturnsInHanded {} Tryd.checked os 6 .any ((Rows.OpenSpec.upto Rows.textLogSpec).preRow enc Tryd.prog Tryd.f6 Rows.textLogUptoRow.domain false Rows.textLogUptoRow.laid) (((Rows.OpenSpec.upto Rows.textLogSpec).at F).post enc Tryd.prog Tryd.f6 false true false false) := by
  obtain ⟨places, hx⟩ := reads os enc
  refine returnsInHanded_of_row (C := Tryd.checked) (s := Rows.OpenSpec.upto Rows.textLogSpec) own started (by kernel_rfl) Tryd.func6
    (witness_row_at (enc := enc) (C := Tryd.checked) false (laidWorld os) wargs (World.laidAll_os _ _ _) (by kernel_rfl) (by kernel_rfl) (by kernel_rfl)
      (OpenSpec.preRow_of_cond 8 hx (by kernel_rfl) (fun k hk => by cases hk; kernel_rfl) (by kernel_rfl) (laid_met os))) ?_
  intro W base args ds gs before hval hW _ hcond _ hL hS _
  exact contract H enc W base args ds gs before hval hW (hcond _ rfl) hL hS

theorem saidUpto : Rows.TextLogUptoSaid :=
  OpenClaim.holds_of_cond 6 Tryd.f6 rfl rfl rfl rfl rfl rfl rfl ⟨rfl, rfl, rfl, rfl, rfl⟩ rfl rfl rfl rfl rfl (by kernel_rfl) Tryd.func6 (by kernel_rfl)
    (of_decide_eq_true (by kernel_rfl)) (by unfold Func.isWrapper; first | (rw [if_pos (by decide +kernel)]; kernel_rfl) | (rw [if_neg (by decide +kernel)]; exact ⟨rfl, rfl⟩))
    (fun os started H enc _ F => by rw [OpenClaim.pre_eq_preRow]; exact liftedUpto os started H enc F)

theorem plain (f : FuncId) (fn : Func) (hf : Tryd.pinned.checked.prog.funcNamed "ropery/rokeep.TextLog" = some f) (hfn : Tryd.pinned.checked.prog.funcs[f]? = some fn) :
    true = Tryd.pinned.checked.prog.looks [] ∧ ∀ (j : Nat) t, fn.params[j]? = some t → Tryd.pinned.checked.prog.wantsStandIn t = false := by
  obtain rfl : f = 6 := Option.some.inj ((show Tryd.prog.funcNamed "ropery/rokeep.TextLog" = some 6 by kernel_rfl).symm.trans hf) |>.symm
  obtain rfl : fn = Tryd.f6 := (Option.some.inj (Tryd.func6.symm.trans hfn)).symm
  refine ⟨by kernel_rfl, fun j t ht => ?_⟩
  rw [Tryd.params6] at ht
  have hm : t ∈ [22, 22, 3] := by
    have := Array.mem_of_getElem? ht
    simp at this ⊢; omega
  have hall : ([22, 22, 3].all fun t => Tryd.prog.wantsStandIn t == false) = true := by kernel_rfl
  show Tryd.prog.wantsStandIn t = false
  simpa using (List.all_eq_true.1 hall) t hm

/-- THE SECOND FORM's CARD. -/
theorem textLog_card : Rows.TextLogUptoCardSaid :=
  Claim7.holds_tied_plain_at .later [] _ _ _ _ saidUpto (fun _ h => by cases h) (by kernel_rfl) (fun _ h => by cases h) textLogUpto_row_tie rfl ⟨rfl, rfl⟩ (by kernel_rfl) rfl plain (by kernel_rfl)
end Go.Proofs.YtdhfcelhgnjpcaaDoor.textLog
