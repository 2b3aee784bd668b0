/-
  text.num: a number of a word (numV).
-/
import Derived.Test.YtdhfcelhgnjpcaaDoorEnv
import Derived.Lib.Hide
import Derived.Lib.AtoiAllCases
namespace Go.Proofs.YtdhfcelhgnjpcaaDoor
open Go.RowKit

theorem ofOption_ok {o : Option Int} {v : Int} (h : Lib.NumEnd.ofOption o = .ok v) : o = some v := by
  cases o with
  | none => cases h
  | some x => cases h; rfl
/-- The test of text.num in its three parts. -/
theorem numV_eq (l : Bs) (v : Int) (h : Lib.atoiAll l = .ok v) : numV l = if l.length ≤ 11 then (if Lib.itoa v = l then some v else none) else none := by
  unfold numV
  by_cases hl : l.length ≤ 11
  · rw [if_pos hl, if_pos hl]
    rw [Lib.atoiAll_short l (by omega)] at h
    rw [ofOption_ok h]; rfl
  · rw [if_neg hl, if_neg hl]
theorem numV_no (l : Bs) (h : ∀ v, Lib.atoiAll l ≠ .ok v) : numV l = none := by
  cases hn : numV l with
  | none => rfl
  | some v =>
    obtain ⟨_, h1, h2⟩ := numV_some hn
    refine absurd ?_ (h v)
    rw [Lib.atoiAll_short l (by omega), h2]; rfl

set_option maxHeartbeats 1000000 in
theorem num_any (s : Str) (hs : s.size ≤ 1099511627776) (w : World) (hE : Env w) :
    Calls Tryd.prog 57 #[.string s] w fun e w' => ∃ n : Int, e = .returned (.tuple #[.int .i64 n, .bool (numV s.data.toList).isSome]) ∧ (∀ v, numV s.data.toList = some v → n = v) ∧ Below w.heap.size w w' := by
  have hsl : s.data.toList.length = s.size := rfl
  by_cases hok : ∃ v, Lib.atoiAll s.data.toList = .ok v
  · obtain ⟨v, hv⟩ := hok
    have hb := Lib.atoiAll_bounds hv
    have hN := numV_eq _ v hv
    have c1 := atoi_yes s hs v hv w
    have HV := Lib.hid hv; clear hv
    by_cases h11 : s.size ≤ 11
    · rw [if_pos (by omega)] at hN
      have HL := Lib.hid hsl; clear hsl
      have HN := Lib.hid hN; clear hN
      go_enter Tryd.func57, Tryd.ntmps57
      go_wp2_with fail
      refine c1.mono ?_
      rintro e w1 ⟨rfl, hb1⟩
      have HB1 := Lib.hid hb1
      have hE1 := hE.below hb1; clear hb1
      go_wp2_with fail
      refine (itoa_any v hb.1 hb.2 w1 hE1).mono ?_
      rintro e w2 ⟨rfl, hb2⟩
      by_cases hi : Lib.itoa v = s.data.toList
      · have hd : ((S (Lib.itoa v)).toList == s.toList) = true := eqb_yes (by rw [S_bytes]; exact hi)
        have HI := Lib.hid hi; clear hi
        go_wp2_with fail
        go_ret2
        refine ⟨v, ?_, ?_, ?_⟩
        · rw [HN.out, if_pos HI.out]; rfl
        · rw [HN.out, if_pos HI.out]; rintro x h; simpa using h
        · exact HB1.out.trans (hb2.mono HB1.out.size)
      · have hd : ((S (Lib.itoa v)).toList == s.toList) = false := eqb_no (by rw [S_bytes]; exact hi)
        have HI := Lib.hid hi; clear hi
        go_wp2_with fail
        go_ret2
        refine ⟨v, ?_, ?_, ?_⟩
        · rw [HN.out, if_neg HI.out]; rfl
        · rw [HN.out, if_neg HI.out]; rintro x h; cases h
        · exact HB1.out.trans (hb2.mono HB1.out.size)
    · rw [if_neg (by omega)] at hN
      have HL := Lib.hid hsl; clear hsl
      have HN := Lib.hid hN; clear hN
      go_enter Tryd.func57, Tryd.ntmps57
      go_wp2_with fail
      refine c1.mono ?_
      rintro e w1 ⟨rfl, hb1⟩
      go_wp2_with fail
      go_ret2
      refine ⟨v, ?_, ?_, hb1⟩
      · rw [HN.out]; rfl
      · rw [HN.out]; rintro x h; cases h
  · have hN := numV_no s.data.toList (fun v h => hok ⟨v, h⟩)
    have c1 := atoi_no s hs (fun v h => hok ⟨v, h⟩) w hE
    clear hok hsl
    have HN := Lib.hid hN; clear hN
    go_enter Tryd.func57, Tryd.ntmps57
    go_wp2_with fail
    refine c1.mono ?_
    rintro e w1 ⟨⟨n, t, v, rfl⟩, hb1⟩
    go_wp2_with fail
    go_ret2
    refine ⟨n, ?_, ?_, hb1⟩
    · rw [HN.out]; rfl
    · rw [HN.out]; rintro x h; cases h
end Go.Proofs.YtdhfcelhgnjpcaaDoor
