/-
  store.Key tells whether a string is a key; nothing in memory turns.
-/
import Derived.Test.YtdhfcelhgnjpcaaDoorProg
import Derived.Test.YtdhfcelhgnjpcaaDoorOrd
namespace Go.Proofs.YtdhfcelhgnjpcaaDoor
open Go.RowKit

/-- The first k bytes are letters. -/
def KeyTo (s : Str) (k : Nat) : Prop := ∀ j, ∀ h : j < s.size, j < k → lowerB s[j] = true
theorem KeyTo.zero (s : Str) : KeyTo s 0 := fun j _ h => by omega
theorem KeyTo.next {s : Str} {k : Nat} (h : KeyTo s k) (hk : k < s.size) (hl : lowerB s[k] = true) : KeyTo s (k + 1) := fun j hj hjk => by
  by_cases e : j = k
  · subst e; exact hl
  · exact h j hj (by omega)
theorem lowerB_no {c : UInt8} (h : (c.toNat : Int) < 97 ∨ 122 < (c.toNat : Int)) : lowerB c = false := by
  simp [lowerB]; omega
theorem lowerB_yes {c : UInt8} (h : 97 ≤ (c.toNat : Int) ∧ (c.toNat : Int) ≤ 122) : lowerB c = true := by
  simp [lowerB]; omega

set_option maxHeartbeats 400000 in
theorem key_any (s : Str) (w : World) :
    Calls Tryd.prog 79 #[.string s] w fun e w' => e = .returned (.bool (isKey s)) ∧ w = w' := by
  by_cases h0 : s.toList = []
  · have hr := isKey_empty h0
    have he : s.toList.isEmpty = true := by simp [h0]
    go_enter Tryd.func79, Tryd.ntmps79
    go_wp2
    go_ret
    exact ⟨ret_bool hr.symm, rfl⟩
  · have he : s.toList.isEmpty = false := by simpa using h0
    by_cases h6 : 6 < s.size
    · have hr := isKey_long h6
      go_enter Tryd.func79, Tryd.ntmps79
      go_wp2
      go_ret
      exact ⟨ret_bool hr.symm, rfl⟩
    · have h6' : s.size ≤ 6 := by omega
      have hgood := isKey_good h0 h6'
      have HG := Lib.hid hgood; clear hgood
      have H0 := Lib.hid h0; clear h0
      go_enter Tryd.func79, Tryd.ntmps79
      go_wp2
      go_loop [13] (fun i => ∃ k : Nat, k ≤ s.size ∧ i = .int .i64 k ∧ KeyTo s k) (fun i => s.size - (intOf i).toNat)
      case atStart => exact ⟨0, Nat.zero_le _, rfl, KeyTo.zero s⟩
      case round =>
        obtain ⟨k, hk, rfl, hall⟩ := hrel
        have HA := Lib.hid hall; clear hall
        by_cases hlt : k < s.size
        · by_cases hl : 97 ≤ (s[k].toNat : Int)
          · by_cases hu : (s[k].toNat : Int) ≤ 122
            · go_wp2
              go_round
              case rel => exact ⟨k + 1, by omega, by go_num, HA.out.next hlt (lowerB_yes ⟨hl, hu⟩)⟩
              case measure => simp [intOf]; omega
            · go_wp2
              go_ret
              exact ⟨ret_bool (isKey_bad k hlt (lowerB_no (.inr (by omega)))).symm, rfl⟩
          · go_wp2
            go_ret
            exact ⟨ret_bool (isKey_bad k hlt (lowerB_no (.inl (by omega)))).symm, rfl⟩
        · go_wp2
          go_ret
          exact ⟨ret_bool (HG.out fun j hj => HA.out j hj (by omega)).symm, rfl⟩
end Go.Proofs.YtdhfcelhgnjpcaaDoor
