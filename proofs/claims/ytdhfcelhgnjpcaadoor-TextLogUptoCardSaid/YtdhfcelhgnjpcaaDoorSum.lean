/-
  text.Sum: the sum of a text's bytes; nothing in memory turns.
-/
import Derived.Test.YtdhfcelhgnjpcaaDoorProg
import Derived.Test.YtdhfcelhgnjpcaaDoorEntryPlain
namespace Go.Proofs.YtdhfcelhgnjpcaaDoor
open Go.RowKit

theorem wsum_one (i : Nat) (b : UInt8) : wsumFrom i [b] = (i + 1) * b.toNat := by simp [wsumFrom]
theorem sum_next (l : Bs) (k : Nat) (h : k < l.length) : (sumV (l.take (k + 1)) : Int) = ((sumV (l.take k) : Int) + ((k : Int) + 1) * ((l[k]).toNat : Int)) % 65521 := by
  have e : l.take (k + 1) = l.take k ++ [l[k]] := by rw [List.take_succ_eq_append_getElem h]
  have : sumV (l.take (k + 1)) = (sumV (l.take k) + (k + 1) * (l[k]).toNat) % 65521 := by
    unfold sumV
    rw [e, wsum_append, wsum_one]
    simp only [Nat.zero_add, List.length_take]
    rw [Nat.min_eq_left (by omega)]
    omega
  obtain ⟨q, hq⟩ : ∃ q : Nat, sumV (l.take k) = q := ⟨_, rfl⟩
  obtain ⟨x, hx⟩ : ∃ x : Nat, (l[k]).toNat = x := ⟨_, rfl⟩
  obtain ⟨P, hP⟩ : ∃ P : Nat, (k + 1) * x = P := ⟨_, rfl⟩
  have hP' : ((k : Int) + 1) * (x : Int) = (P : Int) := by rw [← hP, Int.natCast_mul]; rfl
  rw [this, hq, hx, hP, hP']
  omega

set_option maxHeartbeats 1000000 in
set_option maxRecDepth 100000 in
theorem sum_any (s : Str) (hs : s.size ≤ 1099511627776) (w : World) :
    Calls Tryd.prog 29 #[.string s] w fun e w' => e = .returned (.int .i64 (sumV s.data.toList)) ∧ w = w' := by
  go_enter Tryd.func29, Tryd.ntmps29
  go_wp2
  go_loop [3, 7] (fun t i => ∃ k : Nat, k ≤ s.size ∧ i = .int .i64 k ∧ t = .int .i64 (sumV (s.data.toList.take k))) (fun _ i => s.size - (intOf i).toNat)
  case atStart => exact ⟨0, Nat.zero_le _, rfl, rfl⟩
  case round =>
    obtain ⟨k, hk, rfl, rfl⟩ := hrel
    by_cases hlt : k < s.size
    · have hn := sum_next s.data.toList k (by simpa using hlt)
      have hq0 := sumV_lt (s.data.toList.take k)
      obtain ⟨q, hq⟩ : ∃ q : Nat, sumV (s.data.toList.take k) = q := ⟨_, rfl⟩
      rw [hq] at hn hq0 ⊢
      have HN := Lib.hid hn; clear hn
      clear hq
      have hc : ((s[k]).toNat : Int) < 256 := by have := (s[k]).toNat_lt; omega
      have hc0 : (0 : Int) ≤ ((s[k]).toNat : Int) := by omega
      have hp0 : (0 : Int) ≤ ((k : Int) + 1) * ((s[k]).toNat : Int) := Int.mul_nonneg (by omega) hc0
      have hp1 : ((k : Int) + 1) * ((s[k]).toNat : Int) ≤ 1099511627777 * 256 := Int.mul_le_mul (by omega) (by omega) hc0 (by omega)
      go_wp2
      go_round
      case rel => exact ⟨k + 1, by omega, by go_num, by rw [HN.out]; rfl⟩
      case measure => simp [intOf]; omega
    · obtain rfl : k = s.size := by omega
      go_wp2
      go_ret
      exact ⟨ret_int (by rw [List.take_of_length_le (by simp)]), rfl⟩
end Go.Proofs.YtdhfcelhgnjpcaaDoor
