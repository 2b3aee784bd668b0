/-
  slices.BinarySearch at []string, of a sorted slice: the place of the string, and whether it is there; nothing turns.
-/
import Derived.Test.YthicdmiacmbbeaaDoorCheck
namespace Go.Proofs.YthicdmiacmbbeaaDoor
open Go.RowKit

set_option maxHeartbeats 1000000 in
theorem bs_any (ao : Option Addr) (n c : Nat) (l : List Str) (x : Str) (w : World) (h : Sl w 1 ao n c (l.map .string)) (hs : Srt l) (hn : n ≤ 1099511627776) :
    Calls Tryd.prog 78 #[.slice ao n c, .string x] w fun e w' => e = .returned (.tuple #[.int .i64 (lb l x : Nat), .bool (hasAt l x)]) ∧ w = w' := by
  have hl : l.length = n := by have := h.len; simpa using this
  have HL := Lib.hid hl; clear hl
  go_enter Tryd.func78, Tryd.ntmps78
  go_wp2_with fail
  go_loop [7, 8] (fun i j => ∃ a b : Nat, a ≤ b ∧ b ≤ n ∧ i = .int .i64 a ∧ j = .int .i64 b ∧ (∀ k, k < a → slt (l.getD k noStr) x = true) ∧ (b < n → slt (l.getD b noStr) x = false)) (fun i j => (intOf j).toNat - (intOf i).toNat)
  case atStart => exact ⟨0, n, by omega, by omega, rfl, rfl, fun k hk => by omega, fun hk => by omega⟩
  case round =>
    obtain ⟨i, j, hij, hj, rfl, rfl, hlo, hhi⟩ := hrel
    have LO := Lib.hid hlo; clear hlo
    have HI := Lib.hid hhi; clear hhi
    by_cases hlt : i < j
    · obtain ⟨m, hm⟩ : ∃ m : Nat, (i + j) / 2 = m := ⟨_, rfl⟩
      have hmi : i ≤ m := by omega
      have hmj : m < j := by omega
      have hh : ((i : Int) + (j : Int)) / 2 = (m : Int) := by omega
      obtain ⟨b, off, rfl, hb, hc⟩ := h.str m (by omega)
      obtain ⟨y, hy⟩ : ∃ y, l.getD m noStr = y := ⟨_, rfl⟩
      rw [hy] at hc
      have HY := Lib.hid hy; clear hy
      have HM := Lib.hid hm; clear hm
      cases hlt2 : slt y x
      · have hlt3 : Op.bytesLess y.toList x.toList = false := hlt2
        have H2 := Lib.hid hlt2; clear hlt2
        go_wp2
        go_round
        case rel => exact ⟨i, m, by omega, by omega, rfl, rfl, LO.out, fun _ => by rw [HY.out]; exact H2.out⟩
        case measure => simp [intOf]; omega
      · have hlt3 : Op.bytesLess y.toList x.toList = true := hlt2
        have H2 := Lib.hid hlt2; clear hlt2
        go_wp2
        go_round
        case rel => exact ⟨m + 1, j, by omega, by omega, by go_num, rfl, fun k hk => hs.before (j := m) (by omega) (by rw [HL.out]; omega) (by rw [HY.out]; exact H2.out), HI.out⟩
        case measure => simp [intOf]; omega
    · obtain rfl : i = j := by omega
      have hlb : lb l x = i := lb_eq l x i (by rw [HL.out]; omega) LO.out (fun hk => HI.out (by rw [HL.out] at hk; exact hk))
      have HB := Lib.hid hlb; clear hlb
      by_cases hin : i < n
      · obtain ⟨b, off, rfl, hb, hc⟩ := h.str i hin
        obtain ⟨y, hy⟩ : ∃ y, l.getD i noStr = y := ⟨_, rfl⟩
        rw [hy] at hc
        have HY := Lib.hid hy; clear hy
        by_cases he : y = x
        · subst he
          have hr := hasAt_yes HB.out (by rw [HL.out]; exact hin) HY.out
          have HR := Lib.hid hr; clear hr
          go_wp2
          go_ret2
          exact ⟨by rw [HR.out, HB.out]; rfl, rfl⟩
        · have hr := hasAt_no HB.out (by rw [HL.out]; exact hin) (by rw [HY.out]; exact he)
          have HR := Lib.hid hr; clear hr
          have hne : (y.toList == x.toList) = false := by rw [beq_toList]; simpa using he
          clear he
          go_wp2
          go_ret2
          exact ⟨by rw [HR.out, HB.out]; rfl, rfl⟩
      · have hr := hasAt_end HB.out (by rw [HL.out]; exact hin)
        have HR := Lib.hid hr; clear hr
        go_wp2
        go_ret2
        exact ⟨by rw [HR.out, HB.out]; rfl, rfl⟩
end Go.Proofs.YthicdmiacmbbeaaDoor
