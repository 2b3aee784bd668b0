/-
  store.Value, deed.op: may a value, an operation be?
-/
import Derived.Test.YtdhfcelhgnjpcaaDoorDeedPlain
import Derived.Test.YtdhfcelhgnjpcaaDoorKey
namespace Go.Proofs.YtdhfcelhgnjpcaaDoor
open Go.RowKit

def opVal (o : POp) : Value := .agg #[.int .i64 o.kind, .string o.key, .string o.src, .int .i64 o.n]

theorem value_any (n : Int) (w : World) :
    Calls Tryd.prog 80 #[.int .i64 n] w fun e w' => e = .returned (.bool (isValue n)) ∧ w = w' := by
  by_cases h0 : -1000000000 ≤ n
  · by_cases h1 : n ≤ 1000000000
    · have hr : isValue n = true := by simp [isValue, h0, h1]
      have HR := Lib.hid hr; clear hr
      go_enter Tryd.func80, Tryd.ntmps80
      go_wp2_with fail
      go_ret
      exact ⟨ret_bool HR.out.symm, rfl⟩
    · have hr : isValue n = false := by simp [isValue, h1]
      have HR := Lib.hid hr; clear hr
      go_enter Tryd.func80, Tryd.ntmps80
      go_wp2_with fail
      go_ret
      exact ⟨ret_bool HR.out.symm, rfl⟩
  · have hr : isValue n = false := by simp [isValue, h0]
    have HR := Lib.hid hr; clear hr
    go_enter Tryd.func80, Tryd.ntmps80
    go_wp2_with fail
    go_ret
    exact ⟨ret_bool HR.out.symm, rfl⟩

set_option maxHeartbeats 4000000 in
theorem op_any (o : POp) (w : World) :
    Calls Tryd.prog 52 #[opVal o] w fun e w' => e = .returned (.int .i64 (opCheck o)) ∧ Below w.heap.size w w' := by
  obtain ⟨kind, key, src, n⟩ := o
  simp only [opVal]
  have hcase : kind < 1 ∨ 5 < kind ∨ kind = 1 ∨ kind = 2 ∨ kind = 3 ∨ kind = 4 ∨ kind = 5 := by omega
  rcases hcase with h | h | rfl | rfl | rfl | rfl | rfl
  · have hr : opCheck ⟨kind, key, src, n⟩ = 3 := by simp [opCheck, h]
    have HR := Lib.hid hr; clear hr
    go_enter Tryd.func52, Tryd.ntmps52
    go_wp2_with (first | (go_at_call 79; refine (key_any _ _).mono ?_; rintro e w' ⟨rfl, rfl⟩) | (go_at_call 80; refine (value_any _ _).mono ?_; rintro e w' ⟨rfl, rfl⟩))
    go_ret
    exact ⟨ret_int HR.out.symm, below_alloc _ _⟩
  · have h1 : ¬ kind < 1 := by omega
    have hr : opCheck ⟨kind, key, src, n⟩ = 3 := by simp [opCheck, h]
    have HR := Lib.hid hr; clear hr
    go_enter Tryd.func52, Tryd.ntmps52
    go_wp2_with (first | (go_at_call 79; refine (key_any _ _).mono ?_; rintro e w' ⟨rfl, rfl⟩) | (go_at_call 80; refine (value_any _ _).mono ?_; rintro e w' ⟨rfl, rfl⟩))
    go_ret
    exact ⟨ret_int HR.out.symm, below_alloc _ _⟩
  · cases hk : isKey key
    · have hr : opCheck ⟨1, key, src, n⟩ = 3 := by simp [opCheck, hk]
      have HR := Lib.hid hr; clear hr
      go_enter Tryd.func52, Tryd.ntmps52
      go_wp2_with (first | (go_at_call 79; refine (key_any _ _).mono ?_; rintro e w' ⟨rfl, rfl⟩) | (go_at_call 80; refine (value_any _ _).mono ?_; rintro e w' ⟨rfl, rfl⟩))
      go_ret
      exact ⟨ret_int HR.out.symm, below_alloc _ _⟩
    · cases hv : isValue n
      · have hr : opCheck ⟨1, key, src, n⟩ = 1 := by simp [opCheck, hk, hv]
        have HR := Lib.hid hr; clear hr
        go_enter Tryd.func52, Tryd.ntmps52
        go_wp2_with (first | (go_at_call 79; refine (key_any _ _).mono ?_; rintro e w' ⟨rfl, rfl⟩) | (go_at_call 80; refine (value_any _ _).mono ?_; rintro e w' ⟨rfl, rfl⟩))
        go_ret
        exact ⟨ret_int HR.out.symm, below_alloc _ _⟩
      · have hr : opCheck ⟨1, key, src, n⟩ = 0 := by simp [opCheck, hk, hv]
        have HR := Lib.hid hr; clear hr
        go_enter Tryd.func52, Tryd.ntmps52
        go_wp2_with (first | (go_at_call 79; refine (key_any _ _).mono ?_; rintro e w' ⟨rfl, rfl⟩) | (go_at_call 80; refine (value_any _ _).mono ?_; rintro e w' ⟨rfl, rfl⟩))
        go_ret
        exact ⟨ret_int HR.out.symm, below_alloc _ _⟩
  · cases hk : isKey key
    · have hr : opCheck ⟨2, key, src, n⟩ = 3 := by simp [opCheck, hk]
      have HR := Lib.hid hr; clear hr
      go_enter Tryd.func52, Tryd.ntmps52
      go_wp2_with (first | (go_at_call 79; refine (key_any _ _).mono ?_; rintro e w' ⟨rfl, rfl⟩) | (go_at_call 80; refine (value_any _ _).mono ?_; rintro e w' ⟨rfl, rfl⟩))
      go_ret
      exact ⟨ret_int HR.out.symm, below_alloc _ _⟩
    · cases hv : isValue n
      · have hr : opCheck ⟨2, key, src, n⟩ = 1 := by simp [opCheck, hk, hv]
        have HR := Lib.hid hr; clear hr
        go_enter Tryd.func52, Tryd.ntmps52
        go_wp2_with (first | (go_at_call 79; refine (key_any _ _).mono ?_; rintro e w' ⟨rfl, rfl⟩) | (go_at_call 80; refine (value_any _ _).mono ?_; rintro e w' ⟨rfl, rfl⟩))
        go_ret
        exact ⟨ret_int HR.out.symm, below_alloc _ _⟩
      · have hr : opCheck ⟨2, key, src, n⟩ = 0 := by simp [opCheck, hk, hv]
        have HR := Lib.hid hr; clear hr
        go_enter Tryd.func52, Tryd.ntmps52
        go_wp2_with (first | (go_at_call 79; refine (key_any _ _).mono ?_; rintro e w' ⟨rfl, rfl⟩) | (go_at_call 80; refine (value_any _ _).mono ?_; rintro e w' ⟨rfl, rfl⟩))
        go_ret
        exact ⟨ret_int HR.out.symm, below_alloc _ _⟩
  · cases hk : isKey key
    · have hr : opCheck ⟨3, key, src, n⟩ = 3 := by simp [opCheck, hk]
      have HR := Lib.hid hr; clear hr
      go_enter Tryd.func52, Tryd.ntmps52
      go_wp2_with (first | (go_at_call 79; refine (key_any _ _).mono ?_; rintro e w' ⟨rfl, rfl⟩) | (go_at_call 80; refine (value_any _ _).mono ?_; rintro e w' ⟨rfl, rfl⟩))
      go_ret
      exact ⟨ret_int HR.out.symm, below_alloc _ _⟩
    · cases hs : isKey src
      · have hr : opCheck ⟨3, key, src, n⟩ = 3 := by simp [opCheck, hk, hs]
        have HR := Lib.hid hr; clear hr
        go_enter Tryd.func52, Tryd.ntmps52
        go_wp2_with (first | (go_at_call 79; refine (key_any _ _).mono ?_; rintro e w' ⟨rfl, rfl⟩) | (go_at_call 80; refine (value_any _ _).mono ?_; rintro e w' ⟨rfl, rfl⟩))
        go_ret
        exact ⟨ret_int HR.out.symm, below_alloc _ _⟩
      · by_cases he : src = key
        · have hq : (src.toList == key.toList) = true := eqb_yes (by rw [he])
          have hr : opCheck ⟨3, key, src, n⟩ = 3 := by rw [opCheck]; simp [he]
          have HR := Lib.hid hr; clear hr he
          go_enter Tryd.func52, Tryd.ntmps52
          go_wp2_with (first | (go_at_call 79; refine (key_any _ _).mono ?_; rintro e w' ⟨rfl, rfl⟩) | (go_at_call 80; refine (value_any _ _).mono ?_; rintro e w' ⟨rfl, rfl⟩))
          go_ret
          exact ⟨ret_int HR.out.symm, below_alloc _ _⟩
        · have hq : (src.toList == key.toList) = false := eqb_no (fun h => he (str_eq h))
          have hr : opCheck ⟨3, key, src, n⟩ = 0 := by simp [opCheck, hk, hs, he]
          have HR := Lib.hid hr; clear hr he
          go_enter Tryd.func52, Tryd.ntmps52
          go_wp2_with (first | (go_at_call 79; refine (key_any _ _).mono ?_; rintro e w' ⟨rfl, rfl⟩) | (go_at_call 80; refine (value_any _ _).mono ?_; rintro e w' ⟨rfl, rfl⟩))
          go_ret
          exact ⟨ret_int HR.out.symm, below_alloc _ _⟩
  · cases hk : isKey key
    · have hr : opCheck ⟨4, key, src, n⟩ = 3 := by simp [opCheck, hk]
      have HR := Lib.hid hr; clear hr
      go_enter Tryd.func52, Tryd.ntmps52
      go_wp2_with (first | (go_at_call 79; refine (key_any _ _).mono ?_; rintro e w' ⟨rfl, rfl⟩) | (go_at_call 80; refine (value_any _ _).mono ?_; rintro e w' ⟨rfl, rfl⟩))
      go_ret
      exact ⟨ret_int HR.out.symm, below_alloc _ _⟩
    · cases hv : isValue n
      · have hr : opCheck ⟨4, key, src, n⟩ = 1 := by simp [opCheck, hk, hv]
        have HR := Lib.hid hr; clear hr
        go_enter Tryd.func52, Tryd.ntmps52
        go_wp2_with (first | (go_at_call 79; refine (key_any _ _).mono ?_; rintro e w' ⟨rfl, rfl⟩) | (go_at_call 80; refine (value_any _ _).mono ?_; rintro e w' ⟨rfl, rfl⟩))
        go_ret
        exact ⟨ret_int HR.out.symm, below_alloc _ _⟩
      · have hr : opCheck ⟨4, key, src, n⟩ = 0 := by simp [opCheck, hk, hv]
        have HR := Lib.hid hr; clear hr
        go_enter Tryd.func52, Tryd.ntmps52
        go_wp2_with (first | (go_at_call 79; refine (key_any _ _).mono ?_; rintro e w' ⟨rfl, rfl⟩) | (go_at_call 80; refine (value_any _ _).mono ?_; rintro e w' ⟨rfl, rfl⟩))
        go_ret
        exact ⟨ret_int HR.out.symm, below_alloc _ _⟩
  · cases hk : isKey key
    · have hr : opCheck ⟨5, key, src, n⟩ = 3 := by simp [opCheck, hk]
      have HR := Lib.hid hr; clear hr
      go_enter Tryd.func52, Tryd.ntmps52
      go_wp2_with (first | (go_at_call 79; refine (key_any _ _).mono ?_; rintro e w' ⟨rfl, rfl⟩) | (go_at_call 80; refine (value_any _ _).mono ?_; rintro e w' ⟨rfl, rfl⟩))
      go_ret
      exact ⟨ret_int HR.out.symm, below_alloc _ _⟩
    · cases hs : isKey src
      · have hr : opCheck ⟨5, key, src, n⟩ = 3 := by simp [opCheck, hk, hs]
        have HR := Lib.hid hr; clear hr
        go_enter Tryd.func52, Tryd.ntmps52
        go_wp2_with (first | (go_at_call 79; refine (key_any _ _).mono ?_; rintro e w' ⟨rfl, rfl⟩) | (go_at_call 80; refine (value_any _ _).mono ?_; rintro e w' ⟨rfl, rfl⟩))
        go_ret
        exact ⟨ret_int HR.out.symm, below_alloc _ _⟩
      · by_cases he : src = key
        · have hq : (src.toList == key.toList) = true := eqb_yes (by rw [he])
          have hr : opCheck ⟨5, key, src, n⟩ = 3 := by rw [opCheck]; simp [he]
          have HR := Lib.hid hr; clear hr he
          go_enter Tryd.func52, Tryd.ntmps52
          go_wp2_with (first | (go_at_call 79; refine (key_any _ _).mono ?_; rintro e w' ⟨rfl, rfl⟩) | (go_at_call 80; refine (value_any _ _).mono ?_; rintro e w' ⟨rfl, rfl⟩))
          go_ret
          exact ⟨ret_int HR.out.symm, below_alloc _ _⟩
        · have hq : (src.toList == key.toList) = false := eqb_no (fun h => he (str_eq h))
          cases hv : isValue n
          · have hr : opCheck ⟨5, key, src, n⟩ = 1 := by simp [opCheck, hk, hs, he, hv]
            have HR := Lib.hid hr; clear hr he
            go_enter Tryd.func52, Tryd.ntmps52
            go_wp2_with (first | (go_at_call 79; refine (key_any _ _).mono ?_; rintro e w' ⟨rfl, rfl⟩) | (go_at_call 80; refine (value_any _ _).mono ?_; rintro e w' ⟨rfl, rfl⟩))
            go_ret
            exact ⟨ret_int HR.out.symm, below_alloc _ _⟩
          · by_cases hn : n < 0
            · have hr : opCheck ⟨5, key, src, n⟩ = 1 := by simp [opCheck, hk, hs, he, hv, hn]
              have HR := Lib.hid hr; clear hr he
              go_enter Tryd.func52, Tryd.ntmps52
              go_wp2_with (first | (go_at_call 79; refine (key_any _ _).mono ?_; rintro e w' ⟨rfl, rfl⟩) | (go_at_call 80; refine (value_any _ _).mono ?_; rintro e w' ⟨rfl, rfl⟩))
              go_ret
              exact ⟨ret_int HR.out.symm, below_alloc _ _⟩
            · have hr : opCheck ⟨5, key, src, n⟩ = 0 := by simp [opCheck, hk, hs, he, hv, hn]
              have HR := Lib.hid hr; clear hr he
              go_enter Tryd.func52, Tryd.ntmps52
              go_wp2_with (first | (go_at_call 79; refine (key_any _ _).mono ?_; rintro e w' ⟨rfl, rfl⟩) | (go_at_call 80; refine (value_any _ _).mono ?_; rintro e w' ⟨rfl, rfl⟩))
              go_ret
              exact ⟨ret_int HR.out.symm, below_alloc _ _⟩
end Go.Proofs.YtdhfcelhgnjpcaaDoor
