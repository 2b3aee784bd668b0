/-
  text.op: an operation as text.
-/
import Derived.Test.YtdhfcelhgnjpcaaDoorDeedCheck
import Derived.Test.YtdhfcelhgnjpcaaDoorEnv
namespace Go.Proofs.YtdhfcelhgnjpcaaDoor
open Go.RowKit

theorem cat2 (k : Str) (c : UInt8) (t : Bs) : k ++ (⟨#[c]⟩ : Str) ++ S t = S (k.data.toList ++ c :: t) := by
  apply ByteArray.ext; simp [S, ByteArray.data_append]
theorem cat2s (k : Str) (c : UInt8) (t : Str) : k ++ (⟨#[c]⟩ : Str) ++ t = S (k.data.toList ++ c :: t.data.toList) := by
  apply ByteArray.ext; simp [S, ByteArray.data_append]
theorem cat3 (k : Str) (c : UInt8) (s : Str) (d : UInt8) (t : Bs) : k ++ (⟨#[c]⟩ : Str) ++ s ++ (⟨#[d]⟩ : Str) ++ S t = S (k.data.toList ++ c :: (s.data.toList ++ d :: t)) := by
  apply ByteArray.ext; simp [S, ByteArray.data_append]
set_option maxHeartbeats 4000000 in
theorem opText_any (o : POp) (h : OpOk o) (hr : -9223372036854775808 ≤ o.n ∧ o.n ≤ 9223372036854775807) (w : World) (hE : Env w) :
    Calls Tryd.prog 47 #[opVal o] w fun e w' => e = .returned (.string (S (opText o))) ∧ Below w.heap.size w w' := by
  have hlo := h.lo
  have hhi := h.hi
  have hks : o.key.size ≤ 6 := isKey_size6 h.key
  have hss : o.kind = 3 ∨ o.kind = 5 → o.src.size ≤ 6 := fun hk => isKey_size6 (h.src hk).1
  have hval := h.val
  clear h
  obtain ⟨kind, key, src, n⟩ := o
  simp only [opVal] at *
  obtain ⟨nn, hnn⟩ : ∃ nn : Int, n = nn := ⟨_, rfl⟩
  have hcase : kind = 1 ∨ kind = 2 ∨ kind = 3 ∨ kind = 4 ∨ kind = 5 := by omega
  have HE := Lib.hid hE; clear hE hnn nn
  rcases hcase with rfl | rfl | rfl | rfl | rfl
  · have hv := hval (by decide)
    have hql : (S (Lib.itoa n)).size ≤ 11 := by rw [S_size]; exact itoa_len hv.1 hv.2
    clear hval hss
    go_enter Tryd.func47, Tryd.ntmps47
    go_wp2_with fail
    have hb0 := below_alloc w (.cells #[.int .i64 1, .string key, .string src, .int .i64 n] 54)
    refine (itoa_any n (by omega) (by omega) _ (HE.out.below hb0)).mono ?_
    rintro e w1 ⟨rfl, hb1⟩
    have HB := Lib.hid (below_more hb0 hb1 (Nat.le_refl _))
    have hz := hb1.size
    simp at hz
    obtain ⟨hc1, hf1⟩ := bcell hb1
    clear hb0 hb1
    obtain ⟨q, hq⟩ : ∃ q, S (Lib.itoa n) = q := ⟨_, rfl⟩
    rw [hq] at hql ⊢
    have HQ := Lib.hid hq; clear hq
    go_wp2_with fail
    go_ret
    exact ⟨by rw [← HQ.out]; exact congrArg (fun s => Ending.returned (.string s)) (cat2 key 61 _), HB.out⟩
  · have hv := hval (by decide)
    have hql : (S (Lib.itoa n)).size ≤ 11 := by rw [S_size]; exact itoa_len hv.1 hv.2
    clear hval hss
    go_enter Tryd.func47, Tryd.ntmps47
    go_wp2_with fail
    have hb0 := below_alloc w (.cells #[.int .i64 2, .string key, .string src, .int .i64 n] 54)
    refine (itoa_any n (by omega) (by omega) _ (HE.out.below hb0)).mono ?_
    rintro e w1 ⟨rfl, hb1⟩
    have HB := Lib.hid (below_more hb0 hb1 (Nat.le_refl _))
    have hz := hb1.size
    simp at hz
    obtain ⟨hc1, hf1⟩ := bcell hb1
    clear hb0 hb1
    obtain ⟨q, hq⟩ : ∃ q, S (Lib.itoa n) = q := ⟨_, rfl⟩
    rw [hq] at hql ⊢
    have HQ := Lib.hid hq; clear hq
    go_wp2_with fail
    go_ret
    exact ⟨by rw [← HQ.out]; exact congrArg (fun s => Ending.returned (.string s)) (cat2 key 43 _), HB.out⟩
  · have hsz := hss (.inl rfl)
    clear hval hss
    go_enter Tryd.func47, Tryd.ntmps47
    go_wp2_with fail
    have hb0 := below_alloc w (.cells #[.int .i64 3, .string key, .string src, .int .i64 n] 54)
    refine (itoa_any n (by omega) (by omega) _ (HE.out.below hb0)).mono ?_
    rintro e w1 ⟨rfl, hb1⟩
    have HB := Lib.hid (below_more hb0 hb1 (Nat.le_refl _))
    have hz := hb1.size
    simp at hz
    obtain ⟨hc1, hf1⟩ := bcell hb1
    clear hb0 hb1
    go_wp2_with fail
    go_ret
    exact ⟨congrArg (fun s => Ending.returned (.string s)) (cat2s key 60 src), HB.out⟩
  · have hv := hval (by decide)
    have hql : (S (Lib.itoa n)).size ≤ 11 := by rw [S_size]; exact itoa_len hv.1 hv.2
    clear hval hss
    go_enter Tryd.func47, Tryd.ntmps47
    go_wp2_with fail
    have hb0 := below_alloc w (.cells #[.int .i64 4, .string key, .string src, .int .i64 n] 54)
    refine (itoa_any n (by omega) (by omega) _ (HE.out.below hb0)).mono ?_
    rintro e w1 ⟨rfl, hb1⟩
    have HB := Lib.hid (below_more hb0 hb1 (Nat.le_refl _))
    have hz := hb1.size
    simp at hz
    obtain ⟨hc1, hf1⟩ := bcell hb1
    clear hb0 hb1
    obtain ⟨q, hq⟩ : ∃ q, S (Lib.itoa n) = q := ⟨_, rfl⟩
    rw [hq] at hql ⊢
    have HQ := Lib.hid hq; clear hq
    go_wp2_with fail
    go_ret
    exact ⟨by rw [← HQ.out]; exact congrArg (fun s => Ending.returned (.string s)) (cat2 key 63 _), HB.out⟩
  · have hv := hval (by decide)
    have hql : (S (Lib.itoa n)).size ≤ 11 := by rw [S_size]; exact itoa_len hv.1 hv.2
    have hsz := hss (.inr rfl)
    clear hval hss
    go_enter Tryd.func47, Tryd.ntmps47
    go_wp2_with fail
    have hb0 := below_alloc w (.cells #[.int .i64 5, .string key, .string src, .int .i64 n] 54)
    refine (itoa_any n (by omega) (by omega) _ (HE.out.below hb0)).mono ?_
    rintro e w1 ⟨rfl, hb1⟩
    have HB := Lib.hid (below_more hb0 hb1 (Nat.le_refl _))
    have hz := hb1.size
    simp at hz
    obtain ⟨hc1, hf1⟩ := bcell hb1
    clear hb0 hb1
    obtain ⟨q, hq⟩ : ∃ q, S (Lib.itoa n) = q := ⟨_, rfl⟩
    rw [hq] at hql ⊢
    have HQ := Lib.hid hq; clear hq
    go_wp2_with fail
    go_ret
    exact ⟨by rw [← HQ.out]; exact congrArg (fun s => Ending.returned (.string s)) (cat3 key 60 src 42 _), HB.out⟩
end Go.Proofs.YtdhfcelhgnjpcaaDoor
