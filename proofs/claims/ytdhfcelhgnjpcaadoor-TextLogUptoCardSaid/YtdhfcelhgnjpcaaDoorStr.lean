/-
  Strings and their bytes. No program is named here.
-/
import Derived.Test.YtdhfcelhgnjpcaaDoorTextPlain
namespace Go.Proofs.YtdhfcelhgnjpcaaDoor
open Go.RowKit

/-- A string of its bytes. -/
def S (l : Bs) : Str := ⟨l.toArray⟩
theorem S_bytes (l : Bs) : (S l).data.toList = l := by simp [S]
theorem S_toList (l : Bs) : (S l).toList = l := by rw [ByteArray.toList_eq]; exact S_bytes l
theorem S_size (l : Bs) : (S l).size = l.length := by simp [S, ByteArray.size]
theorem S_eta (s : Str) : S s.data.toList = s := by cases s; simp [S]
theorem S_inj {a b : Bs} (h : S a = S b) : a = b := by have := congrArg (fun s : Str => s.data.toList) h; simpa [S_bytes] using this
theorem S_add (a b : Bs) : S a ++ S b = S (a ++ b) := by
  apply ByteArray.ext; simp [S, ByteArray.data_append]
theorem str_eq {a b : Str} (h : a.data.toList = b.data.toList) : a = b := by rw [← S_eta a, ← S_eta b, h]
theorem eqb_yes {a b : Str} (h : a.data.toList = b.data.toList) : (a.toList == b.toList) = true := by rw [str_eq h]; simp
theorem eqb_no {a b : Str} (h : ¬ a.data.toList = b.data.toList) : (a.toList == b.toList) = false := by
  rw [ByteArray.toList_eq, ByteArray.toList_eq]; simpa using h
theorem S_mk (l : Bs) : (⟨l.toArray⟩ : Str) = S l := rfl
end Go.Proofs.YtdhfcelhgnjpcaaDoor
