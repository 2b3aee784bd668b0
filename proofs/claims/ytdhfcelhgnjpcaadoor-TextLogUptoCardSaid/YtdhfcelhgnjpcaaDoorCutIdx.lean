/-
  Where a byte stands: the library's words for it, and the plain cuts. No program is named here.
-/
import Derived.Test.YtdhfcelhgnjpcaaDoorEntryPlain
import Derived.Lib.Bytealg
import Derived.Lib.LastIndexByte
import Derived.Lib.Strings
import Derived.Lib.IndexBytes
namespace Go.Proofs.YtdhfcelhgnjpcaaDoor
open Go.RowKit

theorem idx_some {c : UInt8} : ∀ {l a r : Bs}, cut1 c l = some (a, r) → Lib.indexByte l c = (a.length : Int)
  | [], a, r, h => by cases h
  | b :: t, a, r, h => by
    unfold cut1 at h
    by_cases hb : b = c
    · rw [if_pos hb] at h; cases h
      simp [Lib.indexByte, hb]
    · rw [if_neg hb] at h
      cases ht : cut1 c t with
      | none => rw [ht] at h; cases h
      | some x =>
        obtain ⟨a', r'⟩ := x
        rw [ht] at h; cases h
        have ih := idx_some ht
        have h1 : (b == c) = false := by simpa using hb
        have h2 : (((a'.length : Nat) : Int) == -1) = false := by simp
        simp only [Lib.indexByte, h1, ih, h2, Bool.false_eq_true, if_false, List.length_cons]
        omega
theorem idx_none {c : UInt8} : ∀ {l : Bs}, cut1 c l = none → Lib.indexByte l c = -1
  | [], _ => rfl
  | b :: t, h => by
    unfold cut1 at h
    by_cases hb : b = c
    · rw [if_pos hb] at h; cases h
    · rw [if_neg hb] at h
      have ht : cut1 c t = none := by simpa using h
      have ih := idx_none ht
      have h1 : (b == c) = false := by simpa using hb
      simp [Lib.indexByte, h1, ih]
theorem s_at (l : Bs) (j : Nat) (hj : j < l.length) : (S l).data[j]! = l[j] := by
  simp [S, hj]
theorem last_some {l a r : Bs} (h : cutLast 32 l = some (a, r)) : Lib.lastIndexByte (S l) 32 = (a.length : Int) := by
  obtain ⟨hl, hr⟩ := cutLast_some h
  have hlen : l.length = a.length + 1 + r.length := by rw [hl]; simp; omega
  have hat : l[a.length]'(by omega) = 32 := by subst hl; simp
  unfold Lib.lastIndexByte
  rcases Lib.lastIdx_spec (S l) 32 (S l).size with ⟨_, h2⟩ | ⟨i, hi, h1, h2, h3⟩
  · have := h2 a.length (by rw [S_size]; omega)
    rw [s_at l _ (by omega), hat] at this
    exact absurd rfl this
  · rw [S_size] at hi
    rw [h1]
    by_cases e1 : i < a.length
    · have := h3 a.length e1 (by rw [S_size]; omega)
      rw [s_at l _ (by omega), hat] at this
      exact absurd rfl this
    · by_cases e2 : i = a.length
      · rw [e2]
      · exfalso
        rw [s_at l i hi] at h2
        have hm : l[i] ∈ r := by
          have : l[i]? = r[i - a.length - 1]? := by
            rw [hl, List.getElem?_append_right (by omega)]
            rw [show i - a.length = (i - a.length - 1) + 1 from by omega, List.getElem?_cons_succ]; rfl
          rw [List.getElem?_eq_getElem hi] at this
          exact List.mem_of_getElem? this.symm
        apply hr
        have : l[i] = 32 := UInt8.toNat_inj.1 (by simpa using Int.ofNat.inj h2)
        rwa [this] at hm
theorem last_none {l : Bs} (h : cutLast 32 l = none) : Lib.lastIndexByte (S l) 32 = -1 := by
  have hno := cutLast_no h
  unfold Lib.lastIndexByte
  rcases Lib.lastIdx_spec (S l) 32 (S l).size with ⟨h1, _⟩ | ⟨i, hi, _, h2, _⟩
  · exact h1
  · rw [S_size] at hi
    rw [s_at l i hi] at h2
    exfalso
    apply hno
    have : l[i] = 32 := UInt8.toNat_inj.1 (by simpa using Int.ofNat.inj h2)
    rw [← this]; exact List.getElem_mem hi
theorem pre_yes {s : Bs} (h : s.take 4 = mapPre) : Lib.hasPrefix s mapPre = true ∧ Lib.trimPrefix s mapPre = s.drop 4 := by
  have h1 : Lib.hasPrefix s mapPre = true := by
    unfold Lib.hasPrefix
    rw [List.isPrefixOf_iff_prefix]
    exact ⟨s.drop 4, by rw [← h, List.take_append_drop]⟩
  exact ⟨h1, by unfold Lib.trimPrefix; rw [if_pos h1]; rfl⟩
theorem pre_no {s : Bs} (h : ¬ s.take 4 = mapPre) : Lib.hasPrefix s mapPre = false ∧ Lib.trimPrefix s mapPre = s := by
  have h1 : Lib.hasPrefix s mapPre = false := by
    unfold Lib.hasPrefix
    rw [Bool.eq_false_iff]
    intro hp
    rw [List.isPrefixOf_iff_prefix] at hp
    obtain ⟨t, rfl⟩ := hp
    exact h (by simp [mapPre])
  exact ⟨h1, by unfold Lib.trimPrefix; rw [if_neg (by rw [h1]; simp)]⟩
theorem ext_to (a r : Bs) : (S (a ++ r)).extract 0 a.length = S a := by
  apply str_eq; rw [Lib.extract_data, S_bytes, S_bytes]; simp
theorem ext_mid (a b r : Bs) : (S (a ++ (b ++ r))).extract a.length (a.length + b.length) = S b := by
  apply str_eq; rw [Lib.extract_data, S_bytes, S_bytes]; simp
end Go.Proofs.YtdhfcelhgnjpcaaDoor
