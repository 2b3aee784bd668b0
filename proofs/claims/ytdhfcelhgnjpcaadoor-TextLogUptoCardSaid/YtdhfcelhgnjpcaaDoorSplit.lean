/-
  strings.Split at one byte: the words of spl.
-/
import Derived.Test.YtdhfcelhgnjpcaaDoorEnv
namespace Go.Proofs.YtdhfcelhgnjpcaaDoor
open Go.RowKit

theorem splitK_spl (c : UInt8) : ∀ l : Bs, Lib.splitK [c] 0 (Lib.count l [c]) l = spl c l
  | [] => by rw [Lib.count_one]; rfl
  | b :: r => by
    have ih := splitK_spl c r
    rw [Lib.count_one] at ih ⊢
    by_cases h : b = c
    · subst h
      have hix : Lib.index (b :: r) [b] = ((0 : Nat) : Int) := by rw [Lib.index]; simp [List.isPrefixOf]
      rw [List.count_cons_self, Lib.splitK, if_neg (by rw [hix]; decide), hix]
      simp [spl, ih]
    · have hp : ([c] : List UInt8).isPrefixOf (b :: r) = false := by simp [List.isPrefixOf, Ne.symm h]
      have hix : Lib.index (b :: r) [c] = if Lib.index r [c] == -1 then -1 else Lib.index r [c] + 1 := by rw [Lib.index, hp]; simp
      rw [List.count_cons_of_ne h, spl_eq c b r h, ← ih]
      cases hk : r.count c with
      | zero => simp [Lib.splitK]
      | succ k =>
        by_cases hm : Lib.index r [c] = -1
        · exfalso
          have := Lib.count_miss hm
          rw [Lib.count_one] at this; omega
        · have hge : 0 ≤ Lib.index r [c] := by
            have := Lib.index_ge r [c]; omega
          have e1 : (Lib.index r [c] + 1).toNat = (Lib.index r [c]).toNat + 1 := by omega
          rw [if_neg (by simpa using hm)] at hix
          rw [Lib.splitK, Lib.splitK, if_neg (by rw [hix]; simp; omega), if_neg (by simpa using hm), hix, e1]
          simp
theorem splitB_spl (c : UInt8) (s : Str) : Lib.splitB ⟨#[c]⟩ 0 (Lib.countB s ⟨#[c]⟩) s = (spl c s.data.toList).map S := by
  have h := Lib.splitB_data ⟨#[c]⟩ 0 (Lib.countB s ⟨#[c]⟩) s
  have e : Lib.splitK (⟨#[c]⟩ : ByteArray).data.toList 0 (Lib.countB s ⟨#[c]⟩) s.data.toList = spl c s.data.toList := splitK_spl c _
  rw [e] at h
  rw [← h, List.map_map]
  have : (S ∘ fun x : ByteArray => x.data.toList) = id := by funext x; exact S_eta x
  rw [this, List.map_id]
theorem split_any (s : Str) (c : UInt8) (hs : s.size < 4294967281) (w : World) (hE : Env w) :
    Calls Tryd.prog 49 #[.string s, .string ⟨#[c]⟩] w fun e w' => ∃ ao n, e = .returned (.slice ao n n) ∧ Sl w' 1 ao n n (((spl c s.data.toList).map S).map .string) ∧ n ≤ s.size + 1 ∧ Below w.heap.size w w' := by
  obtain ⟨m, hm⟩ := hE.max
  refine (Tryd.strings_Split s ⟨#[c]⟩ m w hs hm (by simp [ByteArray.size])).mono ?_
  rintro e w' ⟨rfl, rfl⟩
  have hlen : (Lib.splitB ⟨#[c]⟩ 0 (Lib.countB s ⟨#[c]⟩) s).length = Lib.countB s ⟨#[c]⟩ + 1 := Lib.splitB_all ⟨#[c]⟩ (by simp [ByteArray.size]) 0 _ s rfl
  refine ⟨_, _, rfl, ?_, ?_, below_alloc _ _⟩
  · rw [← splitB_spl]
    refine ⟨by simp [hlen], Nat.le_refl _, fun h => (nomatch h), fun j u hu => ⟨_, _, rfl, ?_⟩⟩
    rw [Nat.zero_add, heap_cell (heap_alloc_at3 w _)]
    simpa using hu
  · have := Lib.countB_le ⟨#[c]⟩ (by simp [ByteArray.size]) s.size s (Nat.le_refl _); omega
theorem spl_len (c : UInt8) (s : Str) : (spl c s.data.toList).length ≤ s.size + 1 := by
  have h := splitB_spl c s
  have h2 := congrArg List.length h
  rw [List.length_map] at h2
  have hlen : (Lib.splitB ⟨#[c]⟩ 0 (Lib.countB s ⟨#[c]⟩) s).length = Lib.countB s ⟨#[c]⟩ + 1 := Lib.splitB_all ⟨#[c]⟩ (by simp [ByteArray.size]) 0 _ s rfl
  have := Lib.countB_le ⟨#[c]⟩ (by simp [ByteArray.size]) s.size s (Nat.le_refl _); omega
theorem split_exact (s : Str) (c : UInt8) (hs : s.size < 4294967281) (w : World) (hE : Env w) :
    Calls Tryd.prog 49 #[.string s, .string ⟨#[c]⟩] w fun e w' =>
      e = .returned (.slice (some ⟨w.heap.size, 0, none⟩) (spl c s.data.toList).length (spl c s.data.toList).length) ∧ w' = w.alloc (.cells (((spl c s.data.toList).map S).map .string).toArray 9) := by
  obtain ⟨m, hm⟩ := hE.max
  refine (Tryd.strings_Split s ⟨#[c]⟩ m w hs hm (by simp [ByteArray.size])).mono ?_
  rintro e w' ⟨rfl, rfl⟩
  have hlen : (Lib.splitB ⟨#[c]⟩ 0 (Lib.countB s ⟨#[c]⟩) s).length = Lib.countB s ⟨#[c]⟩ + 1 := Lib.splitB_all ⟨#[c]⟩ (by simp [ByteArray.size]) 0 _ s rfl
  have h2 := congrArg List.length (splitB_spl c s)
  rw [List.length_map] at h2
  rw [← splitB_spl]
  exact ⟨by rw [← h2, hlen], rfl⟩
end Go.Proofs.YtdhfcelhgnjpcaaDoor
