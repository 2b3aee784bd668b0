/-
  A map's text, cut by cut. No program is named here.
-/
import Derived.Test.YtdhfcelhgnjpcaaDoorStr
namespace Go.Proofs.YtdhfcelhgnjpcaaDoor
open Go.RowKit

/-- The text of a map up to its k-th cut. -/
def mapTo (p : PMap) : Nat → Bs
  | 0 => Lib.itoa (p.owners.getD 0 0)
  | k + 1 => mapTo p k ++ (58 :: (p.cuts.getD k noStr).data.toList ++ 58 :: Lib.itoa (p.owners.getD (k + 1) 0))
theorem words_ne' : ∀ (os : List Int) (cs : List Str), os ≠ [] → words os cs ≠ []
  | [], _, h => absurd rfl h
  | o :: os, [], _ => by simp [words]
  | o :: os, c :: cs, _ => by simp [words]
theorem words_snoc : ∀ (os : List Int) (cs : List Str) (o : Int) (c : Str), os.length = cs.length + 1 → words (os ++ [o]) (cs ++ [c]) = words os cs ++ [c.data.toList] ++ [Lib.itoa o]
  | [], cs, o, c, h => by simp at h
  | [a], [], o, c, h => by simp [words]
  | a :: b :: os, [], o, c, h => by simp at h
  | a :: os, d :: cs, o, c, h => by
    have ih := words_snoc os cs o c (by simpa using h)
    simp only [List.cons_append, words, ih]
theorem take_snoc {α} (l : List α) (k : Nat) (d : α) (h : k < l.length) : l.take (k + 1) = l.take k ++ [l.getD k d] := by
  rw [List.take_succ_eq_append_getElem h, List.getD_eq_getElem?_getD, List.getElem?_eq_getElem h]; rfl
theorem mapTo_words (p : PMap) (hl : p.owners.length = p.cuts.length + 1) : ∀ k, k ≤ p.cuts.length → mapTo p k = join1 58 (words (p.owners.take (k + 1)) (p.cuts.take k))
  | 0, _ => by
    rw [take_snoc p.owners 0 0 (by omega)]; simp [mapTo, words, join1]
  | k + 1, h => by
    have ih := mapTo_words p hl k (by omega)
    rw [take_snoc p.owners (k + 1) 0 (by omega), take_snoc p.cuts k noStr (by omega), words_snoc _ _ _ _ (by simp; omega)]
    have h1 : words (p.owners.take (k + 1)) (p.cuts.take k) ≠ [] := words_ne' _ _ (by
      intro h0; have := congrArg List.length h0; simp at this; rw [this] at hl; simp at hl)
    rw [join1_snoc _ _ _ (by simp), join1_snoc _ _ _ h1, ← ih]
    simp [mapTo]
theorem mapTo_all (p : PMap) (hl : p.owners.length = p.cuts.length + 1) : mapTo p p.cuts.length = mapText p := by
  rw [mapTo_words p hl _ (Nat.le_refl _), List.take_of_length_le (by omega), List.take_of_length_le (Nat.le_refl _)]; rfl

theorem isKey_size {s : Str} (h : isKey s = true) : s.size ≤ 6 := by
  by_cases h6 : 6 < s.size
  · rw [isKey_long h6] at h; cases h
  · omega
theorem mapTo_len (p : PMap) (h : MapOk p) : ∀ k, k ≤ p.cuts.length → (mapTo p k).length ≤ 11 + 19 * k
  | 0, _ => by
    have hl := h.len
    have ho := h.owns (p.owners.getD 0 0) (by
      rw [List.getD_eq_getElem?_getD, List.getElem?_eq_getElem (by omega)]; exact List.getElem_mem _)
    exact itoa_len (n := p.owners.getD 0 0) (by omega) (by omega)
  | k + 1, hk => by
    have ih := mapTo_len p h k (by omega)
    have hl := h.len
    have ho := h.owns (p.owners.getD (k + 1) 0) (by
      rw [List.getD_eq_getElem?_getD, List.getElem?_eq_getElem (by omega)]; exact List.getElem_mem _)
    have hc := isKey_size (h.keys (p.cuts.getD k noStr) (by
      rw [List.getD_eq_getElem?_getD, List.getElem?_eq_getElem (by omega)]; exact List.getElem_mem _))
    have hi := itoa_len (n := p.owners.getD (k + 1) 0) (by omega) (by omega)
    have e : (p.cuts.getD k noStr).data.toList.length = (p.cuts.getD k noStr).size := rfl
    rw [mapTo]
    simp only [List.length_append, List.length_cons]
    omega
theorem heap_alloc_at2 (w : World) (o : Obj) : (w.alloc o).heap[w.heap.size]? = some o := by
  show (w.heap.push o)[w.heap.size]? = _
  simp
/-- What text.Map answers: the text. -/
def mapTextE (p : PMap) : Bs := if mapCheck p = 0 then mapText p else []
theorem sx (l : Bs) (s : Str) (o : Int) : S l ++ ((⟨#[58]⟩ : Str) ++ s ++ (⟨#[58]⟩ : Str) ++ S (Lib.itoa o)) = S (l ++ (58 :: s.data.toList ++ 58 :: Lib.itoa o)) := by
  apply ByteArray.ext; simp [S, ByteArray.data_append]
end Go.Proofs.YtdhfcelhgnjpcaaDoor
