/-
  Maps that may be (MapOk), and whose a key is (whose). No program is named here.
-/
import Derived.Test.YtdhfcelhgnjpcaaDoorCheck
namespace Go.Proofs.YtdhfcelhgnjpcaaDoor
open Go.RowKit

def idx (p : PMap) (x : Str) : Nat := lb p.cuts x + (if hasAt p.cuts x then 1 else 0)
def whose (p : PMap) (x : Str) : Int := p.owners.getD (idx p x) 0

/-- A map that may be. -/
structure MapOk (p : PMap) : Prop where
  srt : Srt p.cuts
  keys : ∀ k ∈ p.cuts, isKey k = true
  len : p.owners.length = p.cuts.length + 1
  most : p.cuts.length ≤ 12
  owns : ∀ o ∈ p.owners, 0 ≤ o ∧ o < 4

theorem srt_of_chain {l : List Str} (h : ∀ i, i + 1 < l.length → slt (l.getD i noStr) (l.getD (i + 1) noStr) = true) : Srt l := by
  have key : ∀ d i, i + d + 1 < l.length → slt (l.getD i noStr) (l.getD (i + d + 1) noStr) = true := by
    intro d
    induction d with
    | zero => intro i hi; exact h i (by omega)
    | succ d ih => intro i hi; exact slt_trans (ih i (by omega)) (h (i + d + 1) (by omega))
  rw [Srt, List.pairwise_iff_getElem]
  intro i j hi hj hij
  have := key (j - i - 1) i (by omega)
  rw [show i + (j - i - 1) + 1 = j by omega] at this
  simpa [List.getD_eq_getElem?_getD, List.getElem?_eq_getElem, hi, hj] using this

theorem mapOk_iff (p : PMap) : mapCheck p = 0 ↔ MapOk p := by
  constructor
  · intro h
    unfold mapCheck at h
    split at h
    · cases h
    · rename_i h12
      split at h
      · cases h
      · rename_i hlen
        split at h
        · cases h
        · rename_i hc
          split at h
          · cases h
          · rename_i ho
            have hc' : cutsOk p.cuts = true := by simpa using hc
            rw [cutsOk, List.all_eq_true] at hc'
            have hc2 : ∀ k, k < p.cuts.length → cutOk p.cuts k = true := fun k hk => hc' k (List.mem_range.2 hk)
            refine ⟨srt_of_chain fun i hi => ?_, fun k hk => ?_, by omega, by omega, fun o hm => ?_⟩
            · have := hc2 (i + 1) hi
              simp only [cutOk, Bool.and_eq_true, Nat.add_sub_cancel, Bool.or_eq_true] at this
              rcases this.2 with h0 | h0
              · simp at h0
              · exact h0
            · obtain ⟨j, hj, rfl⟩ := List.mem_iff_getElem.1 hk
              have := hc2 j hj
              simp only [cutOk, Bool.and_eq_true, List.getD_eq_getElem?_getD, List.getElem?_eq_getElem hj] at this
              exact this.1
            · have ho' : p.owners.all ownOk = true := by simpa using ho
              rw [List.all_eq_true] at ho'
              have := ho' o hm
              simpa [ownOk] using this
  · intro h
    unfold mapCheck
    rw [if_neg (by have := h.most; omega), if_neg (by have := h.len; omega), if_neg, if_neg]
    · simp only [Bool.not_eq_false]
      rw [List.all_eq_true]
      intro o ho
      have := h.owns o ho
      simp [ownOk, this]
    · simp only [Bool.not_eq_false]
      refine cutsOk_yes fun j hj => ?_
      simp only [cutOk, Bool.and_eq_true, Bool.or_eq_true]
      refine ⟨h.keys _ ?_, ?_⟩
      · rw [List.getD_eq_getElem?_getD, List.getElem?_eq_getElem hj]; exact List.getElem_mem hj
      · by_cases e : j = 0
        · left; simp [e]
        · right; exact h.srt.lt (by omega) hj

theorem idx_lt {p : PMap} (h : MapOk p) (x : Str) : idx p x < p.owners.length := by
  unfold idx
  have h1 := lb_le p.cuts x
  have h2 := h.len
  split
  · rename_i hh
    simp only [hasAt, decide_eq_true_eq] at hh
    have := (List.getElem?_eq_some_iff.1 hh).1
    omega
  · omega

end Go.Proofs.YtdhfcelhgnjpcaaDoor
