/-
  Slices that lie in memory which is newer than a call's beginning. No program is named here.
-/
import Derived.Test.YtdhfcelhgnjpcaaDoorCheck
namespace Go.Proofs.YtdhfcelhgnjpcaaDoor
open Go.RowKit

def Newer (N : Nat) (ao : Option Addr) : Prop := ∀ a, ao = some a → N ≤ a.block
theorem Newer.none (N : Nat) : Newer N none := fun _ h => nomatch h
theorem Newer.mono {N M : Nat} {ao : Option Addr} (h : Newer N ao) (hm : M ≤ N) : Newer M ao := fun a e => Nat.le_trans hm (h a e)
theorem Newer.of_own {w : World} {base : Nat} {e : TypeId} {size : Nat} {ao : Option Addr} {n' c n : Nat} {xs : List Value} (h : w.ownsRow base e size (.slice ao n' c) n xs) : Newer base ao := by
  intro a ha
  subst ha
  rcases h.2 with ⟨h0, _⟩ | ⟨g, cap, cur, hv, hb, _⟩
  · simp at h0
  · simp only [Value.slice.injEq, Option.some.injEq] at hv
    rw [hv.1]; exact hb
theorem Sl.set {w : World} {size : Nat} {ao : Option Addr} {n c : Nat} {xs : List Value} (h : Sl w size ao n c xs) {N b o : Nat} (hn : Newer N ao) (hb : b < N) (v : Value) : Sl (w.setCell ⟨b, o, none⟩ v) size ao n c xs :=
  ⟨h.len, h.le, h.nil, fun j u hu => by
    obtain ⟨b', off, h1, h2⟩ := h.cell j u hu
    have := hn _ h1
    refine ⟨b', off, h1, ?_⟩
    rw [World.cell?_setCell_other w _ _ v (fun e => by simp only [Addr.mk.injEq] at e; simp only at this; omega)]
    exact h2⟩
theorem MapAt.set {w : World} {ao : Option Addr} {n c : Nat} {bo : Option Addr} {m d : Nat} {p : PMap} (h : MapAt w ao n c bo m d p) {N b o : Nat} (h1 : Newer N ao) (h2 : Newer N bo) (hb : b < N) (v : Value) :
    MapAt (w.setCell ⟨b, o, none⟩ v) ao n c bo m d p := ⟨h.cuts.set h1 hb v, h.owns.set h2 hb v⟩
end Go.Proofs.YtdhfcelhgnjpcaaDoor
