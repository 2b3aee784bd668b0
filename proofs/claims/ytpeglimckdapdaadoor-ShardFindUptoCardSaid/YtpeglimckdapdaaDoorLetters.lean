/-
  rokeep.letters leaves of a string its small letters; of old memory nothing turns.
-/
import Derived.Test.YtpeglimckdapdaaDoorKey
import Derived.Test.YtpeglimckdapdaaDoorShelf
namespace Go.Proofs.YtpeglimckdapdaaDoor
open Go.RowKit Go.Lib

def keepsRune (x : Int) : Int := if 97 ≤ x ∧ x ≤ 122 then x else -1
theorem keepsRune_yes {x : Int} (h : 97 ≤ x ∧ x ≤ 122) : keepsRune x = x := if_pos h
theorem keepsRune_no {x : Int} (h : ¬ (97 ≤ x ∧ x ≤ 122)) : keepsRune x = -1 := if_neg h
def lettersOf (s : Str) : Str := ⟨(mapD keepsRune s.data.toList).toArray⟩

theorem mapGoD_letters : ∀ (n : Nat) (l : List UInt8), ∀ c ∈ mapGoD keepsRune n l, lowerB c = true
  | 0, _, c, h => by simp [mapGoD] at h
  | n + 1, l, c, h => by
    unfold mapGoD at h
    split at h
    · simp at h
    · simp only [List.mem_append] at h
      rcases h with h | h
      · split at h
        · rename_i h0
          by_cases hx : 97 ≤ ((decodeL l).1 : Int) ∧ ((decodeL l).1 : Int) ≤ 122
          · rw [keepsRune_yes hx] at h
            rw [encodeRune, encodeRuneZ_one (by omega) (by omega)] at h
            simp only [List.map_cons, List.map_nil, List.mem_singleton] at h
            subst h
            simp [lowerB]
            omega
          · rw [keepsRune_no hx] at h0; omega
        · simp at h
      · exact mapGoD_letters n _ c h
theorem letters_low (s : Str) : ∀ c ∈ (lettersOf s).data.toList, lowerB c = true := fun c h => mapGoD_letters _ _ c (by simpa [lettersOf, mapD] using h)

theorem keeps_any (x : Nat) (w : World) (hx : x ≤ 1114111) :
    Calls Tryd.prog 14 #[.int .i32 x] w fun e w' => e = .returned (.int .i32 (keepsRune x)) ∧ w = w' := by
  by_cases h1 : (x : Int) < 97
  · have hr := keepsRune_no (x := x) (by omega)
    have HR := Lib.hid hr; clear hr
    go_enter Tryd.func14, Tryd.ntmps14
    go_wp2_with fail
    go_ret
    exact ⟨ret_int HR.out.symm, rfl⟩
  · by_cases h2 : (x : Int) ≤ 122
    · have hr := keepsRune_yes (x := x) (by omega)
      have HR := Lib.hid hr; clear hr
      go_enter Tryd.func14, Tryd.ntmps14
      go_wp2_with fail
      go_ret
      exact ⟨ret_int HR.out.symm, rfl⟩
    · have hr := keepsRune_no (x := x) (by omega)
      have HR := Lib.hid hr; clear hr
      go_enter Tryd.func14, Tryd.ntmps14
      go_wp2_with fail
      go_ret
      exact ⟨ret_int HR.out.symm, rfl⟩

theorem letters_any (s : Str) (w : World) (hs : s.size < 35184372088832) (hT : Lib.Utf8Tabs 0 1 w) :
    Calls Tryd.prog 6 #[.string s] w fun e w' => e = .returned (.string (lettersOf s)) ∧ Below w.heap.size w w' := by
  have hb : ∀ x : Nat, x ≤ 1114111 → -2147483648 ≤ keepsRune x ∧ keepsRune x ≤ 2147483647 := fun x hx => by unfold keepsRune; split <;> omega
  have HB := Lib.hid hb; clear hb
  have HS := Lib.hid hs; clear hs
  go_enter Tryd.func6, Tryd.ntmps6
  go_wp2_with fail
  refine (Tryd.strings_Map_grows 14 #[] (enters_of Tryd.func14 (by kernel_rfl) rfl) keepsRune s _ HS.out (fun W x hx _ => (keeps_any x W hx).mono fun _ _ h => ⟨h.1, h.2 ▸ Below.refl _ _⟩) HB.out hT).mono ?_
  rintro e w1 ⟨rfl, hb⟩
  go_wp2_with fail
  go_ret
  exact ⟨rfl, hb⟩
end Go.Proofs.YtpeglimckdapdaaDoor
