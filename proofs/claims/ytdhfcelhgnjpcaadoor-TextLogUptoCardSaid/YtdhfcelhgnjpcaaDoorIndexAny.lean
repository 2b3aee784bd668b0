/-
  strings.IndexAny(s, "=+<?") at every s: the place of the first of these bytes, or -1.
-/
import Derived.Test.YtdhfcelhgnjpcaaDoorIndexMark
import Derived.Test.YtdhfcelhgnjpcaaDoorShelf
import Derived.KernelRfl
namespace Go.Proofs.YtdhfcelhgnjpcaaDoor
open Go.RowKit

theorem marks_contains (b : UInt8) : marks.data.toList.contains b = isMark b := by
  show ([61, 43, 60, 63] : List UInt8).contains b = _
  simp only [List.contains_cons, List.contains_nil, isMark, Bool.or_false, Bool.or_assoc]
/-- The place of the mark. -/
theorem indexAny_cut : ∀ (l : Bs), Lib.indexAny l marks.data.toList = match cutMark l with | none => -1 | some x => (x.1.length : Int)
  | [] => rfl
  | b :: l => by
    have ih := indexAny_cut l
    unfold Lib.indexAny cutMark
    rw [marks_contains]
    by_cases hb : isMark b = true
    · rw [if_pos hb, if_pos hb]; rfl
    · rw [if_neg hb, if_neg hb, ih]
      cases cutMark l with
      | none => rfl
      | some x =>
        have : ¬ ((x.1.length : Int) == -1) = true := by simp <;> omega
        simp [this]
theorem byte_at (s : Str) (i : Nat) (h : i < s.size) : s.get! i = s[i]'h := by
  have := Go.get_at s i h
  simpa using this
theorem noAny_run {s : Str} {i n : Nat} (h : Lib.NoAny s.data.toList marks.data.toList i) (hb : ∀ j, j < n → i + j < s.size ∧ 128 ≤ (s.get! (i + j)).toNat) : Lib.NoAny s.data.toList marks.data.toList (i + n) := by
  intro j b hj hjb
  by_cases hji : j < i
  · exact h j b hji hjb
  · obtain ⟨h1, h2⟩ := hb (j - i) (by omega)
    have e : i + (j - i) = j := by omega
    rw [e] at h1 h2
    rw [byte_at s j h1] at h2
    have hx := Lib.data_getElem? s j h1
    rw [hx] at hjb; cases hjb
    exact marks_no _ h2

theorem below_iterAt {B : Nat} {a w : World} (h : Below B a w) {k : Nat} (hk : B ≤ k) (s : Str) (p : Nat) : Below B a (w.iterAt k s p) := by
  refine h.trans ⟨rfl, rfl, rfl, ?_, fun j hj => ?_⟩
  · simp [World.iterAt]
  · have : ¬ k = j := by omega
    simp [World.iterAt, this]
set_option maxHeartbeats 4000000 in
set_option maxRecDepth 1000000 in
theorem indexAny_short (s : Str) (h8 : s.size ≤ 8) (w : World) :
    Calls Tryd.prog 77 #[.string s, .string ⟨#[61, 43, 60, 63]⟩] w fun e w' => e = .returned (.int .i64 (Lib.indexAny s.data.toList marks.data.toList)) ∧ Below w.heap.size w w' := by
  have h8z : ¬ ((8 : Int) < (s.size : Int)) := by omega
  have h8d : decide ((8 : Int) < (s.size : Int)) = false := decide_eq_false h8z
  go_enter Tryd.func77, Tryd.ntmps77
  go_wp2_with (go_at_call 98; refine (Any.strings_shouldUseASCIISet Tryd.lays226 _ _).mono ?_; rintro e w' ⟨rfl, hw⟩; rw [hw, h8d])
  go_loopg [9, 10] s.size (fun g _ _ wx => ∃ i : Nat, i ≤ s.size ∧ s.size ≤ i + g ∧ wx.heap[w.heap.size]? = some (.stringIter s i) ∧ Below w.heap.size w wx ∧ Lib.NoAny s.data.toList marks.data.toList i)
  case atStart => exact ⟨0, by omega, by omega, World.iter_heap w s 0, below_alloc _ _, Lib.NoAny.zero _ _⟩
  case round =>
    obtain ⟨i, hi0, hig, hit, hb, hno⟩ := hrel
    have HB := Lib.hid hb
    have HN := Lib.hid hno; clear hno
    by_cases hi : i < s.size
    · cases gk with
      | zero => omega
      | succ g =>
        obtain ⟨x, hx⟩ : ∃ x : UInt8, s[i]'hi = x := ⟨_, rfl⟩
        have hxl : s.data.toList[i]? = some x := by rw [← hx]; exact Lib.data_getElem? s i hi
        by_cases h128 : x.toNat < 128
        · have hnx := fun ty => Lib.run_next_ascii_at (P := Tryd.prog) wr w.heap.size s i ty hit hi (by rw [hx]; exact h128)
          rw [hx] at hnx
          have Hx := Lib.hid hxl; clear hxl hx
          have Hit := Lib.hid (Lib.iterAt_heap wr w.heap.size s i (i + 1) hit)
          have HB2 := Lib.hid (below_iterAt hb (Nat.le_refl _) s (i + 1))
          have hcon := Lib.contains_iff_indexByte marks.data.toList x
          have hback : ((x.toNat : Int)).toNat.toUInt8 = x := by simp
          clear hit hb
          cases hin : marks.data.toList.contains x
          · rw [hin] at hcon
            have hlt : ¬ ((0 : Int) ≤ Lib.indexByte [61, 43, 60, 63] x) := of_decide_eq_false hcon.symm
            have HIN := Lib.hid hin
            clear hcon hin
            go_wp2_with (go_at_call 97; refine (Tryd.strings_IndexRune_ascii ⟨#[61, 43, 60, 63]⟩ _ _ (by omega) (by omega)).mono ?_; rintro e w' ⟨rfl, hw⟩; rw [hw, hback])
            go_roundg g
            case measure => omega
            case rel => exact ⟨i + 1, by omega, by omega, Hit.out, HB2.out, HN.out.succ Hx.out HIN.out⟩
          · rw [hin] at hcon
            have hge : (0 : Int) ≤ Lib.indexByte [61, 43, 60, 63] x := of_decide_eq_true hcon.symm
            have HIN := Lib.hid hin
            clear hcon hin
            go_wp2_with (go_at_call 97; refine (Tryd.strings_IndexRune_ascii ⟨#[61, 43, 60, 63]⟩ _ _ (by omega) (by omega)).mono ?_; rintro e w' ⟨rfl, hw⟩; rw [hw, hback])
            go_ret
            exact ⟨by rw [Lib.indexAny_hit HN.out Hx.out HIN.out]; rfl, HB2.out⟩
        · have hnx := fun ty => Lib.run_next_any_at (P := Tryd.prog) wr w.heap.size s i ty hit hi
          have hdh := Go.decode_high s i hi (by rw [hx]; omega)
          have hdb := decode_high_bytes s i hi (by rw [hx]; omega)
          have hdr := decode_rune s i
          obtain ⟨r, hr⟩ : ∃ r, (Utf8.decode s i).1 = r := ⟨_, rfl⟩
          obtain ⟨q, hq⟩ : ∃ q, (Utf8.decode s i).2 = q := ⟨_, rfl⟩
          rw [hr, hq] at hdh
          rw [hq] at hdb
          rw [hr] at hdr
          simp only [hr, hq] at hnx
          have hlast := (hdb (q - 1) (by omega)).1
          have HNN := Lib.hid (noAny_run HN.out hdb)
          have Hit := Lib.hid (Lib.iterAt_heap wr w.heap.size s i (i + q) hit)
          have HB2 := Lib.hid (below_iterAt hb (Nat.le_refl _) s (i + q))
          have hrn := fun W => rune_no r hdh.1 hdr W
          have HRN := Lib.hid hrn
          have hq1 : 1 ≤ q := hdh.2
          clear hit hb hr hq hdb hdr hdh hxl hx hrn
          go_wp2_with (go_at_call 97; refine (HRN.out _).mono ?_; rintro e w' ⟨rfl, hbw⟩)
          go_roundg g
          case measure => omega
          case rel => exact ⟨i + q, by omega, by omega, (hbw.block _ (heap_lt Hit.out)).trans Hit.out, HB2.out.trans (hbw.mono HB2.out.size), HNN.out⟩
    · have hnx := Lib.run_next_end_at (P := Tryd.prog) wr w.heap.size s i 0 hit hi
      go_wp2
      go_ret
      exact ⟨by rw [Lib.indexAny_none (by have : i = s.size := by omega
                                          rw [← Lib.size_eq, ← this]; exact HN.out)]; rfl, HB.out⟩
theorem zero_set (w : World) : (zeroValue 133).run Tryd.prog w = .ok (.agg (Array.replicate 256 (.bool false))) w := by
  have h : (Tryd.prog.info? 133).map (fun i => i.zero) = some (some (.agg (Array.replicate 256 (.bool false)))) := by kernel_rfl
  obtain ⟨i, hi, hz⟩ := Option.map_eq_some_iff.1 h
  simp [zeroValue, typeInfo, hi, hz]
/-- The place of the mark, or -1. -/
def markAt (l : Bs) : Int := match cutMark l with | none => -1 | some x => (x.1.length : Int)
theorem indexMark_any (s : Str) (hs : s.size < 4294967281) (w : World) :
    Calls Tryd.prog 77 #[.string s, .string ⟨#[61, 43, 60, 63]⟩] w fun e w' => e = .returned (.int .i64 (markAt s.data.toList)) ∧ Below w.heap.size w w' := by
  have hm : Lib.indexAny s.data.toList marks.data.toList = markAt s.data.toList := indexAny_cut _
  by_cases h8 : s.size ≤ 8
  · rw [← hm]; exact indexAny_short s h8 w
  · refine (Tryd.strings_IndexAny_long zero_set s marks w (by decide) (by omega) hs (by decide) (by
      intro j b hj
      have hb : b ∈ [61, 43, 60, 63] := List.mem_of_getElem? hj
      simp at hb
      rcases hb with rfl | rfl | rfl | rfl <;> decide)).mono ?_
    rintro e w' ⟨rfl, rfl⟩
    exact ⟨by rw [hm], (below_alloc w _).alloc (below_alloc w _).size _⟩
end Go.Proofs.YtdhfcelhgnjpcaaDoor
