/-
  strings.IndexRune of "=+<?" at a rune that is not ASCII; strings.IndexAny(s, "=+<?") at every s.
-/
import Derived.Test.YtdhfcelhgnjpcaaDoorDeedPlain
import Derived.Test.YtdhfcelhgnjpcaaDoorEnv
import Derived.Laws.RangeAny
import Derived.Lib.IndexAny
import Derived.Lib.QuoteLoop
import Derived.Lib.OthersKept
import Derived.Deep.LoopGhost
import Derived.Deep.DeepCutAuto
import Derived.WalkMore
namespace Go.Proofs.YtdhfcelhgnjpcaaDoor
open Go.RowKit

def marks : Str := ⟨#[61, 43, 60, 63]⟩
theorem encode_high (r : Nat) (h0 : 128 ≤ r) (h1 : r < 55296 ∨ (57343 < r ∧ r ≤ 1114111)) :
    (∃ b0 c : UInt8, Utf8.encode r = ⟨#[b0, c]⟩ ∧ 128 ≤ c.toNat) ∨ (∃ b0 b1 c : UInt8, Utf8.encode r = ⟨#[b0, b1, c]⟩ ∧ 128 ≤ c.toNat) ∨ (∃ b0 b1 b2 c : UInt8, Utf8.encode r = ⟨#[b0, b1, b2, c]⟩ ∧ 128 ≤ c.toNat) := by
  have hv : Utf8.valid (r : Int) = true := by simp [Utf8.valid]; omega
  have hc : ∀ n : Nat, 128 ≤ (UInt8.ofNat (128 + n % 64)).toNat := fun n => by
    rw [UInt8.toNat_ofNat']; omega
  unfold Utf8.encode
  rw [if_pos hv]
  simp only [Int.toNat_natCast]
  rw [if_neg (by omega)]
  split
  · exact .inl ⟨_, _, rfl, hc _⟩
  · split
    · exact .inr (.inl ⟨_, _, _, rfl, hc _⟩)
    · exact .inr (.inr ⟨_, _, _, _, rfl, hc _⟩)
theorem decode_high_bytes (s : Str) (pos : Nat) (h : pos < s.size) (ha : 128 ≤ (s[pos]'h).toNat) : ∀ j, j < (Utf8.decode s pos).2 → pos + j < s.size ∧ 128 ≤ (s.get! (pos + j)).toNat := by
  have hg := Go.get_at s pos h
  have h0 : 128 ≤ (s.get! (pos + 0)).toNat := by rw [hg]; exact ha
  intro j hj
  simp only [Utf8.decode] at hj
  have key : ∀ k, (decide (pos + k < s.size) && (s.get! (pos + k)).toNat / 64 == 2) = true → pos + k < s.size ∧ 128 ≤ (s.get! (pos + k)).toNat := by
    intro k hk; simp at hk; omega
  have j0 : j = 0 → pos + j < s.size ∧ 128 ≤ (s.get! (pos + j)).toNat := by rintro rfl; exact ⟨by omega, h0⟩
  split at hj
  · omega
  · split at hj
    · rename_i hc
      simp only [Bool.and_eq_true] at hc
      split at hj
      · rcases (by simp at hj; omega : j = 0 ∨ j = 1) with e | rfl
        · exact j0 e
        · exact key 1 (by simpa using hc.2)
      · exact j0 (by simp at hj; omega)
    · split at hj
      · rename_i hc
        simp only [Bool.and_eq_true] at hc
        split at hj
        · rcases (by simp at hj; omega : j = 0 ∨ j = 1 ∨ j = 2) with e | rfl | rfl
          · exact j0 e
          · exact key 1 (by simpa using hc.1.2)
          · exact key 2 (by simpa using hc.2)
        · exact j0 (by simp at hj; omega)
      · split at hj
        · rename_i hc
          simp only [Bool.and_eq_true] at hc
          split at hj
          · rcases (by simp at hj; omega : j = 0 ∨ j = 1 ∨ j = 2 ∨ j = 3) with e | rfl | rfl | rfl
            · exact j0 e
            · exact key 1 (by simpa using hc.1.1.2)
            · exact key 2 (by simpa using hc.1.2)
            · exact key 3 (by simpa using hc.2)
          · exact j0 (by simp at hj; omega)
        · exact j0 (by simp at hj; omega)
theorem decode_rune (s : Str) (pos : Nat) : (Utf8.decode s pos).1 < 55296 ∨ (57343 < (Utf8.decode s pos).1 ∧ (Utf8.decode s pos).1 ≤ 1114111) := by
  rw [Lib.decode_at]; exact Lib.decodeN_valid _ _ _ _ _ (UInt8.toNat_lt _)
theorem marks_no (c : UInt8) (h : 128 ≤ c.toNat) : marks.data.toList.contains c = false := by
  cases hc : marks.data.toList.contains c with
  | false => rfl
  | true =>
    simp [marks] at hc
    rcases hc with rfl | rfl | rfl | rfl <;> simp at h
theorem byte_no (l : Bs) (c : UInt8) (h : 128 ≤ c.toNat) (hl : ∀ b ∈ l, b.toNat < 128) : Lib.indexByte l c = -1 := by
  have hn : c ∉ l := fun hm => by have := hl c hm; omega
  induction l with
  | nil => rfl
  | cons b t ih =>
    have hb : ¬ b = c := fun e => hn (by simp [e])
    have := ih (fun x hx => hl x (by simp [hx])) (fun hm => hn (by simp [hm]))
    simp [Lib.indexByte, this, hb]

theorem mark_ext (a b : Nat) (c : UInt8) (h : 128 ≤ c.toNat) : Lib.indexByte ((⟨#[61, 43, 60, 63]⟩ : ByteArray).extract a b).data.toList c = -1 := by
  refine byte_no _ c h fun x hx => ?_
  have hx' : x ∈ [61, 43, 60, 63] := by
    rw [Lib.extract_data] at hx
    exact List.mem_of_mem_drop (List.mem_of_mem_take hx)
  simp at hx'
  rcases hx' with rfl | rfl | rfl | rfl <;> decide
set_option maxHeartbeats 6000000 in
set_option maxRecDepth 1000000 in
theorem rune_err (m : Str) (hm : ∀ (j : Nat) b, m.data.toList[j]? = some b → b.toNat < 128) (w : World) :
    Calls Tryd.prog 97 #[.string m, .int .i32 65533] w fun e w' => e = .returned (.int .i64 (-1)) ∧ Below w.heap.size w w' := by
  have HA := Lib.hid hm; clear hm
  go_enter Tryd.func97, Tryd.ntmps97
  go_wp2_with fail
  go_loopg [5, 6] m.size (fun g _ _ wx => ∃ i : Nat, i + g = m.size ∧ wx = w.iter m i)
  case atStart => exact ⟨0, by omega, rfl⟩
  case round =>
    obtain ⟨i, hig, rfl⟩ := hrel
    cases gk with
    | zero =>
      obtain rfl : i = m.size := by omega
      have hnx := run_next_end (P := Tryd.prog) w m m.size
      go_wp2
      go_ret
      exact ⟨rfl, below_alloc _ _⟩
    | succ g =>
      have hi : i < m.size := by omega
      obtain ⟨x, hx⟩ : ∃ x : UInt8, m[i]'hi = x := ⟨_, rfl⟩
      have hxl : m.data.toList[i]? = some x := by rw [← hx]; exact Lib.data_getElem? m i hi
      have hx128 : x.toNat < 128 := HA.out i x hxl
      have hnx := fun ty => run_next_ascii (P := Tryd.prog) w m i ty hi (by rw [hx]; exact hx128)
      rw [hx] at hnx
      have hne : ((x.toNat : Int) == 65533) = false := by simp; omega
      clear hxl hx
      go_wp2
      go_roundg g
      case measure => omega
      case rel => exact ⟨i + 1, by omega, rfl⟩
set_option maxHeartbeats 6000000 in
set_option maxRecDepth 1000000 in
theorem rune_no (r : Nat) (h0 : 128 ≤ r) (h1 : r < 55296 ∨ (57343 < r ∧ r ≤ 1114111)) (w : World) :
    Calls Tryd.prog 97 #[.string ⟨#[61, 43, 60, 63]⟩, .int .i32 r] w fun e w' => e = .returned (.int .i64 (-1)) ∧ Below w.heap.size w w' := by
  by_cases hr : r = 65533
  · subst hr
    exact rune_err ⟨#[61, 43, 60, 63]⟩ (by
      intro j b hj
      have hb : b ∈ [61, 43, 60, 63] := List.mem_of_getElem? hj
      simp at hb
      rcases hb with rfl | rfl | rfl | rfl <;> decide) w
  · have hre : ((r : Int) == 65533) = false := by simp; omega
    have hv : Lib.validRune (r : Int) = true := by simp [Lib.validRune]; omega
    have h128 : ¬ ((r : Int) < 128) := by omega
    have hcase := encode_high r h0 h1
    have H1 := Lib.hid h1; clear h1 hr
    have H0 := Lib.hid h0; clear h0
    have hp : (0 : Int) ≤ (r : Int) := by omega
    have HCA := Lib.hid hcase; clear hcase
    go_enter Tryd.func97, Tryd.ntmps97
    go_wp2_with (go_at_call 116; refine (Tryd.utf8_ValidRune _ _).mono ?_; rintro e w' ⟨rfl, rfl⟩; rw [hv])
    have hcase := HCA.out
    clear HCA
    rcases hcase with hcase | hcase | hcase
    · obtain ⟨b0, c, hen, hc⟩ := hcase
      have hne : (((43 : UInt8).toNat : Int) != (c.toNat : Int)) = true := by simp; omega
      have HNE := Lib.hid hne; clear hne
      have hback : ((c.toNat : Int)).toNat.toUInt8 = c := by simp
      have HC := Lib.hid hc; clear hc
      refine wp_scope_straight ?_
      have hix : ∀ a b, Lib.indexByte ((⟨#[61, 43, 60, 63]⟩ : ByteArray).extract a b).data.toList c = -1 := fun a b => mark_ext a b c HC.out
      have hix0 : Lib.indexByte ByteArray.empty.data.toList c = -1 := rfl
      go_wp2_with fail
      go_loopw [9, 10] (fun x y wr => x = .int .i64 1 ∧ y = .int .i64 0 ∧ Below w'.heap.size w' wr) (fun _ _ _ => 0)
      case atStart => exact ⟨rfl, rfl, Below.refl _ _⟩
      case round =>
        obtain ⟨rfl, rfl, hb⟩ := hrel
        have HB := Lib.hid hb; clear hb
        go_wp2_with fail
        refine wp_scope_straight ?_
        go_wp2_with fail
        go_region
        have e1 : (⟨#[61, 43, 60, 63]⟩ : ByteArray)[1]'(by decide) = 43 := rfl
        have e2 : (⟨#[b0, c]⟩ : ByteArray)[1]'(by simp [ByteArray.size]) = c := rfl
        have hne := HNE.out
        rw [e1, e2, hne]
        go_upto_region 7 with fail
        go_cut [11] (fun x wc => x = .int .i64 (-1) ∧ Below w'.heap.size w' wc)
        case first =>
          go_region_with (go_at_call 55; refine (Tryd.strings_IndexByte _ _ _).mono ?_; rintro e w2 ⟨rfl, rfl⟩; rw [hback]; first | rw [hix] | rw [hix0])
          all_goals (go_wp2_with fail; go_meet; exact ⟨rfl, HB.out.drew.drew⟩)
        case rest =>
          obtain ⟨rfl, hb⟩ := hcut
          have HBB := Lib.hid hb; clear hb
          go_wp2_with fail
          rw [Exit.noGoto_ret]
          go_wp2_with fail
          try rw [Exit.noGoto_ret]
          try go_wp2_with fail
          go_ret
          exact ⟨rfl, HBB.out⟩
    · obtain ⟨b0, b1, c, hen, hc⟩ := hcase
      have hne : (((60 : UInt8).toNat : Int) != (c.toNat : Int)) = true := by simp; omega
      have HNE := Lib.hid hne; clear hne
      have hback : ((c.toNat : Int)).toNat.toUInt8 = c := by simp
      have HC := Lib.hid hc; clear hc
      refine wp_scope_straight ?_
      have hix : ∀ a b, Lib.indexByte ((⟨#[61, 43, 60, 63]⟩ : ByteArray).extract a b).data.toList c = -1 := fun a b => mark_ext a b c HC.out
      have hix0 : Lib.indexByte ByteArray.empty.data.toList c = -1 := rfl
      go_wp2_with fail
      go_loopw [9, 10] (fun x y wr => x = .int .i64 2 ∧ y = .int .i64 0 ∧ Below w'.heap.size w' wr) (fun _ _ _ => 0)
      case atStart => exact ⟨rfl, rfl, Below.refl _ _⟩
      case round =>
        obtain ⟨rfl, rfl, hb⟩ := hrel
        have HB := Lib.hid hb; clear hb
        go_wp2_with fail
        refine wp_scope_straight ?_
        go_wp2_with fail
        go_region
        have e1 : (⟨#[61, 43, 60, 63]⟩ : ByteArray)[2]'(by decide) = 60 := rfl
        have e2 : (⟨#[b0, b1, c]⟩ : ByteArray)[2]'(by simp [ByteArray.size]) = c := rfl
        have hne := HNE.out
        rw [e1, e2, hne]
        go_upto_region 7 with fail
        go_cut [11] (fun x wc => x = .int .i64 (-1) ∧ Below w'.heap.size w' wc)
        case first =>
          go_region_with (go_at_call 55; refine (Tryd.strings_IndexByte _ _ _).mono ?_; rintro e w2 ⟨rfl, rfl⟩; rw [hback]; first | rw [hix] | rw [hix0])
          all_goals (go_wp2_with fail; go_meet; exact ⟨rfl, HB.out.drew.drew⟩)
        case rest =>
          obtain ⟨rfl, hb⟩ := hcut
          have HBB := Lib.hid hb; clear hb
          go_wp2_with fail
          rw [Exit.noGoto_ret]
          go_wp2_with fail
          try rw [Exit.noGoto_ret]
          try go_wp2_with fail
          go_ret
          exact ⟨rfl, HBB.out⟩
    · obtain ⟨b0, b1, b2, c, hen, hc⟩ := hcase
      have hne : (((63 : UInt8).toNat : Int) != (c.toNat : Int)) = true := by simp; omega
      have HNE := Lib.hid hne; clear hne
      have hback : ((c.toNat : Int)).toNat.toUInt8 = c := by simp
      have HC := Lib.hid hc; clear hc
      refine wp_scope_straight ?_
      have hix : ∀ a b, Lib.indexByte ((⟨#[61, 43, 60, 63]⟩ : ByteArray).extract a b).data.toList c = -1 := fun a b => mark_ext a b c HC.out
      have hix0 : Lib.indexByte ByteArray.empty.data.toList c = -1 := rfl
      go_wp2_with fail
      go_loopw [9, 10] (fun x y wr => x = .int .i64 3 ∧ y = .int .i64 0 ∧ Below w'.heap.size w' wr) (fun _ _ _ => 0)
      case atStart => exact ⟨rfl, rfl, Below.refl _ _⟩
      case round =>
        obtain ⟨rfl, rfl, hb⟩ := hrel
        have HB := Lib.hid hb; clear hb
        go_wp2_with fail
        refine wp_scope_straight ?_
        go_wp2_with fail
        go_region
        have e1 : (⟨#[61, 43, 60, 63]⟩ : ByteArray)[3]'(by decide) = 63 := rfl
        have e2 : (⟨#[b0, b1, b2, c]⟩ : ByteArray)[3]'(by simp [ByteArray.size]) = c := rfl
        have hne := HNE.out
        rw [e1, e2, hne]
        go_upto_region 7 with fail
        go_cut [11] (fun x wc => x = .int .i64 (-1) ∧ Below w'.heap.size w' wc)
        case first =>
          go_region_with (go_at_call 55; refine (Tryd.strings_IndexByte _ _ _).mono ?_; rintro e w2 ⟨rfl, rfl⟩; rw [hback]; first | rw [hix] | rw [hix0])
          all_goals (go_wp2_with fail; go_meet; exact ⟨rfl, HB.out.drew.drew⟩)
        case rest =>
          obtain ⟨rfl, hb⟩ := hcut
          have HBB := Lib.hid hb; clear hb
          go_wp2_with fail
          rw [Exit.noGoto_ret]
          go_wp2_with fail
          try rw [Exit.noGoto_ret]
          try go_wp2_with fail
          go_ret
          exact ⟨rfl, HBB.out⟩
end Go.Proofs.YtdhfcelhgnjpcaaDoor
