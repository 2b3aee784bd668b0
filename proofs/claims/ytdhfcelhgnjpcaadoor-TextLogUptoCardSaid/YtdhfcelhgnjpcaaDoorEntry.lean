/-
  text.Entry: an entry's line; roref.BareEntry.
-/
import Derived.Test.YtdhfcelhgnjpcaaDoorSum
import Derived.Test.YtdhfcelhgnjpcaaDoorDeedText
import Derived.Test.YtdhfcelhgnjpcaaDoorOwn
namespace Go.Proofs.YtdhfcelhgnjpcaaDoor
open Go.RowKit

/-- The entry x lies in w as the three slices say. -/
structure EntAt (w : World) (eo : Option Addr) (en ec : Nat) (ao : Option Addr) (n c : Nat) (bo : Option Addr) (m d : Nat) (x : PEntry) : Prop where
  deed : OpsAt w eo en ec x.deed
  map : MapAt w ao n c bo m d x.map
theorem EntAt.below {w w' : World} {eo : Option Addr} {en ec : Nat} {ao : Option Addr} {n c : Nat} {bo : Option Addr} {m d : Nat} {x : PEntry} (h : EntAt w eo en ec ao n c bo m d x)
    (hb : Below w.heap.size w w') : EntAt w' eo en ec ao n c bo m d x := ⟨h.deed.below hb, h.map.below hb⟩
def entVal (eo : Option Addr) (en ec : Nat) (b : Bool) (ao : Option Addr) (n c : Nat) (bo : Option Addr) (m d : Nat) : Value := .agg #[.slice eo en ec, .bool b, .slice ao n c, .slice bo m d]
theorem line_add (a b : Bs) : S a ++ (⟨#[32]⟩ : Str) ++ S b ++ (⟨#[10]⟩ : Str) = S (a ++ 32 :: (b ++ [10])) := by
  rw [show (⟨#[32]⟩ : Str) = S [32] from rfl, show (⟨#[10]⟩ : Str) = S [10] from rfl, S_add, S_add, S_add]
  congr 1; simp
theorem pre_add (a : Bs) : (⟨#[109, 97, 112, 32]⟩ : Str) ++ S a = S (mapPre ++ a) := by
  rw [show (⟨#[109, 97, 112, 32]⟩ : Str) = S [109, 97, 112, 32] from rfl, S_add]; rfl
theorem body_len {x : PEntry} (h : entryCheck x = 0) : (entryBody x).length < 250 := (okBody_entry h).len
theorem entryText_len {x : PEntry} (h : entryCheck x = 0) : (entryText x).length ≤ 263 := by
  have h1 := body_len h
  have h2 := itoa_len (n := sumV (entryBody x)) (by omega) (by have := sumV_lt (entryBody x); omega)
  rw [entryText, if_pos h, line_len]; omega

theorem mapTextE_size (p : PMap) : (S (mapTextE p)).size ≤ 250 := by
  rw [S_size, mapTextE]
  split
  · rename_i h
    have hok := (mapOk_iff p).1 h
    have h2 := mapTo_len p hok p.cuts.length (Nat.le_refl _)
    rw [mapTo_all p hok.len] at h2
    have := hok.most
    omega
  · simp
theorem itoa_size {q : Nat} (h : q < 65521) : (S (Lib.itoa q)).size ≤ 11 := by
  rw [S_size]; exact itoa_len (by omega) (by omega)
theorem entry_eq {x : PEntry} (h : entryCheck x = 0) : S (entryBody x) ++ (⟨#[32]⟩ : Str) ++ S (Lib.itoa (sumV (entryBody x))) ++ (⟨#[10]⟩ : Str) = S (entryText x) := by
  rw [line_add, entryText, if_pos h]; rfl

set_option maxHeartbeats 4000000 in
theorem textEntry_any (eo : Option Addr) (en ec : Nat) (ao bo : Option Addr) (n c m d : Nat) (x : PEntry) (w : World) (h : EntAt w eo en ec ao n c bo m d x) (hen : en ≤ 1099511627776) (hm : m ≤ 1099511627776) (hI : ∀ o ∈ x.deed, I64 o.n) (hE : Env w) :
    Calls Tryd.prog 30 #[.agg #[.slice eo en ec, .bool x.isMap, .slice ao n c, .slice bo m d]] w fun e w' => e = .returned (.tuple #[.string (S (entryText x)), .int .i64 (entryCheck x)]) ∧ Below w.heap.size w w' := by
  have H := Lib.hid h; clear h
  have HE := Lib.hid hE; clear hE
  have HII := Lib.hid hI; clear hI
  obtain ⟨deed, isMap, mp⟩ := x
  obtain ⟨w0, hw0⟩ : ∃ w0, w.alloc (.cells #[.slice eo en ec, .bool isMap, .slice ao n c, .slice bo m d] 41) = w0 := ⟨_, rfl⟩
  have ho0 : Own w [.cells #[.slice eo en ec, .bool isMap, .slice ao n c, .slice bo m d] 41 (0, 0)] w0 := hw0 ▸ ((Own.start w).push (by simp) _).1
  have c0 : w0.cell? ⟨w.heap.size, 0, none⟩ = some (.slice eo en ec) := ho0.cell 0 0 rfl
  have HO0 := Lib.hid ho0; clear ho0
  simp only at HII
  go_enter Tryd.func30, Tryd.ntmps30
  go_wp2_with fail
  refine (textDeed_any eo en ec deed w0 (H.out.deed.below HO0.out.old) hen HII.out (HE.out.below HO0.out.old)).mono ?_
  rintro e w1 ⟨rfl, hb1⟩
  have HO1 := Lib.hid (HO0.out.below hb1); clear hb1 hw0
  cases isMap
  case false =>
    have c1 : w1.cell? ⟨w.heap.size, 1, none⟩ = some (.bool false) := HO1.out.cell 0 1 rfl
    by_cases hc : deedCheck deed = 0
    · have hcb : (deedCheck deed != 0) = false := by rw [hc]; rfl
      have hck : entryCheck ⟨deed, false, mp⟩ = 0 := by simp [entryCheck, hc]
      have hbd : S (deedTextE deed) = S (entryBody ⟨deed, false, mp⟩) := by rw [deedTextE, if_pos hc]; simp [entryBody]
      have hl := body_len hck
      have hsl := sumV_lt (entryBody ⟨deed, false, mp⟩)
      have HEQ := Lib.hid (entry_eq hck)
      have HCK := Lib.hid hck; clear hck hc
      rw [hbd]
      clear hbd
      generalize entryBody ⟨deed, false, mp⟩ = t at HEQ hl hsl ⊢
      have hlt : (S t).size ≤ 250 := by rw [S_size]; omega
      go_wp2_with fail
      refine (sum_any (S t) (by omega) w1).mono ?_
      rintro e w2 ⟨rfl, rfl⟩
      rw [S_bytes]
      generalize sumV t = q at HEQ hsl ⊢
      have hqs := itoa_size hsl
      go_wp2_with fail
      refine (itoa_any (q : Int) (by omega) (by omega) w1 (HE.out.below HO1.out.old)).mono ?_
      rintro e w3 ⟨rfl, hb3⟩
      have HO3 := Lib.hid (HO1.out.below hb3); clear hb3
      go_wp2_with fail
      go_ret2
      exact ⟨by rw [HCK.out, HEQ.out]; rfl, HO3.out.old⟩
    · have hcb : (deedCheck deed != 0) = true := by simpa using hc
      have hck : entryCheck ⟨deed, false, mp⟩ = deedCheck deed := by simp [entryCheck]
      have htx : entryText ⟨deed, false, mp⟩ = [] := by rw [entryText, if_neg (by rw [hck]; exact hc)]
      have HCK := Lib.hid hck; clear hck hc
      have HTX := Lib.hid htx; clear htx
      go_wp2_with fail
      go_ret2
      exact ⟨by rw [HCK.out, HTX.out]; rfl, HO1.out.old⟩
  case true =>
    have c1 : w1.cell? ⟨w.heap.size, 1, none⟩ = some (.bool true) := HO1.out.cell 0 1 rfl
    have c2 : w1.cell? ⟨w.heap.size, 2, none⟩ = some (.slice ao n c) := HO1.out.cell 0 2 rfl
    have c3 : w1.cell? ⟨w.heap.size, 3, none⟩ = some (.slice bo m d) := HO1.out.cell 0 3 rfl
    go_wp2_with fail
    refine (textMap_any ao bo n c m d mp w1 (H.out.map.below HO1.out.old) hm (HE.out.below HO1.out.old)).mono ?_
    rintro e w4 ⟨rfl, hb4⟩
    have HO4 := Lib.hid (HO1.out.below hb4); clear hb4 c1 c2 c3
    have hms := mapTextE_size mp
    by_cases hc : mapCheck mp = 0
    · have hcb : (mapCheck mp != 0) = false := by rw [hc]; rfl
      have hck : entryCheck ⟨deed, true, mp⟩ = 0 := by simp [entryCheck, hc]
      have hbd : (⟨#[109, 97, 112, 32]⟩ : Str) ++ S (mapTextE mp) = S (entryBody ⟨deed, true, mp⟩) := by rw [mapTextE, if_pos hc, pre_add]; simp [entryBody]
      have hl := body_len hck
      have hsl := sumV_lt (entryBody ⟨deed, true, mp⟩)
      have HEQ := Lib.hid (entry_eq hck)
      have HBD := Lib.hid hbd; clear hbd
      have HCK := Lib.hid hck; clear hck hc
      go_wp2_with fail
      rw [HBD.out]
      clear HBD
      generalize entryBody ⟨deed, true, mp⟩ = t at HEQ hl hsl ⊢
      have hlt : (S t).size ≤ 250 := by rw [S_size]; omega
      refine (sum_any (S t) (by omega) w4).mono ?_
      rintro e w2 ⟨rfl, rfl⟩
      rw [S_bytes]
      generalize sumV t = q at HEQ hsl ⊢
      have hqs := itoa_size hsl
      go_wp2_with fail
      refine (itoa_any (q : Int) (by omega) (by omega) w4 (HE.out.below HO4.out.old)).mono ?_
      rintro e w3 ⟨rfl, hb3⟩
      have HO3 := Lib.hid (HO4.out.below hb3); clear hb3
      go_wp2_with fail
      go_ret2
      exact ⟨by rw [HCK.out, HEQ.out]; rfl, HO3.out.old⟩
    · have hcb : (mapCheck mp != 0) = true := by simpa using hc
      have hck : entryCheck ⟨deed, true, mp⟩ = mapCheck mp := by simp [entryCheck]
      have htx : entryText ⟨deed, true, mp⟩ = [] := by rw [entryText, if_neg (by rw [hck]; exact hc)]
      have HCK := Lib.hid hck; clear hck hc
      have HTX := Lib.hid htx; clear htx
      go_wp2_with fail
      go_ret2
      exact ⟨by rw [HCK.out, HTX.out]; rfl, HO4.out.old⟩
end Go.Proofs.YtdhfcelhgnjpcaaDoor
