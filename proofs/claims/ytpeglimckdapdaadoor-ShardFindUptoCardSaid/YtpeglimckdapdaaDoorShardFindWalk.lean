/-
  rokeep.ShardFind answers true: its walk, out of the contracts of what it calls.
-/
import Derived.Test.YtpeglimckdapdaaDoorMap
import Derived.Test.YtpeglimckdapdaaDoorIndexFunc
import Derived.Test.YtpeglimckdapdaaDoorLetters
import Derived.Deep.DeepCutAuto
import Derived.Lib.Split
namespace Go.Proofs.YtpeglimckdapdaaDoor
open Go.RowKit

/-- The closure: does a cut lie between the two? -/
def parts (a b k : Str) : Bool := slt a k != slt b k
theorem apart_any (a b : Str) (A B : Nat) (k : Str) (w : World) (ha : w.cell? ⟨A, 0, none⟩ = some (.string a)) (hb : w.cell? ⟨B, 0, none⟩ = some (.string b)) :
    Calls Tryd.prog 8 #[.string k, .pointer (some ⟨A, 0, none⟩), .pointer (some ⟨B, 0, none⟩)] w fun e w' => e = .returned (.bool (parts a b k)) ∧ w = w' := by
  go_enter Tryd.func8, Tryd.ntmps8
  go_wp2_with fail
  go_ret
  exact ⟨ret_bool rfl, rfl⟩

theorem tells_apart (a b : Str) (A B : Nat) (w : World) (ha : ∀ W, Below w.heap.size w W → W.cell? ⟨A, 0, none⟩ = some (.string a)) (hb : ∀ W, Below w.heap.size w W → W.cell? ⟨B, 0, none⟩ = some (.string b)) :
    Tells Tryd.prog 8 #[.pointer (some ⟨A, 0, none⟩), .pointer (some ⟨B, 0, none⟩)] (parts a b) w := fun W hW k => by
  show Calls _ _ #[.string k, .pointer (some ⟨A, 0, none⟩), .pointer (some ⟨B, 0, none⟩)] _ _
  exact (apart_any a b A B k W (ha W hW) (hb W hW)).mono fun _ _ h => ⟨h.1, h.2 ▸ Below.refl _ _⟩
theorem one_map (w : World) (g : Nat) (o : Obj) (ho : o = .cells #[.int .i64 2] 3) (hg : w.heap[g]? = some o) : MapAt w none 0 0 (some ⟨g, 0, none⟩) 1 1 ⟨[], [2]⟩ := by
  subst ho
  refine ⟨⟨by simp, by simp, fun _ => rfl, fun j u hu => by simp at hu⟩, ⟨by simp, by simp, (fun h => nomatch h), fun j u hu => ⟨g, 0, rfl, ?_⟩⟩⟩
  rw [heap_cell hg]
  simpa using hu
theorem one_ok : MapOk ⟨[], [2]⟩ := ⟨List.Pairwise.nil, by simp, rfl, by simp, by simp⟩
theorem one_E : findE ⟨[], [2]⟩ ⟨#[97]⟩ = 0 := by
  rw [findE, if_pos ((mapOk_iff _).2 one_ok), if_pos (by decide)]
theorem one_N : findN ⟨[], [2]⟩ ⟨#[97]⟩ = 2 := by
  rw [findN, if_pos ((mapOk_iff _).2 one_ok), if_pos (by decide)]; rfl

def six (s : Str) : Str := s.extract 0 (min (s.size : Int) 6).toNat
theorem six_key (s : Str) (h : ¬ (six (lettersOf s)).toList = []) : isKey (six (lettersOf s)) = true := by
  have hd : (six (lettersOf s)).data.toList = (lettersOf s).data.toList.take (min ((lettersOf s).size : Int) 6).toNat := Lib.extract_from_zero _ _
  refine isKey_good h ?_ ?_
  · have : (six (lettersOf s)).size = (six (lettersOf s)).data.toList.length := by simp
    rw [this, hd, List.length_take]; omega
  · intro j hj
    refine letters_low s _ ?_
    have : (six (lettersOf s))[j] ∈ (six (lettersOf s)).data.toList := by
      rw [Array.mem_toList_iff]; exact Array.getElem_mem hj
    rw [hd] at this
    exact List.mem_of_mem_take this

/-- THE PLAIN LAW: a key's place among the cuts is told by which cuts lie above it. -/
theorem idx_char {p : PMap} (hs : Srt p.cuts) (x : Str) : (∀ j, j < idx p x → slt x (p.cuts.getD j noStr) = false) ∧ (idx p x < p.cuts.length → slt x (p.cuts.getD (idx p x) noStr) = true) := by
  cases hat : hasAt p.cuts x
  · have hi : idx p x = lb p.cuts x := by simp [idx, hat]
    rw [hi]
    refine ⟨fun j hj => slt_asymm (lb_lo _ _ j hj), fun hl => ?_⟩
    cases hx : slt x (p.cuts.getD (lb p.cuts x) noStr)
    · have := slt_total (lb_hi _ _ hl) hx
      rw [hasAt_yes rfl hl this] at hat; cases hat
    · rfl
  · have hi : idx p x = lb p.cuts x + 1 := by simp [idx, hat]
    rw [hi]
    simp only [hasAt, decide_eq_true_eq] at hat
    have hl := (List.getElem?_eq_some_iff.1 hat).1
    have hx : p.cuts.getD (lb p.cuts x) noStr = x := by rw [List.getD_eq_getElem?_getD, hat]; rfl
    refine ⟨fun j hj => ?_, fun hl2 => ?_⟩
    · by_cases e : j = lb p.cuts x
      · subst e; rw [hx]; exact slt_irrefl x
      · exact slt_asymm (lb_lo _ _ j (by omega))
    · have := hs.lt (i := lb p.cuts x) (j := lb p.cuts x + 1) (by omega) hl2
      rwa [hx] at this
theorem find_ok {p : PMap} (hok : MapOk p) {x : Str} (hx : isKey x = true) : findN p x = whose p x ∧ findE p x = 0 := by
  simp [findN, findE, (mapOk_iff p).2 hok, hx]
theorem idx_le {p : PMap} (h : MapOk p) (x : Str) : idx p x ≤ p.cuts.length := by have := idx_lt h x; have := h.len; omega
theorem parts_law {p : PMap} (hok : MapOk p) (a b : Str) (h : p.cuts.any (parts a b) = false) : whose p a = whose p b := by
  have hall : ∀ j, j < p.cuts.length → slt a (p.cuts.getD j noStr) = slt b (p.cuts.getD j noStr) := fun j hj => by
    rw [List.any_eq_false] at h
    have := h _ (List.getElem_mem hj)
    simpa [parts, List.getD_eq_getElem?_getD, List.getElem?_eq_getElem hj] using this
  have ha := idx_char hok.srt a
  have hb := idx_char hok.srt b
  have la := idx_le hok a
  have lb' := idx_le hok b
  have : idx p a = idx p b := by
    rcases Nat.lt_trichotomy (idx p a) (idx p b) with hlt | he | hlt
    · have h1 := ha.2 (by omega)
      rw [hall _ (by omega), hb.1 _ hlt] at h1; cases h1
    · exact he
    · have h1 := hb.2 (by omega)
      rw [← hall _ (by omega), ha.1 _ hlt] at h1; cases h1
  unfold whose
  rw [this]

/-- What lies in memory while the law runs: the two texts in their boxes, the map in its. -/
structure LawSt (w : World) (M : Nat) (ac : Option Addr) (nc cc : Nat) (bo : Option Addr) (mo dd : Nat) (p : PMap) (sa sb : Str) (W : World) : Prop where
  a : W.heap[w.heap.size]? = some (.cells #[.string sa] 9 (0, 0))
  b : W.heap[w.heap.size + 1]? = some (.cells #[.string sb] 9 (0, 0))
  m : W.heap[M]? = some (.cells #[.slice ac nc cc, .slice bo mo dd] 28 (0, 0))
  hm : w.heap.size + 1 < M
  cuts : W.ownsRow (w.heap.size + 2) 9 1 (.slice ac nc cc) nc (p.cuts.map .string)
  owns : W.ownsRow (w.heap.size + 2) 3 1 (.slice bo mo dd) mo (p.owners.map (.int .i64))
  old : Below w.heap.size w W
  tabs : Lib.Utf8Tabs 0 1 W
section
variable {w : World} {M : Nat} {ac : Option Addr} {nc cc : Nat} {bo : Option Addr} {mo dd : Nat} {p : PMap} {sa sb : Str} {W W' : World}
theorem LawSt.size (h : LawSt w M ac nc cc bo mo dd p sa sb W) : M < W.heap.size := heap_lt h.m
theorem LawSt.below (h : LawSt w M ac nc cc bo mo dd p sa sb W) (hb : Below W.heap.size W W') : LawSt w M ac nc cc bo mo dd p sa sb W' :=
  ⟨(hb.block _ (heap_lt h.a)).trans h.a, (hb.block _ (heap_lt h.b)).trans h.b, (hb.block _ (heap_lt h.m)).trans h.m, h.hm, owns_below h.cuts hb, owns_below h.owns hb, below_more h.old hb (Nat.le_refl _), Utf8Tabs_below h.tabs hb⟩
theorem LawSt.drew (h : LawSt w M ac nc cc bo mo dd p sa sb W) : LawSt w M ac nc cc bo mo dd p sa sb W.drew := h.below ((Below.refl _ _).drew)
theorem LawSt.at_ (h : LawSt w M ac nc cc bo mo dd p sa sb W) : MapAt W ac nc cc bo mo dd p := ⟨(Sl.of_own h.cuts).2, (Sl.of_own h.owns).2⟩
theorem tabs_set {b : Nat} {W : World} (h : Lib.Utf8Tabs 0 1 W) (hb : 1 < b) (o : Nat) (u : Value) : Lib.Utf8Tabs 0 1 (W.setCell ⟨b, o, none⟩ u) := by
  have e : ∀ g j, g ≤ 1 → (W.setCell ⟨b, o, none⟩ u).cell? ⟨g, j, none⟩ = W.cell? ⟨g, j, none⟩ := fun g j hg => World.cell?_of_block (w := W) (a := ⟨g, j, none⟩) (by show (W.setCell _ _).heap[g]? = W.heap[g]?; exact heap_set_other (by omega) u)
  unfold Lib.Utf8Tabs at h ⊢
  simp only [e _ _ (Nat.le_refl 1), e _ _ (Nat.zero_le 1)]
  exact h
theorem LawSt.set2 (h : LawSt w M ac nc cc bo mo dd p sa sb W) (u v : Str) (hw : 1 < w.heap.size) : LawSt w M ac nc cc bo mo dd p u v ((W.setCell ⟨w.heap.size, 0, none⟩ (.string u)).setCell ⟨w.heap.size + 1, 0, none⟩ (.string v)) := by
  have hm := h.hm
  refine ⟨?_, ?_, ?_, hm, owns_set (owns_set h.cuts (owns_far h.cuts (by omega)) _) (owns_far h.cuts (by omega)) _, owns_set (owns_set h.owns (owns_far h.owns (by omega)) _) (owns_far h.owns (by omega)) _,
    (h.old.setCell (Nat.le_refl _) _).setCell (by simp) _, tabs_set (tabs_set h.tabs hw _ _) (by omega) _ _⟩
  · rw [heap_set_other (b := w.heap.size) (b' := w.heap.size + 1) (by omega)]; exact heap_set_same h.a _
  · exact heap_set_same ((heap_set_other (b := w.heap.size + 1) (b' := w.heap.size) (by omega) _).trans h.b) _
  · rw [heap_set_other (b := M) (b' := w.heap.size + 1) (by omega), heap_set_other (b := M) (b' := w.heap.size) (by omega)]; exact h.m
theorem LawSt.ca (h : LawSt w M ac nc cc bo mo dd p sa sb W) : W.cell? ⟨w.heap.size, 0, none⟩ = some (.string sa) := by rw [heap_cell h.a]; rfl
theorem LawSt.cb (h : LawSt w M ac nc cc bo mo dd p sa sb W) : W.cell? ⟨w.heap.size + 1, 0, none⟩ = some (.string sb) := by rw [heap_cell h.b]; rfl
theorem LawSt.c0 (h : LawSt w M ac nc cc bo mo dd p sa sb W) : W.cell? ⟨M, 0, none⟩ = some (.slice ac nc cc) := by rw [heap_cell h.m]; rfl
theorem LawSt.c1 (h : LawSt w M ac nc cc bo mo dd p sa sb W) : W.cell? ⟨M, 1, none⟩ = some (.slice bo mo dd) := by rw [heap_cell h.m]; rfl
theorem LawSt.fa (h : LawSt w M ac nc cc bo mo dd p sa sb W) : W.frozen? ⟨w.heap.size, 0, none⟩ = false := heap_free h.a 0
theorem LawSt.fb (h : LawSt w M ac nc cc bo mo dd p sa sb W) : W.frozen? ⟨w.heap.size + 1, 0, none⟩ = false := heap_free h.b 0
end

theorem law_start {w w1 w2 : World} {a b : Str} {ac : Option Addr} {nc cc : Nat} {bo : Option Addr} {mo dd : Nat} {p : PMap}
    (hb1 : Below (((w.alloc (.cells #[.string a] 9)).alloc (.cells #[.string b] 9)).alloc (.cells #[.int .i64 2] 3)).heap.size (((w.alloc (.cells #[.string a] 9)).alloc (.cells #[.string b] 9)).alloc (.cells #[.int .i64 2] 3)) w1)
    (hb2 : Below w1.heap.size w1 w2) (hc : w2.ownsRow w1.heap.size 9 1 (.slice ac nc cc) nc (p.cuts.map .string)) (ho : w2.ownsRow w1.heap.size 3 1 (.slice bo mo dd) mo (p.owners.map (.int .i64))) (hT : Lib.Utf8Tabs 0 1 w) :
    LawSt w w2.heap.size ac nc cc bo mo dd p a b (w2.alloc (.cells #[.slice ac nc cc, .slice bo mo dd] 28)) := by
  have h1 := hb1.size
  have h2 := hb2.size
  simp only [World.size_alloc] at h1
  refine ⟨heap_alloc ?_ _, heap_alloc ?_ _, heap_alloc_new _ _, by omega, (owns_base hc (by omega)).alloc _, (owns_base ho (by omega)).alloc _, ?_, ?_⟩
  · rw [hb2.block _ (by omega), hb1.block _ (by simp <;> omega)]
    exact heap_alloc (heap_alloc (heap_alloc_at rfl _) _) _
  · rw [hb2.block _ (by omega), hb1.block _ (by simp <;> omega)]
    exact heap_alloc (heap_alloc_at (by simp) _) _
  · exact below_more (below_more (below_more ((((Below.refl w.heap.size w).alloc (Nat.le_refl _) _).alloc (by simp) _).alloc (by simp <;> omega) _) hb1 (by simp <;> omega)) hb2 (Nat.le_refl _)) (below_alloc _ _) (Nat.le_refl _)
  · exact Utf8Tabs_below hT (below_more (below_more (below_more ((((Below.refl w.heap.size w).alloc (Nat.le_refl _) _).alloc (by simp) _).alloc (by simp <;> omega) _) hb1 (by simp <;> omega)) hb2 (Nat.le_refl _)) (below_alloc _ _) (Nat.le_refl _))

set_option maxHeartbeats 2000000 in
theorem law_any (ao : Option Addr) (n c : Nat) (l : List Int) (a b : Str) (w : World) (h : Sl w 1 ao n c (l.map (.int .i64))) (hn : n ≤ 1099511627776) (ha : a.size < 35184372088832) (hb : b.size < 35184372088832)
    (hT : Lib.Utf8Tabs 0 1 w) (hw : 1 < w.heap.size) :
    Calls Tryd.prog 3 #[.slice ao n c, .string a, .string b] w fun e w' => e = .returned (.bool true) ∧ Below w.heap.size w w' := by
  go_enter Tryd.func3, Tryd.ntmps3
  go_wp2_with fail
  refine (find_any _ _ _ _ _ _ ⟨[], [2]⟩ _ _ (one_map _ (w.heap.size + 2) _ rfl (heap_alloc_at (by simp) _)) (by omega)).mono ?_
  rintro e w1 ⟨rfl, hb1⟩
  rw [one_N, one_E]
  have HB1 := Lib.hid hb1
  have hz1 := hb1.size
  have hO1 : Below w.heap.size w w1 := below_more ((((Below.refl w.heap.size w).alloc (Nat.le_refl _) _).alloc (by simp) _).alloc (by simp <;> omega) _) hb1 (Nat.le_refl _)
  have HO := Lib.hid hO1
  simp only [World.size_alloc] at hz1
  clear hb1 hO1
  go_wp2_with fail
  refine (gmap_any _ _ _ l _ (h.below HO.out) hn).mono ?_
  rintro e w2 ⟨vc, vo, rfl, hc2, ho2, hb2⟩
  obtain ⟨ac, cc, rfl, _⟩ := Sl.of_owns hc2
  obtain ⟨bo, dd, rfl, _⟩ := Sl.of_owns ho2
  have HS := Lib.hid (law_start HB1.out hb2 hc2 ho2 hT)
  have hz2 := hb2.size
  clear hc2 ho2 hb2
  go_wp2_with fail
  clear hT
  generalize hM : w2.heap.size = M at HS hz2 ⊢
  generalize hW : w2.alloc _ = W at HS ⊢
  clear hM hW
  go_upto_region 5 with fail
  go_cut [] (fun wc => LawSt w M ac (gMap l).cuts.length cc bo (gMap l).owners.length dd (gMap l) (lettersOf a) (lettersOf b) wc)
  case first =>
    have st := HS.out.drew
    have ca := st.ca
    have cb := st.cb
    have fa := st.fa
    have fb := st.fb
    have tb := st.tabs
    have hzz := st.size
    have hmm := HS.out.hm
    go_region_with (go_at_call 6; refine (letters_any _ _ (by first | exact ha | exact hb) (by assumption)).mono ?_; rintro e wl ⟨rfl, hbe⟩; have stl := LawSt.below (by assumption) hbe; have tbl := stl.tabs; have cal := stl.ca; have cbl := stl.cb; have fal := stl.fa; have fbl := stl.fb; have hzl := stl.size; clear hbe)
    all_goals (go_wp2_with fail; go_meet; exact LawSt.set2 (by assumption) _ _ hw)
  case rest =>
    clear HS
    have st := hcut
    have ca := st.ca
    have cb := st.cb
    have fa := st.fa
    have fb := st.fb
    have hzz := st.size
    have hmm := st.hm
    go_upto_region 6 with fail
    go_cut [] (fun wc => LawSt w M ac (gMap l).cuts.length cc bo (gMap l).owners.length dd (gMap l) (six (lettersOf a)) (six (lettersOf b)) wc)
    case first =>
      go_region
      all_goals (go_wp2_with fail; go_meet; exact (LawSt.set2 hcut _ _ hw).drew)
    case rest =>
      clear st ca cb fa fb hzz hmm
      have st := hcut
      have ca := st.ca
      have cb := st.cb
      have c0 := st.c0
      have c1 := st.c1
      have hzz := st.size
      have hmm := st.hm
      have ka := six_key a
      have kb := six_key b
      generalize six (lettersOf a) = sa at *
      generalize six (lettersOf b) = sb at *
      by_cases ea : sa.toList = []
      · have ea' : sa.toList.isEmpty = true := by simp [ea]
        have HS := Lib.hid hcut.old; clear hcut st ka kb
        go_wp2_with fail
        go_ret
        exact ⟨rfl, HS.out⟩
      · have ea' : sa.toList.isEmpty = false := by simpa using ea
        by_cases eb : sb.toList = []
        · have eb' : sb.toList.isEmpty = true := by simp [eb]
          have HS := Lib.hid hcut.old; clear hcut st ka kb
          go_wp2_with fail
          go_ret
          exact ⟨rfl, HS.out⟩
        · have eb' : sb.toList.isEmpty = false := by simpa using eb
          have KA := Lib.hid (ka ea); have KB := Lib.hid (kb eb)
          have HS := Lib.hid hcut
          clear ka kb ea eb hcut st
          have hok := Lib.hid (gMap_ok l)
          have hol : (gMap l).owners.length ≤ 1099511627776 := by have h1 := hok.out.len; have h2 := hok.out.most; omega
          have hcl : (gMap l).cuts.length ≤ 1099511627776 := by have h2 := hok.out.most; omega
          clear hcut
          go_wp2_with fail
          refine (find_any _ _ _ _ _ _ (gMap l) sa _ HS.out.at_ hol).mono ?_
          rintro e w3 ⟨rfl, hb3⟩
          rw [(find_ok hok.out KA.out).1, (find_ok hok.out KA.out).2]
          have HS3 := Lib.hid (HS.out.below hb3)
          clear hb3 ca cb c0 c1
          have cb := HS3.out.cb
          have c0 := HS3.out.c0
          have c1 := HS3.out.c1
          go_wp2_with fail
          refine (find_any _ _ _ _ _ _ (gMap l) sb _ HS3.out.at_ hol).mono ?_
          rintro e w4 ⟨rfl, hb4⟩
          rw [(find_ok hok.out KB.out).1, (find_ok hok.out KB.out).2]
          have HS4 := Lib.hid (HS3.out.below hb4)
          clear hb4 cb c0 c1
          have c0 := HS4.out.c0
          go_wp2_with fail
          have hz4 := HS4.out.size
          have hm4 := HS4.out.hm
          have HT4 := Lib.hid (tells_apart sa sb w.heap.size (w.heap.size + 1) w4 (fun W hb => (HS4.out.below hb).ca) (fun W hb => (HS4.out.below hb).cb))
          refine (containsFunc_any ac (gMap l).cuts.length cc (gMap l).cuts 8 _ (parts sa sb) w4 HS4.out.at_.cuts hcl (enters_of Tryd.func8 (by kernel_rfl) rfl) HT4.out).mono ?_
          rintro e w5 ⟨rfl, hb5⟩
          have HO5 := Lib.hid (below_more HS4.out.old hb5 (Nat.le_refl _))
          clear hb5
          cases hany : (gMap l).cuts.any (parts sa sb)
          · have hlaw := parts_law hok.out sa sb hany
            have hbq : (whose (gMap l) sa == whose (gMap l) sb) = true := by rw [hlaw]; simp
            clear hlaw hany
            go_wp2_with fail
            go_ret
            exact ⟨ret_bool rfl, HO5.out⟩
          · clear hany
            go_wp2_with fail
            go_ret
            exact ⟨rfl, HO5.out⟩
end Go.Proofs.YtpeglimckdapdaaDoor
