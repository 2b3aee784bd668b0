/-
  Slices of entries whose parts lie in blocks of their own types; text.Log.
-/
import Derived.Test.YtdhfcelhgnjpcaaDoorLogPlain
import Derived.Test.YtdhfcelhgnjpcaaDoorReadEntry
namespace Go.Proofs.YtdhfcelhgnjpcaaDoor
open Go.RowKit

theorem Sl.grown {w w' : World} {size : Nat} {ao : Option Addr} {n c : Nat} {xs : List Value} (h : Sl w size ao n c xs) {T E : TypeId} (ht : TypedAt T w ao) {row : Option Nat} (hg : w.grownBy w' row)
    (hr : ∀ b, row = some b → ∃ cur fr, w.heap[b]? = some (.cells cur E fr)) (hne : T ≠ E) : Sl w' size ao n c xs :=
  ⟨h.len, h.le, h.nil, fun j u hu => by
    obtain ⟨b, off, h1, h2⟩ := h.cell j u hu
    obtain ⟨cur, fr, hc⟩ := ht _ h1
    refine ⟨b, off, h1, ?_⟩
    have hc' := grown_heap hg hc (fun e => by
      obtain ⟨c2, f2, h3⟩ := hr _ e
      rw [hc] at h3
      simp only [Option.some.injEq, Obj.cells.injEq] at h3
      exact hne h3.2.1)
    rw [heap_cell hc']
    rw [heap_cell hc] at h2
    exact h2⟩
theorem Sl.setT {w : World} {size : Nat} {ao : Option Addr} {n c : Nat} {xs : List Value} (h : Sl w size ao n c xs) {T E : TypeId} (ht : TypedAt T w ao) {b : Nat} {cur : Array Value} {fr : Nat × Nat} (hb : w.heap[b]? = some (.cells cur E fr)) (hne : T ≠ E) (o : Nat) (v : Value) :
    Sl (w.setCell ⟨b, o, none⟩ v) size ao n c xs :=
  ⟨h.len, h.le, h.nil, fun j u hu => by
    obtain ⟨b', off, h1, h2⟩ := h.cell j u hu
    obtain ⟨c2, f2, hc⟩ := ht _ h1
    have hbb : b' ≠ b := fun e => by
      subst e
      rw [hb] at hc
      simp only [Option.some.injEq, Obj.cells.injEq] at hc
      exact hne hc.2.1.symm
    refine ⟨b', off, h1, ?_⟩
    rw [World.cell?_setCell_other w _ _ v (fun e => by simp only [Addr.mk.injEq] at e; exact hbb e.1.symm)]
    exact h2⟩
theorem own_typed {w : World} {base : Nat} {e : TypeId} {size : Nat} {v : Value} {n : Nat} {xs : List Value} (h : w.ownsRow base e size v n xs) : ∀ b, v.ownBlock = some b → ∃ cur fr, w.heap[b]? = some (.cells cur e fr) := by
  intro b hv
  rcases h.2 with ⟨rfl, _⟩ | ⟨g, cap, cur', rfl, _, hg, _⟩
  · simp [Value.ownBlock] at hv
  · simp only [Value.ownBlock, Option.some.injEq] at hv
    subst hv
    exact ⟨_, _, hg⟩

/-- An entry's header: where its parts lie. -/
structure Ent where
  eo : Option Addr
  en : Nat
  ec : Nat
  ao : Option Addr
  n : Nat
  c : Nat
  bo : Option Addr
  m : Nat
  d : Nat
  x : PEntry
def Ent.cells (h : Ent) : List Value := [.slice h.eo h.en h.ec, .bool h.x.isMap, .slice h.ao h.n h.c, .slice h.bo h.m h.d]
structure Ent.Ok (w : World) (h : Ent) : Prop where
  ent : EntAt w h.eo h.en h.ec h.ao h.n h.c h.bo h.m h.d h.x
  t1 : TypedAt 54 w h.eo
  t2 : TypedAt 9 w h.ao
  t3 : TypedAt 3 w h.bo
theorem Ent.Ok.below {w w' : World} {h : Ent} (k : h.Ok w) (hb : Below w.heap.size w w') : h.Ok w' := ⟨k.ent.below hb, k.t1.below hb, k.t2.below hb, k.t3.below hb⟩
theorem Ent.Ok.grown {w w' : World} {h : Ent} (k : h.Ok w) {E : TypeId} {row : Option Nat} (hg : w.grownBy w' row) (hr : ∀ b, row = some b → ∃ cur fr, w.heap[b]? = some (.cells cur E fr)) (h1 : 54 ≠ E) (h2 : 9 ≠ E) (h3 : 3 ≠ E) : h.Ok w' :=
  ⟨⟨⟨k.ent.deed.sl.grown k.t1 hg hr h1⟩, ⟨k.ent.map.cuts.grown k.t2 hg hr h2, k.ent.map.owns.grown k.t3 hg hr h3⟩⟩, k.t1.grown hg hr h1, k.t2.grown hg hr h2, k.t3.grown hg hr h3⟩
theorem Ent.Ok.set {w : World} {h : Ent} (k : h.Ok w) {E : TypeId} {b : Nat} {cur : Array Value} {fr : Nat × Nat} (hb : w.heap[b]? = some (.cells cur E fr)) (h1 : 54 ≠ E) (h2 : 9 ≠ E) (h3 : 3 ≠ E) (o : Nat) (v : Value) : h.Ok (w.setCell ⟨b, o, none⟩ v) :=
  ⟨⟨⟨k.ent.deed.sl.setT k.t1 hb h1 o v⟩, ⟨k.ent.map.cuts.setT k.t2 hb h2 o v, k.ent.map.owns.setT k.t3 hb h3 o v⟩⟩, k.t1.set b o v, k.t2.set b o v, k.t3.set b o v⟩
def EntsIn (w : World) (es : List Ent) : Prop := ∀ h ∈ es, h.Ok w
theorem EntsIn.below {w w' : World} {es : List Ent} (k : EntsIn w es) (hb : Below w.heap.size w w') : EntsIn w' es := fun h hh => (k h hh).below hb
theorem EntsIn.snoc {w : World} {es : List Ent} {h : Ent} (k : EntsIn w es) (hh : h.Ok w) : EntsIn w (es ++ [h]) := fun x hx => by
  rcases List.mem_append.1 hx with hx | hx
  · exact k x hx
  · rw [List.mem_singleton.1 hx]; exact hh
def entCells (es : List Ent) : List Value := es.flatMap Ent.cells
theorem entCells_snoc (es : List Ent) (h : Ent) : entCells (es ++ [h]) = entCells es ++ h.cells := by simp [entCells]
theorem ent_at : ∀ (l : List Ent) (k j : Nat), j < 4 → (entCells l)[k * 4 + j]? = (l[k]?).bind fun o => (o.cells)[j]?
  | [], k, j, _ => by simp [entCells]
  | o :: r, 0, j, hj => by
    rw [entCells, List.flatMap_cons, List.getElem?_append_left (by simp [Ent.cells]; omega)]; simp
  | o :: r, k + 1, j, hj => by
    have ih := ent_at r k j hj
    rw [entCells, List.flatMap_cons, List.getElem?_append_right (by simp [Ent.cells]; omega)]
    have : (k + 1) * 4 + j - o.cells.length = k * 4 + j := by simp [Ent.cells]; omega
    rw [this]
    rw [entCells] at ih
    rw [ih]; simp
theorem ent_len : ∀ l : List Ent, (entCells l).length = l.length * 4
  | [] => rfl
  | o :: r => by
    have ih := ent_len r
    rw [entCells] at ih ⊢
    rw [List.flatMap_cons, List.length_append, ih]; simp [Ent.cells]; omega
/-- A slice of entries. -/
structure EntsAt (w : World) (ao : Option Addr) (n c : Nat) (es : List Ent) : Prop where
  sl : Sl w 4 ao n c (entCells es)
  ents : EntsIn w es
theorem EntsAt.below {w w' : World} {ao : Option Addr} {n c : Nat} {es : List Ent} (h : EntsAt w ao n c es) (hb : Below w.heap.size w w') : EntsAt w' ao n c es := ⟨h.sl.below hb, h.ents.below hb⟩
theorem EntsAt.n {w : World} {ao : Option Addr} {n c : Nat} {es : List Ent} (h : EntsAt w ao n c es) : es.length = n := by
  have := h.sl.len; rw [ent_len] at this; omega
theorem EntsAt.cells {w : World} {ao : Option Addr} {n c : Nat} {l : List Ent} (h : EntsAt w ao n c l) (k : Nat) (hk : k < n) :
    ∃ b off o, ao = some ⟨b, off, none⟩ ∧ b < w.heap.size ∧ l[k]? = some o ∧ o.Ok w ∧ w.cell? ⟨b, off + k * 4, none⟩ = some (.slice o.eo o.en o.ec) ∧ w.cell? ⟨b, off + k * 4 + 1, none⟩ = some (.bool o.x.isMap) ∧
      w.cell? ⟨b, off + k * 4 + 2, none⟩ = some (.slice o.ao o.n o.c) ∧ w.cell? ⟨b, off + k * 4 + 3, none⟩ = some (.slice o.bo o.m o.d) := by
  have hl := h.n
  have hkl : k < l.length := by omega
  have hg : l[k]? = some l[k] := List.getElem?_eq_getElem hkl
  have e : ∀ j u, j < 4 → (l[k].cells)[j]? = some u → ∃ b off, ao = some ⟨b, off, none⟩ ∧ w.cell? ⟨b, off + (k * 4 + j), none⟩ = some u := fun j u hj hu =>
    h.sl.cell (k * 4 + j) u (by rw [ent_at l k j hj, hg]; exact hu)
  obtain ⟨b, off, hb, h0⟩ := e 0 _ (by omega) rfl
  refine ⟨b, off, l[k], hb, World.block_lt_of_cell? w _ h0, hg, h.ents _ (List.getElem_mem hkl), h0, ?_, ?_, ?_⟩
  · obtain ⟨b', off', hb', h1⟩ := e 1 _ (by omega) rfl
    rw [hb] at hb'; cases hb'; exact h1
  · obtain ⟨b', off', hb', h1⟩ := e 2 _ (by omega) rfl
    rw [hb] at hb'; cases hb'; exact h1
  · obtain ⟨b', off', hb', h1⟩ := e 3 _ (by omega) rfl
    rw [hb] at hb'; cases hb'; exact h1
theorem infoE : (Tryd.prog.info? 41).map (fun i => (i.zero, i.size, i.bytes)) = some (some (.agg #[.slice none 0 0, .bool false, .slice none 0 0, .slice none 0 0]), 4, 80) := by kernel_rfl
/-- What a function that collects entries has made. -/
structure EM (w : World) (vo : Value) (es : List Ent) (W : World) : Prop where
  owns : W.ownsRow w.heap.size 41 4 vo es.length (entCells es)
  ents : EntsIn W es
  old : Below w.heap.size w W
section
variable {w W W' : World} {vo : Value} {es : List Ent}
theorem EM.start (w : World) : EM w (.slice none 0 0) [] w := ⟨⟨rfl, Or.inl ⟨rfl, rfl⟩⟩, fun h hh => (by cases hh), Below.refl _ _⟩
theorem EM.below (h : EM w vo es W) (hb : Below W.heap.size W W') : EM w vo es W' := ⟨owns_below h.owns hb, h.ents.below hb, below_more h.old hb (Nat.le_refl _)⟩
theorem EM.alloc (h : EM w vo es W) (o : Obj) : EM w vo es (W.alloc o) := h.below (below_alloc W o)
theorem EM.grow (h : EM w vo es W) {vo' : Value} {x : Ent} (ho : W'.ownsRow w.heap.size 41 4 vo' (es.length + 1) (entCells es ++ x.cells)) (hg : W.grownBy W' vo.ownBlock) (hx : x.Ok W) : EM w vo' (es ++ [x]) W' := by
  have hr := own_typed h.owns
  refine ⟨by rw [List.length_append, entCells_snoc]; exact ho, ?_, h.old.grown hg h.old.size (fun k hk => (h.owns.lt k hk).1)⟩
  have h1 : EntsIn W (es ++ [x]) := h.ents.snoc hx
  exact fun y hy => (h1 y hy).grown hg hr (by decide) (by decide) (by decide)
theorem EM.at_ (h : EM w vo es W) : ∃ ao c, vo = .slice ao es.length c ∧ EntsAt W ao es.length c es ∧ Fresh w.heap.size 41 W ao := by
  obtain ⟨ao, c, rfl, hs⟩ := Sl.of_owns h.owns
  exact ⟨ao, c, rfl, ⟨hs, h.ents⟩, Fresh.of_own h.owns⟩
end
end Go.Proofs.YtdhfcelhgnjpcaaDoor
