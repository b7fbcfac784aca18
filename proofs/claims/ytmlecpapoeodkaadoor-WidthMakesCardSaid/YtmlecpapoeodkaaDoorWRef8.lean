/- Walks: the reference of the layer width: Of: what is in memory meanwhile. -/
import Derived.Test.YtmlecpapoeodkaaDoorWOfR
import Derived.Test.YtmlecpapoeodkaaDoorWRef
namespace Go.Proofs.YtmlecpapoeodkaaDoor
open Go.RowKit
attribute [local go_sem ↓] run_eqlS run_neqS run_eqlS0 run_neqS0

/-- What is in memory while the reference makes the decomposition: the row of neighbours, the tree so far. -/
structure RefMem (w wr : World) (g gd : Nat) (M : List VS) (vB vU : Value) (B : List VS) (U : List Int) : Prop where
  ord : w.heap.size < g ∧ g < gd
  row : SetRow wr g M
  dv : Box2 wr gd 33 vB vU
  own : OwnSets wr (gd + 1) vB B
  ownU : OwnInts wr (gd + 1) vU U
  low : Below w.heap.size w wr
  rv : Box2 wr w.heap.size 33 (.slice none 0 0) (.slice none 0 0)
  sz : gd + 1 ≤ wr.heap.size
section
variable {w wr wr' : World} {g gd : Nat} {M : List VS} {vB vU : Value} {B : List VS} {U : List Int} (h : RefMem w wr g gd M vB vU B U)
include h
theorem RefMem.below (hb : Below wr.heap.size wr wr') : RefMem w wr' g gd M vB vU B U :=
  ⟨h.ord, h.row.below hb h.row.lt, h.dv.below hb h.dv.lt, h.own.below hb, h.ownU.below hb, h.low.trans (hb.mono h.low.size), h.rv.below hb h.rv.lt, Nat.le_trans h.sz hb.size⟩
theorem RefMem.near (hg : wr.grownBy wr' (some g)) {M' : List VS} (hr : SetRow wr' g M') : RefMem w wr' g gd M' vB vU B U := by
  have ho := h.ord
  have n1 : ∀ b, b ≠ g → some b ≠ some g := fun b hb e => hb (by simpa using e)
  exact ⟨ho, hr, h.dv.kept hg (n1 _ (by omega)), h.own.kept hg (own_far h.own (by intro k e; cases e; omega)), h.ownU.kept hg (own_far h.ownU (by intro k e; cases e; omega)),
    h.low.grown hg h.low.size (by intro k e; cases e; omega), h.rv.kept hg (n1 _ (by omega)), Nat.le_trans h.sz hg.size⟩
/-- The bags are exchanged for new ones that lie above. -/
theorem RefMem.bags {vB' : Value} {B' : List VS} {w2 : World} (hg : wr.grownBy w2 vB.ownBlock) (h1 : OwnSets w2 (gd + 1) vB' B') : RefMem w (w2.setCell ⟨gd, 0, none⟩ vB') g gd M vB' vU B' U := by
  have ho := h.ord
  have hf : ∀ k, vB.ownBlock = some k → gd + 1 ≤ k := fun k e => (h.own.lt k e).1
  have n1 : ∀ b, b < gd + 1 → some b ≠ vB.ownBlock := fun b hb e => by have := hf b e.symm; omega
  have hg2 : w2.grownBy (w2.setCell ⟨gd, 0, none⟩ vB') (some gd) := ⟨rfl, rfl, rfl, by simp [World.setCell], fun k _ hne => Below.heap_setCell _ _ _ _ (by intro e; exact hne (by rw [e]))⟩
  have n2 : ∀ b, b ≠ gd → some b ≠ some gd := fun b hb e => hb (by simpa using e)
  have h2 := h.ownU.kept hg (own_apart h.ownU h.own (by decide))
  exact ⟨ho, (h.row.kept hg (n1 _ (by omega))).kept hg2 (n2 _ (by omega)), (h.dv.kept hg (n1 _ (by omega))).set0 vB',
    h1.kept hg2 (own_far h1 (by intro k e; cases e; omega)), h2.kept hg2 (own_far h2 (by intro k e; cases e; omega)), (h.low.grown hg h.low.size (by intro k e; have := hf k e; omega)).setCell (p := ⟨gd, 0, none⟩) (by show w.heap.size ≤ gd; omega) _,
    (h.rv.kept hg (n1 _ (by omega))).kept hg2 (n2 _ (by omega)), by have := h.sz; have := hg.size; have := hg2.size; omega⟩
/-- The indices are exchanged for new ones that lie above. -/
theorem RefMem.ups {vU' : Value} {U' : List Int} {w2 : World} (hg : wr.grownBy w2 vU.ownBlock) (h2 : OwnInts w2 (gd + 1) vU' U') : RefMem w (w2.setCell ⟨gd, 1, none⟩ vU') g gd M vB vU' B U' := by
  have ho := h.ord
  have hf : ∀ k, vU.ownBlock = some k → gd + 1 ≤ k := fun k e => (h.ownU.lt k e).1
  have n1 : ∀ b, b < gd + 1 → some b ≠ vU.ownBlock := fun b hb e => by have := hf b e.symm; omega
  have hg2 : w2.grownBy (w2.setCell ⟨gd, 1, none⟩ vU') (some gd) := ⟨rfl, rfl, rfl, by simp [World.setCell], fun k _ hne => Below.heap_setCell _ _ _ _ (by intro e; exact hne (by rw [e]))⟩
  have n2 : ∀ b, b ≠ gd → some b ≠ some gd := fun b hb e => hb (by simpa using e)
  have h1 := h.own.kept hg (own_apart h.own h.ownU (by decide))
  exact ⟨ho, (h.row.kept hg (n1 _ (by omega))).kept hg2 (n2 _ (by omega)), (h.dv.kept hg (n1 _ (by omega))).set1 vU',
    h1.kept hg2 (own_far h1 (by intro k e; cases e; omega)), h2.kept hg2 (own_far h2 (by intro k e; cases e; omega)), (h.low.grown hg h.low.size (by intro k e; have := hf k e; omega)).setCell (p := ⟨gd, 1, none⟩) (by show w.heap.size ≤ gd; omega) _,
    (h.rv.kept hg (n1 _ (by omega))).kept hg2 (n2 _ (by omega)), by have := h.sz; have := hg.size; have := hg2.size; omega⟩
end
end Go.Proofs.YtmlecpapoeodkaaDoor
