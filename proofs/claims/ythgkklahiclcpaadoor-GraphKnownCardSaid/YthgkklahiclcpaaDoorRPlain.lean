/- Words for the reference's functions of sets: rows of booleans. -/
import Derived.Test.YthgkklahiclcpaaDoorMem
namespace Go.Proofs.YthgkklahiclcpaaDoor
open Go.RowKit

/-- The block g is a row of 129 booleans. -/
def BoolRow (w : World) (g : Nat) (f : Nat → Bool) : Prop :=
  ∃ cur T, w.heap[g]? = some (.cells cur T (0, 0)) ∧ cur.size = 129 ∧ ∀ i, i < 129 → cur[i]? = some (.bool (f i))
theorem BoolRow.lt {w : World} {g : Nat} {f : Nat → Bool} (h : BoolRow w g f) : g < w.heap.size := by
  obtain ⟨cur, T, h, _⟩ := h; exact (Array.getElem?_eq_some_iff.1 h).1
theorem BoolRow.cell {w : World} {g : Nat} {f : Nat → Bool} (h : BoolRow w g f) {i : Nat} (hi : i < 129) : w.cell? ⟨g, i, none⟩ = some (.bool (f i)) ∧ w.frozen? ⟨g, i, none⟩ = false := by
  obtain ⟨cur, T, h, _, hc⟩ := h
  simp [World.cell?, World.frozen?, h, hc i hi]
theorem BoolRow.below {w w' : World} {B g : Nat} {f : Nat → Bool} (h : BoolRow w g f) (hb : Below B w w') (hB : g < B) : BoolRow w' g f := by
  obtain ⟨cur, T, h, r⟩ := h; exact ⟨cur, T, (hb.block g hB).trans h, r⟩
theorem BoolRow.other {w : World} {g : Nat} {f : Nat → Bool} (h : BoolRow w g f) {a : Addr} (ha : g ≠ a.block) (v : Value) : BoolRow (w.setCell a v) g f := by
  obtain ⟨cur, T, h, r⟩ := h; exact ⟨cur, T, (Below.heap_setCell _ _ _ _ ha).trans h, r⟩
theorem BoolRow.alloc {w : World} {g : Nat} {f : Nat → Bool} (h : BoolRow w g f) (o : Obj) : BoolRow (w.alloc o) g f := by
  have := h.lt
  obtain ⟨cur, T, h, r⟩ := h; exact ⟨cur, T, (Below.heap_alloc _ _ _ this).trans h, r⟩
theorem BoolRow.set {w : World} {g : Nat} {f : Nat → Bool} (h : BoolRow w g f) {k : Nat} (hk : k < 129) (v : Bool) :
    BoolRow (w.setCell ⟨g, k, none⟩ (.bool v)) g (fun i => if i = k then v else f i) := by
  obtain ⟨cur, T, h, hs, hc⟩ := h
  refine ⟨cur.setIfInBounds k (.bool v), T, by simp [World.setCell, Array.getElem?_modify, h], by simp [hs], fun i hi => ?_⟩
  rw [Array.getElem?_setIfInBounds]
  by_cases e : k = i
  · subst e; simp [hs, hk]
  · simp [e, Ne.symm e, hc i hi]
theorem BoolRow.congr {w : World} {g : Nat} {f f' : Nat → Bool} (h : BoolRow w g f) (hf : ∀ i, i < 129 → f i = f' i) : BoolRow w g f' := by
  obtain ⟨cur, T, h, hs, hc⟩ := h; exact ⟨cur, T, h, hs, fun i hi => by rw [hc i hi, hf i hi]⟩
/-- The set that a row of booleans makes, up to a number. -/
def setTo (f : Nat → Bool) (k : Nat) : VS := ofP fun v => f v.toNat && decide (v ≤ k)
theorem setTo_zero (f : Nat → Bool) : setTo f 0 = 0 := by
  apply ext_has; intro u h1 h2; rw [setTo, has_ofP, has_zero]; simp; omega
theorem setTo_yes (f : Nat → Bool) (k : Nat) (h : f (k + 1) = true) : withV (setTo f k) ((k : Int) + 1) = setTo f (k + 1) := by
  apply ext_has; intro u h1 h2
  rw [has_withV, setTo, setTo, has_ofP, has_ofP, Bool.eq_iff_iff]
  simp
  constructor
  · rintro (h3 | h3)
    · exact ⟨⟨⟨h3.1.1.1, by omega⟩, h3.1.2⟩, h3.2⟩
    · refine ⟨⟨⟨?_, by omega⟩, h1⟩, h2⟩
      rw [h3.1.1, show ((k : Int) + 1).toNat = k + 1 by omega]; exact h
  · rintro h3
    by_cases e : u = (k : Int) + 1
    · right; omega
    · left; exact ⟨⟨⟨h3.1.1.1, by omega⟩, h1⟩, h2⟩
theorem setTo_no (f : Nat → Bool) (k : Nat) (h : f (k + 1) = false) : setTo f k = setTo f (k + 1) := by
  apply ext_has; intro u h1 h2
  rw [setTo, setTo, has_ofP, has_ofP, Bool.eq_iff_iff]
  simp
  intro _ _ h3
  constructor
  · intro h4; omega
  · intro h4
    apply Classical.byContradiction
    intro h5
    have : u.toNat = k + 1 := by omega
    rw [this, h] at h3; cases h3
/-- The set that a row of booleans makes. -/
def setOf (f : Nat → Bool) : VS := setTo f 128
theorem has_setOf (f : Nat → Bool) (u : Int) : has (setOf f) u = (f u.toNat && decide (1 ≤ u) && decide (u ≤ 128)) := by
  rw [setOf, setTo, has_ofP, Bool.eq_iff_iff]; simp; omega
end Go.Proofs.YthgkklahiclcpaaDoor
