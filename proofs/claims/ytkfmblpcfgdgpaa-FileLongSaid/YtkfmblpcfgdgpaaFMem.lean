/- Words for memory: slices of bytes. -/
import Derived.Test.YtkfmblpcfgdgpaaIMem
import Derived.Test.YtkfmblpcfgdgpaaFPlain
namespace Go.Proofs.Ytkfmblpcfgdgpaa
open Go.RowKit

abbrev encB (c : UInt8) : Value := .int .u8 (c.toNat : Int)
/-- The slice value v reads as the bytes l. -/
def BytesAt (w : World) (v : Value) (l : List UInt8) : Prop :=
  ∃ p c, v = .slice p l.length c ∧ (l = [] ∨ ∃ b off, p = some ⟨b, off, none⟩ ∧ ∀ i (h : i < l.length), w.cell? ⟨b, off + i, none⟩ = some (encB l[i]))
theorem BytesAt.below {w w' : World} {v : Value} {l : List UInt8} (h : BytesAt w v l) (hb : Below w.heap.size w w') : BytesAt w' v l := by
  obtain ⟨p, c, rfl, h⟩ := h
  refine ⟨p, c, rfl, ?_⟩
  rcases h with h | ⟨b, off, rfl, h⟩
  · exact .inl h
  · refine .inr ⟨b, off, rfl, fun i hi => ?_⟩
    rw [hb.cell (cell_lt (h i hi))]
    exact h i hi
end Go.Proofs.Ytkfmblpcfgdgpaa
