/- Arguments: slices of bytes. -/
import Derived.Test.YthgkklahiclcpaaDoorSArgs
import Derived.Test.YthgkklahiclcpaaDoorSShuf
namespace Go.Proofs.YthgkklahiclcpaaDoor
open Go.ChangeShapes Go.WideShapes Go.ChangeAt Go.WideMaps Go.WideElems Go.RowKit Go.Joins Go.Deep

/-- Bytes that came in. -/
theorem open_u8s {H : Type} {enc : TypeId × Value → H} {W : World} {b0 base : Nat} {r : Reach} {sp : Nat → Bool} {held : Bool} {v : Value} {d : DataW H} {ps : List MemPlace}
    (hv : Value.okWide Tryd.prog W r b0 32 v) (hd : DataW.Trod enc Tryd.prog W base sp held 32 v d ps) : ∃ l : List Int, U8sAt W v l ∧ l.length ≤ 9223372036854775807 := by
  obtain ⟨a0, len, cap, rfl⟩ := okWide_slice Tryd.underlying32 hv
  obtain ⟨fuel, hf⟩ := hd
  rcases open_ints Tryd.underlying32 Tryd.underlying5 (by kernel_rfl) hf with ⟨hcs, _⟩ | ⟨x, l, c, zs, hcs, _, hl, hm, hz, _, hcell, hwz⟩
  · simp [Value.cells] at hcs
    obtain ⟨rfl, rfl, rfl⟩ := hcs
    exact ⟨[], ⟨⟨none, 0, rfl, .inl rfl⟩, fun x hx => by cases hx⟩, by decide⟩
  · simp [Value.cells] at hcs
    obtain ⟨rfl, rfl, rfl⟩ := hcs
    have hlz : len ≤ zs.length := by rw [hz]; split <;> omega
    have hbl : (zs.take len).length = len := by simp; omega
    refine ⟨zs.take len, ⟨⟨some x, cap, by rw [hbl], ?_⟩, fun y hy => bounds_u8 (hwz y (List.mem_of_mem_take hy))⟩, by rw [hbl]; unfold maxLen at hm; omega⟩
    by_cases h0 : zs.take len = []
    · exact .inl h0
    · right
      have hpos : 0 < len := by rw [← hbl]; exact List.length_pos_iff.2 h0
      obtain ⟨b, off, rfl⟩ := addr_plain (hcell 0 (by omega))
      refine ⟨b, off, rfl, fun i hi => ?_⟩
      rw [hbl] at hi
      have h1 := hcell i (by omega)
      rw [Addr.add_lit] at h1
      rw [h1, List.getElem?_take, if_pos hi, List.getElem?_eq_getElem (by omega), Option.getD_some, List.getD_eq_getElem?_getD, List.getElem?_eq_getElem (by omega), Option.getD_some]
end Go.Proofs.YthgkklahiclcpaaDoor
