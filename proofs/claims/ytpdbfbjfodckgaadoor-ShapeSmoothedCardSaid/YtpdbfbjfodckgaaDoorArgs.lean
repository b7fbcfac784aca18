/- A slice of numbers among the arguments. -/
import Derived.Test.YtpdbfbjfodckgaaDoorFrame
import Derived.Test.YtpdbfbjfodckgaaDoorVWalk7
set_option maxRecDepth 100000
namespace Go.Proofs.YtpdbfbjfodckgaaDoor
open Go.ChangeShapes Go.WideShapes Go.ChangeAt Go.WideMaps Go.WideElems Go.RowKit

/-- The argument v reads as the numbers l. -/
def ArgInts (w : World) (v : Value) (l : List Int) : Prop :=
  (v = .slice none 0 0 ∧ l = []) ∨ ∃ a c, v = .slice (some a) l.length c ∧ (∀ i, i < l.length → w.cell? (a.add i) = some (.int .i64 (l[i]?.getD 0))) ∧ l.length ≤ maxLen
theorem ArgInts.ints {w : World} {v : Value} {l : List Int} (h : ArgInts w v l) : IntsAt w v l := by
  rcases h with ⟨rfl, rfl⟩ | ⟨a, c, rfl, hc, _⟩
  · exact ⟨none, 0, rfl, .inl rfl⟩
  · refine ⟨some a, c, rfl, ?_⟩
    by_cases hl : l = []
    · exact .inl hl
    · right
      have h0 := hc 0 (List.length_pos_iff.2 hl)
      obtain ⟨b, off, spot⟩ := a
      have hs : spot = none := by simpa [Addr.add] using World.cell?_spot h0
      subst hs
      refine ⟨b, off, rfl, fun i hi => ?_⟩
      have h1 := hc i hi
      have e : (⟨b, off, none⟩ : Addr).add i = ⟨b, off + i, none⟩ := by unfold Addr.add; split <;> simp_all
      rw [e] at h1; exact h1
theorem open_list {H : Type} {enc : TypeId × Value → H} {W : World} {b0 base : Nat} {r : Reach} {sp : Nat → Bool} {held : Bool} {v : Value} {d : DataW H} {ps : List MemPlace}
    (hv : Value.okWide Tryd.prog W r b0 33 v) (hd : DataW.Trod enc Tryd.prog W base sp held 33 v d ps) : ∃ l : List Int, ArgInts W v l ∧ ∀ n ∈ l, -9223372036854775808 ≤ n ∧ n ≤ 9223372036854775807 := by
  obtain ⟨a0, len, cap, rfl⟩ := okWide_slice Tryd.underlying33 hv
  obtain ⟨fuel, hf⟩ := hd
  rcases open_ints Tryd.underlying33 Tryd.underlying3 (by kernel_rfl) hf with ⟨hcs, _⟩ | ⟨x, l, c, zs, hcs, _, hl, hm, hz, _, hcell, hwz⟩
  · simp [Value.cells] at hcs
    obtain ⟨rfl, rfl, rfl⟩ := hcs
    exact ⟨[], .inl ⟨rfl, rfl⟩, by simp⟩
  · simp [Value.cells] at hcs
    obtain ⟨rfl, rfl, rfl⟩ := hcs
    have hlz : len ≤ zs.length := by rw [hz]; split <;> omega
    have hlen : (zs.take len).length = len := by simp; omega
    refine ⟨zs.take len, .inr ⟨x, cap, by rw [hlen], fun i hi => ?_, by omega⟩, fun n hn => bounds_i64 (hwz n (List.mem_of_mem_take hn))⟩
    rw [hlen] at hi
    have := hcell i (by omega)
    rw [this]
    simp [List.getD_eq_getElem?_getD, hi]
theorem ArgInts.below {w w' : World} {v : Value} {l : List Int} (h : ArgInts w v l) (hb : Below w.heap.size w w') : ArgInts w' v l := by
  rcases h with h | ⟨a, c, rfl, hc, hm⟩
  · exact .inl h
  · refine .inr ⟨a, c, rfl, fun i hi => ?_, hm⟩
    have h1 := hc i hi
    rw [hb.cell (cell_lt h1)]; exact h1
end Go.Proofs.YtpdbfbjfodckgaaDoor
