/- Arguments: trees. -/
import Derived.Test.YtmlecpapoeodkaaDoorSArgs
set_option maxRecDepth 100000
namespace Go.Proofs.YtmlecpapoeodkaaDoor
open Go.ChangeShapes Go.WideShapes Go.ChangeAt Go.WideMaps Go.WideElems Go.RowKit Go.Joins Go.Deep

theorem sets_of {H : Type} {enc : TypeId × Value → H} {W : World} {base fuel : Nat} {sp : Nat → Bool} {held : Bool} {u : Value} {x : DataW H × List MemPlace}
    (hf : DataW.trod enc Tryd.prog W base sp held fuel 22 [u] = some x) : ∃ L : List VS, SetsAt W u L ∧ L.length ≤ 9223372036854775807 := by
  rcases open_slice Tryd.underlying22 hf with ⟨hcs, _⟩ | ⟨a, len, cap, m, n, D, Pl, hcs, _, hl, hm, hmm, _, hi⟩
  · obtain rfl : u = .slice none 0 0 := by simpa using hcs
    exact ⟨[], ⟨none, 0, rfl, .inl rfl⟩, by simp⟩
  · obtain rfl : u = .slice (some a) len cap := by simpa using hcs
    have hlm : len ≤ m := by rw [hmm]; split <;> omega
    have key : ∀ i, i < len → ∃ s : VS, W.cell? (a.add (i * 2)) = some (.int .u64 ((lw s).toNat : Int)) ∧ W.cell? (a.add (i * 2 + 1)) = some (.int .u64 ((hw s).toNat : Int)) := by
      intro i hi'
      obtain ⟨cs', hc, ht⟩ := hi i (by omega)
      rw [cells_set] at hc
      obtain ⟨_, hcl, hat⟩ := World.cells?_some hc
      obtain ⟨s, rfl⟩ := set_words ht hcl
      have h0 := hat 0 (by decide)
      have h1 := hat 1 (by decide)
      rw [Go.Deep.add_add] at h0 h1
      exact ⟨s, by simpa using h0, by simpa using h1⟩
    obtain ⟨L, hL, hP⟩ := exists_list len key
    refine ⟨L, ⟨some a, cap, by rw [hL], ?_⟩, by rw [hL]; unfold maxLen at hm; omega⟩
    by_cases h0 : L = []
    · exact .inl h0
    · right
      have hpos : 0 < L.length := List.length_pos_iff.2 h0
      obtain ⟨b, off, rfl⟩ := addr_plain (show W.cell? (a.add 0) = _ from (hP 0 hpos).1)
      refine ⟨b, off, rfl, fun i hi => ?_⟩
      obtain ⟨q0, q1⟩ := hP i hi
      rw [Addr.add_lit] at q0 q1
      exact ⟨q0, by rw [Nat.add_assoc]; exact q1⟩
theorem ints_of {H : Type} {enc : TypeId × Value → H} {W : World} {base fuel : Nat} {sp : Nat → Bool} {held : Bool} {u : Value} {x : DataW H × List MemPlace}
    (hf : DataW.trod enc Tryd.prog W base sp held fuel 23 [u] = some x) : ∃ l : List Int, IntsAt W u l ∧ l.length ≤ 9223372036854775807 := by
  rcases open_ints Tryd.underlying23 Tryd.underlying3 (by kernel_rfl) hf with ⟨hcs, _⟩ | ⟨x, len, cap, zs, hcs, _, hl, hm, hz, _, hcell, _⟩
  · obtain rfl : u = .slice none 0 0 := by simpa using hcs
    exact ⟨[], ⟨none, 0, rfl, .inl rfl⟩, by simp⟩
  · obtain rfl : u = .slice (some x) len cap := by simpa using hcs
    have hlz : len ≤ zs.length := by rw [hz]; split <;> omega
    have hbl : (zs.take len).length = len := by simp; omega
    refine ⟨zs.take len, ⟨some x, cap, by rw [hbl], ?_⟩, by rw [hbl]; unfold maxLen at hm; omega⟩
    by_cases h0 : zs.take len = []
    · exact .inl h0
    · right
      have hpos : 0 < len := by rw [← hbl]; exact List.length_pos_iff.2 h0
      obtain ⟨b, off, rfl⟩ := addr_plain (hcell 0 (by omega))
      refine ⟨b, off, rfl, fun i hi => ?_⟩
      rw [hbl] at hi
      have h1 := hcell i (by omega)
      rw [Addr.add_lit] at h1
      rw [h1, List.getElem?_take, if_pos hi, List.getElem?_eq_getElem (by omega), Option.getD_some, List.getD_eq_getElem?_getD, List.getElem?_eq_getElem (by omega), Option.getD_some]
/-- A tree that came in. -/
theorem open_tree {H : Type} {enc : TypeId × Value → H} {W : World} {b0 base : Nat} {r : Reach} {sp : Nat → Bool} {held : Bool} {v : Value} {d : DataW H} {ps : List MemPlace}
    (hv : Value.okWide Tryd.prog W r b0 33 v) (hd : DataW.Trod enc Tryd.prog W base sp held 33 v d ps) :
    ∃ (x y : Value) (B : List VS) (U : List Int), v = .agg #[x, y] ∧ SetsAt W x B ∧ IntsAt W y U ∧ B.length ≤ 9223372036854775807 ∧ U.length ≤ 9223372036854775807 := by
  obtain ⟨v0, v1, y0, y1, m, rfl, _, _, h0, h1⟩ := open_agg2 Tryd.underlying33 (by kernel_rfl) (by kernel_rfl) hv hd
  obtain ⟨B, hB, lB⟩ := sets_of h0
  obtain ⟨U, hU, lU⟩ := ints_of h1
  exact ⟨v0, v1, B, U, rfl, hB, hU, lB, lU⟩
theorem cU8 : Tryd.prog.cellsOf 5 = 1 := by kernel_rfl
/-- Two small numbers that came in. -/
theorem open_z {H : Type} {enc : TypeId × Value → H} {W : World} {b0 base : Nat} {r : Reach} {sp : Nat → Bool} {held : Bool} {v : Value} {d : DataW H} {ps : List MemPlace}
    (hv : Value.okWide Tryd.prog W r b0 58 v) (hd : DataW.Trod enc Tryd.prog W base sp held 58 v d ps) : ∃ a b : Int, v = .agg #[.int .u8 a, .int .u8 b] ∧ (0 ≤ a ∧ a ≤ 255) ∧ (0 ≤ b ∧ b ≤ 255) := by
  simp only [Value.okWide, Tryd.underlying58] at hv
  obtain ⟨cs, rfl, hcs, _⟩ := hv
  obtain ⟨fuel, hf⟩ := hd
  obtain ⟨xs, m, rfl, hx, hlen, hn, hel⟩ := DataW.trod_array Tryd.underlying58 hf
  have h0 := hel 0 (by decide)
  have h1 := hel 1 (by decide)
  obtain ⟨x0, x1, rfl⟩ : ∃ x0 x1, xs = [x0, x1] := by
    match xs, hn with
    | [x0, x1], _ => exact ⟨x0, x1, rfl⟩
  rw [cU8] at h0 h1
  obtain ⟨a, ea, _, wa⟩ := DataW.trod_int Tryd.underlying5 (show DataW.trod _ _ _ _ _ _ _ _ _ = some x0 from h0)
  obtain ⟨b, eb, _, wb⟩ := DataW.trod_int Tryd.underlying5 (show DataW.trod _ _ _ _ _ _ _ _ _ = some x1 from h1)
  have hsz : cs.size = 2 := hcs.trans (by kernel_rfl)
  obtain ⟨l⟩ := cs
  obtain ⟨c0, c1, rfl⟩ : ∃ c0 c1, l = [c0, c1] := by
    match l, hsz with
    | [c0, c1], _ => exact ⟨c0, c1, rfl⟩
  simp [Value.cells] at ea eb
  subst ea eb
  have ba := bounds_u8 wa
  have bb := bounds_u8 wb
  exact ⟨a, b, rfl, by omega, by omega⟩
end Go.Proofs.YtmlecpapoeodkaaDoor
