/- Arguments: slices of sets. -/
import Derived.Test.YthgkklahiclcpaaDoorArgs
import Derived.Test.YthgkklahiclcpaaDoorSMem
import Derived.Deep.Slices
import Derived.Deep.Fields
import Derived.ChangeSame
import Derived.Lib.SmallJoins
import Derived.ProofKit
set_option maxRecDepth 100000
namespace Go.Proofs.YthgkklahiclcpaaDoor
open Go.ChangeShapes Go.WideShapes Go.ChangeAt Go.WideMaps Go.WideElems Go.RowKit Go.Joins Go.Deep

theorem addr_plain {w : World} {a : Addr} {v : Value} (h : w.cell? (a.add 0) = some v) : ∃ b off, a = ⟨b, off, none⟩ := by
  obtain ⟨b, off, spot⟩ := a
  have hs : spot = none := by simpa [Addr.add] using World.cell?_spot h
  subst hs; exact ⟨b, off, rfl⟩
theorem exists_list {α : Type} {P : Nat → α → Prop} : ∀ (n : Nat), (∀ i, i < n → ∃ x, P i x) → ∃ L : List α, L.length = n ∧ ∀ i (h : i < L.length), P i L[i]
  | 0, _ => ⟨[], rfl, fun i h => by simp at h⟩
  | n + 1, h => by
    obtain ⟨L, hl, hL⟩ := exists_list n (fun i hi => h i (by omega))
    obtain ⟨x, hx⟩ := h n (by omega)
    refine ⟨L ++ [x], by simp [hl], fun i hi => ?_⟩
    by_cases e : i < L.length
    · rw [List.getElem_append_left e]; exact hL i e
    · have : i = L.length := by simp at hi; omega
      subst this
      simp only [List.getElem_concat_length]
      rw [hl]; exact hx
theorem cells_set : Tryd.prog.cellsOf 35 = 2 := by kernel_rfl
/-- The two words of a set that is read. -/
theorem set_words {H : Type} {enc : TypeId × Value → H} {W : World} {base : Nat} {sp : Nat → Bool} {held : Bool} {fuel : Nat} {cs : List Value} {x : DataW H × List MemPlace}
    (hf : DataW.trod enc Tryd.prog W base sp held fuel 35 cs = some x) (hl : cs.length = 2) : ∃ s : VS, cs = [.int .u64 ((lw s).toNat : Int), .int .u64 ((hw s).toNat : Int)] := by
  obtain ⟨xs, m, rfl, hx, hlen, hn, hel⟩ := DataW.trod_array Tryd.underlying35 hf
  have h0 := hel 0 (by decide)
  have h1 := hel 1 (by decide)
  match xs, hn, h0, h1 with
  | [x0, x1], _, h0, h1 =>
    rw [cSet] at h0 h1
    obtain ⟨a, ea, _, wa⟩ := DataW.trod_int Tryd.underlying33 (show DataW.trod _ _ _ _ _ _ _ _ _ = some x0 from h0)
    obtain ⟨b, eb, _, wb⟩ := DataW.trod_int Tryd.underlying33 (show DataW.trod _ _ _ _ _ _ _ _ _ = some x1 from h1)
    match cs, hl, ea, eb with
    | [c0, c1], _, ea, eb =>
      simp at ea eb
      subst ea eb
      have ba := bounds_u64 wa
      have bb := bounds_u64 wb
      have hm := mkS_words (a := a) (b := b) ⟨ba.1, by omega⟩ ⟨bb.1, by omega⟩
      unfold encS at hm
      injection hm with hm
      exact ⟨mkS a b, (by simpa using congrArg Array.toList hm.symm)⟩
/-- A slice of sets that came in. -/
theorem open_sets {H : Type} {enc : TypeId × Value → H} {W : World} {b0 base : Nat} {r : Reach} {sp : Nat → Bool} {held : Bool} {v : Value} {d : DataW H} {ps : List MemPlace}
    (hv : Value.okWide Tryd.prog W r b0 22 v) (hd : DataW.Trod enc Tryd.prog W base sp held 22 v d ps) : ∃ L : List VS, SetsAt W v L ∧ L.length ≤ 9223372036854775807 := by
  obtain ⟨a0, len, cap, rfl⟩ := okWide_slice Tryd.underlying22 hv
  obtain ⟨fuel, hf⟩ := hd
  rcases open_slice Tryd.underlying22 hf with ⟨hcs, _⟩ | ⟨a, l, c, m, n, D, Pl, hcs, _, hl, hm, hmm, _, hi⟩
  · simp [Value.cells] at hcs
    obtain ⟨rfl, rfl, rfl⟩ := hcs
    exact ⟨[], ⟨none, 0, rfl, .inl rfl⟩, by simp⟩
  · simp [Value.cells] at hcs
    obtain ⟨rfl, rfl, rfl⟩ := hcs
    have hlm : len ≤ m := by rw [hmm]; split <;> omega
    have key : ∀ i, i < len → ∃ s : VS, W.cell? (a.add (i * 2)) = some (.int .u64 ((lw s).toNat : Int)) ∧ W.cell? (a.add (i * 2 + 1)) = some (.int .u64 ((hw s).toNat : Int)) := by
      intro i hi'
      obtain ⟨cs', hc, ht⟩ := hi i (by omega)
      rw [cells_set] at hc
      obtain ⟨_, hcl, hat⟩ := World.cells?_some hc
      obtain ⟨s, rfl⟩ := set_words ht hcl
      have h0 := hat 0 (by decide)
      have h1 := hat 1 (by decide)
      rw [Go.Deep.add_add] at h0 h1
      exact ⟨s, by simpa using h0, by simpa using h1⟩
    obtain ⟨L, hL, hP⟩ := exists_list len key
    refine ⟨L, ⟨some a, cap, by rw [hL], ?_⟩, by rw [hL]; unfold maxLen at hm; omega⟩
    by_cases h0 : L = []
    · exact .inl h0
    · right
      have hpos : 0 < L.length := List.length_pos_iff.2 h0
      obtain ⟨b, off, rfl⟩ := addr_plain (show W.cell? (a.add 0) = _ from (hP 0 hpos).1)
      refine ⟨b, off, rfl, fun i hi => ?_⟩
      obtain ⟨q0, q1⟩ := hP i hi
      rw [Addr.add_lit] at q0 q1
      exact ⟨q0, by rw [Nat.add_assoc]; exact q1⟩
theorem ArgInts.len {w : World} {v : Value} {l : List Int} (h : ArgInts w v l) : l.length ≤ 9223372036854775807 := by
  rcases h with ⟨_, rfl⟩ | ⟨a, c, _, _, h⟩
  · simp
  · unfold maxLen at h; omega
end Go.Proofs.YthgkklahiclcpaaDoor
