/- Plain mathematics of nets: nodes, which nets are valid. -/
import Derived.RowKit
namespace Go.Proofs.YtpdbfbjfodckgaaDoor

/-- A node: its kind, its literal, its inputs. -/
structure NodeT where
  kind : Int
  lit : Int
  ins : List Int
  deriving DecidableEq
structure NetT where
  n : Int
  l : List NodeT
  deriving DecidableEq
/-- The variable of a literal, or 0. -/
def litVar (l : Int) : Int := if 1 ≤ l ∧ l ≤ 128 then l else if l ≤ -1 ∧ -128 ≤ l then -l else 0
theorem litVar_range (l : Int) : 0 ≤ litVar l ∧ litVar l ≤ 128 := by unfold litVar; split <;> (try split) <;> omega
def litValid (l n : Int) : Bool := decide (litVar l ≠ 0) && decide (litVar l ≤ n)
/-- Some input is not an earlier node. -/
def badIn (l : List Int) (before : Int) : Bool := l.any fun i => decide (i < 0) || decide (before ≤ i)
def formed (x : NodeT) (n before : Int) : Bool :=
  if badIn x.ins before then false
  else if x.kind = 0 ∨ x.kind = 1 then decide (x.lit = 0) && decide (x.ins = [])
  else if x.kind = 2 then litValid x.lit n && decide (x.ins = [])
  else if x.kind = 3 ∨ x.kind = 4 then decide (x.lit = 0)
  else false
def formedTo (n : Int) (l : List NodeT) (k : Nat) : Prop := ∀ i (h : i < l.length), i < k → formed l[i] n i = true
def validNet (x : NetT) : Bool :=
  decide (0 ≤ x.n) && decide (x.n ≤ 128) && decide (1 ≤ x.l.length) && decide (x.l.length ≤ 65536) && (List.range x.l.length).all fun i => formed (x.l.getD i ⟨0, 0, []⟩) x.n i
theorem validNet_iff (x : NetT) : validNet x = true ↔ (0 ≤ x.n ∧ x.n ≤ 128 ∧ 1 ≤ x.l.length ∧ x.l.length ≤ 65536) ∧ formedTo x.n x.l x.l.length := by
  unfold validNet formedTo
  simp only [Bool.and_eq_true, decide_eq_true_eq, List.all_eq_true, List.mem_range]
  constructor
  · rintro ⟨⟨⟨⟨h1, h2⟩, h3⟩, h4⟩, h5⟩
    refine ⟨⟨h1, h2, h3, h4⟩, fun i h _ => ?_⟩
    have := h5 i h
    rw [List.getD_eq_getElem?_getD, List.getElem?_eq_getElem h] at this
    exact this
  · rintro ⟨⟨h1, h2, h3, h4⟩, h5⟩
    refine ⟨⟨⟨⟨h1, h2⟩, h3⟩, h4⟩, fun i h => ?_⟩
    rw [List.getD_eq_getElem?_getD, List.getElem?_eq_getElem h]
    exact h5 i h h
end Go.Proofs.YtpdbfbjfodckgaaDoor
