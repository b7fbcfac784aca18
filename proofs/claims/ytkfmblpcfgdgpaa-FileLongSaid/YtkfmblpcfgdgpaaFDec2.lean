/- Words for memory: nodes that a call owns. Plain: what is read behind some nodes. -/
import Derived.Test.YtkfmblpcfgdgpaaFDec
namespace Go.Proofs.Ytkfmblpcfgdgpaa
open Go.RowKit

def nodeCells : List NodeT → List Value → List Value
  | x :: L, v :: vs => .int .i64 x.kind :: .int .i64 x.lit :: v :: nodeCells L vs
  | _, _ => []
theorem nodeCells_snoc (x : NodeT) (u : Value) : ∀ (L : List NodeT) (vs : List Value), vs.length = L.length → nodeCells (L ++ [x]) (vs ++ [u]) = nodeCells L vs ++ [.int .i64 x.kind, .int .i64 x.lit, u]
  | [], [], _ => rfl
  | y :: L, v :: vs, h => by
    simp only [List.cons_append, nodeCells]
    rw [nodeCells_snoc x u L vs (by simpa using h)]
  | [], _ :: _, h => by simp at h
  | _ :: _, [], h => by simp at h
theorem nodeCells_get : ∀ (L : List NodeT) (vs : List Value) (i : Nat) (h : i < L.length) (u : Value), vs[i]? = some u →
    (nodeCells L vs)[i * 3]? = some (.int .i64 L[i].kind) ∧ (nodeCells L vs)[i * 3 + 1]? = some (.int .i64 L[i].lit) ∧ (nodeCells L vs)[i * 3 + 2]? = some u
  | y :: L, v :: vs, 0, h, u, e => by
    simp only [List.getElem?_cons_zero, Option.some.injEq] at e
    subst e
    exact ⟨rfl, rfl, rfl⟩
  | y :: L, v :: vs, i + 1, h, u, e => by
    have := nodeCells_get L vs i (by simpa using h) u (by simpa using e)
    rw [show (i + 1) * 3 = i * 3 + 1 + 1 + 1 by omega]
    simpa [nodeCells] using this
  | y :: L, [], i, h, u, e => by simp at e
  | [], vs, i, h, u, e => by simp at h
theorem nodeCells_length : ∀ (L : List NodeT) (vs : List Value), vs.length = L.length → (nodeCells L vs).length = L.length * 3
  | [], [], _ => rfl
  | y :: L, v :: vs, h => by
    have := nodeCells_length L vs (by simpa using h)
    simp only [nodeCells, List.length_cons, this]; omega
  | [], _ :: _, h => by simp at h
  | _ :: _, [], h => by simp at h
/-- The slice value v is nodes of the call's own; their inputs are the slices vs. -/
structure OwnNodes (w : World) (base : Nat) (v : Value) (L : List NodeT) (vs : List Value) : Prop where
  row : w.ownsRow base 46 3 v L.length (nodeCells L vs)
  len : vs.length = L.length
  ins : ∀ i (h : i < L.length), ∃ u, vs[i]? = some u ∧ OwnInts w base u L[i].ins ∧ L[i].ins.length ≤ 16777216
theorem own_nodes_nil (w : World) (base : Nat) : OwnNodes w base (.slice none 0 0) [] [] := ⟨⟨rfl, .inl ⟨rfl, rfl⟩⟩, rfl, fun i h => by simp at h⟩
theorem own_far {w : World} {base : Nat} {e : TypeId} {size : Nat} {v : Value} {n : Nat} {xs : List Value} (h : w.ownsRow base e size v n xs) {row : Option Nat} (hr : ∀ k, row = some k → k < base) : v.ownBlock = none ∨ v.ownBlock ≠ row := by
  cases hv : v.ownBlock with
  | none => exact .inl rfl
  | some k =>
    refine .inr fun e' => ?_
    have h1 := (h.lt k hv).1
    have h2 := hr k e'.symm
    omega
theorem OwnNodes.low {w w' : World} {base : Nat} {v : Value} {L : List NodeT} {vs : List Value} {row : Option Nat} (h : OwnNodes w base v L vs) (hg : w.grownBy w' row) (hr : ∀ k, row = some k → k < base) : OwnNodes w' base v L vs :=
  ⟨h.row.kept hg (own_far h.row hr), h.len, fun i hi => by
    obtain ⟨u, h1, h2, h3⟩ := h.ins i hi
    exact ⟨u, h1, World.ownsRow.kept h2 hg (own_far h2 hr), h3⟩⟩
theorem OwnNodes.below {w w' : World} {base : Nat} {v : Value} {L : List NodeT} {vs : List Value} (h : OwnNodes w base v L vs) (hb : Below w.heap.size w w') : OwnNodes w' base v L vs :=
  h.low (grownBy_of_below hb none) (by simp)
theorem OwnNodes.mono {w : World} {base base' : Nat} {v : Value} {L : List NodeT} {vs : List Value} (h : OwnNodes w base v L vs) (hb : base' ≤ base) : OwnNodes w base' v L vs :=
  ⟨ownsRow_base h.row hb, h.len, fun i hi => by
    obtain ⟨u, h1, h2, h3⟩ := h.ins i hi
    exact ⟨u, h1, ownsRow_base h2 hb, h3⟩⟩
theorem OwnNodes.nodes {w : World} {base : Nat} {v : Value} {L : List NodeT} {vs : List Value} (h : OwnNodes w base v L vs) : NodesAt w v L := by
  rcases h.row.2 with ⟨rfl, h0⟩ | ⟨g, cap, cur, rfl, _, hg, hn, _, hs, ht⟩
  · have : L = [] := by simpa using h0
    subst this; exact ⟨none, 0, rfl, .inl rfl⟩
  · refine ⟨_, _, rfl, .inr ⟨g, 0, rfl, fun i hi => ?_⟩⟩
    obtain ⟨u, h1, h2, h3⟩ := h.ins i hi
    obtain ⟨e0, e1, e2⟩ := nodeCells_get L vs i hi u h1
    have key : ∀ j y, j < L.length * 3 → (nodeCells L vs)[j]? = some y → w.cell? ⟨g, j, none⟩ = some y := fun j y hj e => by
      rw [← ht, List.getElem?_take, if_pos hj] at e
      simp only [World.cell?, hg]
      rw [← Array.getElem?_toList]; exact e
    refine ⟨u, ⟨?_, ?_, ?_, OwnInts.ints h2, by omega⟩⟩
    · rw [Nat.zero_add]; exact key _ _ (by omega) e0
    · rw [Nat.zero_add]; exact key _ _ (by omega) e1
    · rw [Nat.zero_add]; exact key _ _ (by omega) e2
theorem own_ne_own {w : World} {base base' : Nat} {e e' : TypeId} {size size' : Nat} {v v' : Value} {n n' : Nat} {xs xs' : List Value} (h : w.ownsRow base e size v n xs) (h' : w.ownsRow base' e' size' v' n' xs') (ht : e ≠ e') : v.ownBlock = none ∨ v.ownBlock ≠ v'.ownBlock := by
  rcases h'.2 with ⟨rfl, _⟩ | ⟨g, cap, cur, rfl, _, hg, _⟩
  · cases hv : v.ownBlock with
    | none => exact .inl rfl
    | some k => exact .inr (by simp [Value.ownBlock])
  · exact .inr (own_ne_box h hg (fun e2 => ht e2.symm))
/-- A node more. -/
theorem OwnNodes.snoc {w w' : World} {base : Nat} {v v' : Value} {L : List NodeT} {vs : List Value} {x : NodeT} {u : Value} (h : OwnNodes w base v L vs) (hu : OwnInts w base u x.ins) (hx : x.ins.length ≤ 16777216)
    (hr : w'.ownsRow base 46 3 v' (L.length + 1) (nodeCells L vs ++ [.int .i64 x.kind, .int .i64 x.lit, u])) (hg : w.grownBy w' v.ownBlock) : OwnNodes w' base v' (L ++ [x]) (vs ++ [u]) := by
  refine ⟨by rw [nodeCells_snoc x u L vs h.len, List.length_append]; exact hr, by simp [h.len], fun i hi => ?_⟩
  by_cases hl : i < L.length
  · obtain ⟨y, h1, h2, h3⟩ := h.ins i hl
    refine ⟨y, ?_, ?_, ?_⟩
    · rw [List.getElem?_append_left (by rw [h.len]; exact hl)]; exact h1
    · rw [List.getElem_append_left hl]
      exact World.ownsRow.kept h2 hg (own_ne_own h2 h.row (by decide))
    · rw [List.getElem_append_left hl]; exact h3
  · have hie : i = L.length := by simp at hi; omega
    subst hie
    refine ⟨u, ?_, ?_, ?_⟩
    · rw [← h.len]; simp
    · simp only [List.getElem_concat_length]
      exact World.ownsRow.kept hu hg (own_ne_own hu h.row (by decide))
    · simp only [List.getElem_concat_length]; exact hx
/-! ### plain -/
def prepN (L : List NodeT) : Option (List NodeT × List UInt8) → Option (List NodeT × List UInt8)
  | none => none
  | some (l, r) => some (L ++ l, r)
theorem rdNodes_next {i m : Nat} {b r : List UInt8} {x : NodeT} (h : rdNode i b = some (x, r)) (L : List NodeT) : prepN L (rdNodes i (m + 1) b) = prepN (L ++ [x]) (rdNodes (i + 1) m r) := by
  rw [rdNodes, h]
  simp only []
  cases rdNodes (i + 1) m r with
  | none => rfl
  | some q => obtain ⟨l, r2⟩ := q; simp [prepN]
theorem rdNodes_stop {i m : Nat} {b : List UInt8} (h : rdNode i b = none) (L : List NodeT) : prepN L (rdNodes i (m + 1) b) = none := by
  rw [rdNodes, h]; rfl
theorem bodyRes_none {body b1 : List UInt8} {n : Nat} (h1 : rd 128 0 0 (body.drop 4) = some (n, b1)) (h2 : rd 65536 0 0 b1 = none) : bodyRes body = none := by
  unfold bodyRes rdNet; rw [h1]; simp only []; rw [h2]
theorem bodyRes_none0 {body : List UInt8} (h1 : rd 128 0 0 (body.drop 4) = none) : bodyRes body = none := by
  unfold bodyRes rdNet; rw [h1]
theorem bodyRes_nodes {body b1 b2 : List UInt8} {n m : Nat} (h1 : rd 128 0 0 (body.drop 4) = some (n, b1)) (h2 : rd 65536 0 0 b1 = some (m, b2)) :
    bodyRes body = match rdNodes 0 m b2 with
      | some (l, []) => if validNet ⟨(n : Int), l⟩ = true then some ⟨(n : Int), l⟩ else none
      | _ => none := by
  unfold bodyRes rdNet; rw [h1]; simp only []; rw [h2]; simp only []
  cases rdNodes 0 m b2 with
  | none => rfl
  | some q => obtain ⟨l, r⟩ := q; cases r <;> rfl
theorem seal_iff {b : List UInt8} (_h : 4 ≤ b.length) : sealOf (b.take (b.length - 4)) = b ↔ b.drop (b.length - 4) = le32 (crc (b.take (b.length - 4))) := by
  unfold sealOf
  constructor
  · intro e
    have := congrArg (List.drop (b.length - 4)) e
    rw [List.drop_left' (by simp)] at this
    exact this.symm
  · intro e
    rw [← e, List.take_append_drop]
theorem dec_begins {b : List UInt8} {n : Int} (h : beginsNo b = n) (hn : n ≠ 0) : decNo b = n ∧ decNet b = noNet := by
  have : decNo b = n := by unfold decNo; rw [h, if_pos hn]
  exact ⟨this, dec_bad (by rw [this]; exact hn)⟩
theorem dec_sum {b : List UInt8} (h : beginsNo b = 0) (hs : sealOf (b.take (b.length - 4)) ≠ b) : decNo b = 430 ∧ decNet b = noNet := by
  have : decNo b = 430 := by unfold decNo; rw [h, if_neg (by simp), if_pos hs]
  exact ⟨this, dec_bad (by rw [this]; simp)⟩
theorem dec_form {b : List UInt8} (h : beginsNo b = 0) (hs : sealOf (b.take (b.length - 4)) = b) (hr : bodyRes (b.take (b.length - 4)) = none) : decNo b = 5 ∧ decNet b = noNet := by
  have : decNo b = 5 := by unfold decNo; rw [h, if_neg (by simp), if_neg (by simp [hs]), hr]
  exact ⟨this, dec_bad (by rw [this]; simp)⟩
theorem dec_good {b : List UInt8} {x : NetT} (h : beginsNo b = 0) (hs : sealOf (b.take (b.length - 4)) = b) (hr : bodyRes (b.take (b.length - 4)) = some x) : decNo b = 0 ∧ decNet b = x := by
  have : decNo b = 0 := by unfold decNo; rw [h, if_neg (by simp), if_neg (by simp [hs]), hr]
  refine ⟨this, ?_⟩
  unfold decNet; rw [if_pos this, hr]; rfl
end Go.Proofs.Ytkfmblpcfgdgpaa
