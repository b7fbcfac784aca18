/- Words for memory: nodes that a call owns; the maker of a smooth form in its variable; what its functions leave as it was. -/
import Derived.Test.YtpdbfbjfodckgaaDoorHMem
import Derived.Test.YtpdbfbjfodckgaaDoorHSmP
import Derived.Maps.OwnIn
import Derived.Maps.Own
namespace Go.Proofs.YtpdbfbjfodckgaaDoor
open Go.RowKit Go.Maps

def nodeCells : List NodeT → List Value → List Value
  | x :: L, v :: vs => .int .i64 x.kind :: .int .i64 x.lit :: v :: nodeCells L vs
  | _, _ => []
theorem nodeCells_snoc (x : NodeT) (u : Value) : ∀ (L : List NodeT) (vs : List Value), vs.length = L.length → nodeCells (L ++ [x]) (vs ++ [u]) = nodeCells L vs ++ [.int .i64 x.kind, .int .i64 x.lit, u]
  | [], [], _ => rfl
  | y :: L, v :: vs, h => by
    simp only [List.cons_append, nodeCells]
    rw [nodeCells_snoc x u L vs (by simpa using h)]
  | [], _ :: _, h => by simp at h
  | _ :: _, [], h => by simp at h
theorem nodeCells_get : ∀ (L : List NodeT) (vs : List Value) (i : Nat) (h : i < L.length) (u : Value), vs[i]? = some u →
    (nodeCells L vs)[i * 3]? = some (.int .i64 L[i].kind) ∧ (nodeCells L vs)[i * 3 + 1]? = some (.int .i64 L[i].lit) ∧ (nodeCells L vs)[i * 3 + 2]? = some u
  | y :: L, v :: vs, 0, h, u, e => by
    simp only [List.getElem?_cons_zero, Option.some.injEq] at e
    subst e
    exact ⟨rfl, rfl, rfl⟩
  | y :: L, v :: vs, i + 1, h, u, e => by
    have := nodeCells_get L vs i (by simpa using h) u (by simpa using e)
    rw [show (i + 1) * 3 = i * 3 + 1 + 1 + 1 by omega]
    simpa [nodeCells] using this
  | y :: L, [], i, h, u, e => by simp at e
  | [], vs, i, h, u, e => by simp at h
theorem nodeCells_length : ∀ (L : List NodeT) (vs : List Value), vs.length = L.length → (nodeCells L vs).length = L.length * 3
  | [], [], _ => rfl
  | y :: L, v :: vs, h => by
    have := nodeCells_length L vs (by simpa using h)
    simp only [nodeCells, List.length_cons, this]; omega
  | [], _ :: _, h => by simp at h
  | _ :: _, [], h => by simp at h
/-- The slice value v is nodes of the call's own; their inputs are the slices vs. -/
structure OwnNodes (w : World) (base : Nat) (v : Value) (L : List NodeT) (vs : List Value) : Prop where
  row : w.ownsRow base 39 3 v L.length (nodeCells L vs)
  len : vs.length = L.length
  ins : ∀ i (h : i < L.length), ∃ u, vs[i]? = some u ∧ OwnInts w base u L[i].ins ∧ L[i].ins.length ≤ 16777216
theorem OwnNodes.nil (w : World) (base : Nat) : OwnNodes w base (.slice none 0 0) [] [] := ⟨⟨rfl, .inl ⟨rfl, rfl⟩⟩, rfl, fun i h => by simp at h⟩
/-! ### rows that are kept -/
theorem own_same {w w' : World} {base : Nat} {e : TypeId} {size : Nat} {v : Value} {n : Nat} {xs : List Value} (h : w.ownsRow base e size v n xs) (hs : ∀ k, v.ownBlock = some k → w'.heap[k]? = w.heap[k]?) : w'.ownsRow base e size v n xs := by
  obtain ⟨h0, h | ⟨g, cap, cur, rfl, hB', hg, hn, r⟩⟩ := h
  · exact ⟨h0, .inl h⟩
  · exact ⟨h0, .inr ⟨g, cap, cur, rfl, hB', (hs g rfl).trans hg, hn, r⟩⟩
theorem own_lower {w : World} {base base' : Nat} {e : TypeId} {size : Nat} {v : Value} {n : Nat} {xs : List Value} (h : w.ownsRow base e size v n xs) (hb : base' ≤ base) : w.ownsRow base' e size v n xs := by
  obtain ⟨h0, h | ⟨g, cap, cur, rfl, hB', r⟩⟩ := h
  · exact ⟨h0, .inl h⟩
  · exact ⟨h0, .inr ⟨g, cap, cur, rfl, Nat.le_trans hb hB', r⟩⟩
theorem own_ge {w : World} {base : Nat} {e : TypeId} {size : Nat} {v : Value} {n : Nat} {xs : List Value} (h : w.ownsRow base e size v n xs) {k : Nat} (hk : v.ownBlock = some k) : base ≤ k ∧ k < w.heap.size := by
  obtain ⟨_, h | ⟨g, cap, cur, rfl, hB', hg, _⟩⟩ := h
  · rw [h.1] at hk; cases hk
  · cases hk; exact ⟨hB', (Array.getElem?_eq_some_iff.1 hg).1⟩
theorem own_type {w : World} {base : Nat} {e : TypeId} {size : Nat} {v : Value} {n : Nat} {xs : List Value} (h : w.ownsRow base e size v n xs) {k : Nat} (hk : v.ownBlock = some k) : ∃ cs, w.heap[k]? = some (.cells cs e (0, 0)) := by
  obtain ⟨_, h | ⟨g, cap, cur, rfl, hB', hg, _⟩⟩ := h
  · rw [h.1] at hk; cases hk
  · cases hk; exact ⟨_, hg⟩
theorem OwnNodes.same {w w' : World} {base : Nat} {v : Value} {L : List NodeT} {vs : List Value} (h : OwnNodes w base v L vs) (h1 : ∀ k, v.ownBlock = some k → w'.heap[k]? = w.heap[k]?) (h2 : ∀ u ∈ vs, ∀ k, u.ownBlock = some k → w'.heap[k]? = w.heap[k]?) : OwnNodes w' base v L vs :=
  ⟨own_same h.row h1, h.len, fun i hi => by
    obtain ⟨u, e1, e2, e3⟩ := h.ins i hi
    exact ⟨u, e1, own_same e2 (h2 u (List.mem_of_getElem? e1)), e3⟩⟩
theorem OwnNodes.in_lt {w : World} {base : Nat} {v : Value} {L : List NodeT} {vs : List Value} (h : OwnNodes w base v L vs) {u : Value} (hu : u ∈ vs) {k : Nat} (hk : u.ownBlock = some k) : base ≤ k ∧ k < w.heap.size ∧ ∃ cs, w.heap[k]? = some (.cells cs 3 (0, 0)) := by
  obtain ⟨i, hi, rfl⟩ := List.getElem_of_mem hu
  obtain ⟨y, e1, e2, _⟩ := h.ins i (by rw [← h.len]; exact hi)
  rw [List.getElem?_eq_getElem hi] at e1
  injection e1 with e1
  subst e1
  have := own_ge e2 hk
  exact ⟨this.1, this.2, own_type e2 hk⟩
theorem OwnNodes.below {w w' : World} {base : Nat} {v : Value} {L : List NodeT} {vs : List Value} (h : OwnNodes w base v L vs) (hb : Below w.heap.size w w') : OwnNodes w' base v L vs :=
  h.same (fun k hk => hb.block k (own_ge h.row hk).2) (fun _ hu k hk => hb.block k (h.in_lt hu hk).2.1)
theorem OwnNodes.nodes {w : World} {base : Nat} {v : Value} {L : List NodeT} {vs : List Value} (h : OwnNodes w base v L vs) : NodesAt w v L := by
  rcases h.row.2 with ⟨rfl, h0⟩ | ⟨g, cap, cur, rfl, _, hg, hn, _, hs, ht⟩
  · have : L = [] := by simpa using h0
    subst this; exact ⟨none, 0, rfl, .inl rfl⟩
  · refine ⟨_, _, rfl, .inr ⟨g, 0, rfl, fun i hi => ?_⟩⟩
    obtain ⟨u, h1, h2, h3⟩ := h.ins i hi
    obtain ⟨e0, e1, e2⟩ := nodeCells_get L vs i hi u h1
    have key : ∀ j y, j < L.length * 3 → (nodeCells L vs)[j]? = some y → w.cell? ⟨g, j, none⟩ = some y := fun j y hj e => by
      rw [← ht, List.getElem?_take, if_pos hj] at e
      simp only [World.cell?, hg]
      rw [← Array.getElem?_toList]; exact e
    refine ⟨u, ⟨?_, ?_, ?_, OwnInts.ints h2, by omega⟩⟩
    · rw [Nat.zero_add]; exact key _ _ (by omega) e0
    · rw [Nat.zero_add]; exact key _ _ (by omega) e1
    · rw [Nat.zero_add]; exact key _ _ (by omega) e2
/-- A node more. -/
theorem OwnNodes.snoc {w w' : World} {base : Nat} {v v' : Value} {L : List NodeT} {vs : List Value} {x : NodeT} {u : Value} (h : OwnNodes w base v L vs) (hu : OwnInts w base u x.ins) (hx : x.ins.length ≤ 16777216)
    (hr : w'.ownsRow base 39 3 v' (L.length + 1) (nodeCells L vs ++ [.int .i64 x.kind, .int .i64 x.lit, u])) (hk : ∀ (k : Nat) (cs : Array Value), w.heap[k]? = some (Obj.cells cs 3 (0, 0)) → w'.heap[k]? = w.heap[k]?) : OwnNodes w' base v' (L ++ [x]) (vs ++ [u]) := by
  refine ⟨by rw [nodeCells_snoc x u L vs h.len, List.length_append]; exact hr, by simp [h.len], fun i hi => ?_⟩
  have keep : ∀ {y : Value} {l : List Int}, OwnInts w base y l → OwnInts w' base y l := fun {y l} hy => own_same hy fun k e => by
    obtain ⟨cs, hc⟩ := own_type hy e
    exact hk k cs hc
  by_cases hl : i < L.length
  · obtain ⟨y, h1, h2, h3⟩ := h.ins i hl
    refine ⟨y, ?_, ?_, ?_⟩
    · rw [List.getElem?_append_left (by rw [h.len]; exact hl)]; exact h1
    · rw [List.getElem_append_left hl]; exact keep h2
    · rw [List.getElem_append_left hl]; exact h3
  · have hie : i = L.length := by simp at hi; omega
    subst hie
    refine ⟨u, ?_, ?_, ?_⟩
    · rw [← h.len]; simp
    · simp only [List.getElem_concat_length]; exact keep hu
    · simp only [List.getElem_concat_length]; exact hx
theorem OwnInts.cells {w : World} {B : Nat} {v : Value} {l : List Int} (h : OwnInts w B v l) (hne : 0 < l.length) : ∃ g c, v = .slice (some ⟨g, 0, none⟩) l.length c ∧ B ≤ g ∧ g < w.heap.size ∧ ∀ i (hi : i < l.length), w.cell? ⟨g, i, none⟩ = some (.int .i64 l[i]) ∧ w.frozen? ⟨g, i, none⟩ = false := by
  obtain ⟨_, h | ⟨g, cap, cur, rfl, hB, hg, hn, _, hs, ht⟩⟩ := h
  · exact absurd h.2 (by omega)
  · refine ⟨g, cap, rfl, hB, (Array.getElem?_eq_some_iff.1 hg).1, fun i hi => ?_⟩
    have : (l.map (Value.int .i64))[i]? = some (.int .i64 l[i]) := by simp [hi]
    rw [← ht, List.getElem?_take, if_pos (by omega), Array.getElem?_toList] at this
    simp [World.cell?, World.frozen?, hg, this]
theorem OwnInts.store {w : World} {B g n c : Nat} {l : List Int} (h : OwnInts w B (.slice (some ⟨g, 0, none⟩) n c) l) (i : Nat) (_hi : i < l.length) (x : Int) : OwnInts (w.setCell ⟨g, i, none⟩ (.int .i64 x)) B (.slice (some ⟨g, 0, none⟩) n c) (l.set i x) := by
  obtain ⟨h0, h | ⟨g', cap, cur, e, hB, hg, hn, hm, hs, ht⟩⟩ := h
  · exact absurd h.1 (by intro e; cases e)
  · injection e with e1 e2 e3
    injection e1 with e1
    injection e1 with e1 _ _
    subst e1; subst e2; subst e3
    refine ⟨by simp, .inr ⟨g, c, cur.setIfInBounds i (.int .i64 x), by rw [List.length_set], hB, by simp [World.setCell, Array.getElem?_modify, hg], by rw [List.length_set]; exact hn, hm, by simpa using hs, ?_⟩⟩
    rw [List.length_set, Array.toList_setIfInBounds, List.take_set, ht, List.map_set]
/-! ### the maker in its variable -/
def SmBox (w : World) (sb : Nat) (n : Int) (vL vB vOut vAt : Value) (mb : Nat) : Prop := w.heap[sb]? = some (.cells #[.int .i64 n, vL, vB, .int .i64 n, vOut, vAt, .map (some mb)] 57 (0, 0))
theorem SmBox.lt {w : World} {sb mb : Nat} {n : Int} {vL vB vOut vAt : Value} (h : SmBox w sb n vL vB vOut vAt mb) : sb < w.heap.size := (Array.getElem?_eq_some_iff.1 h).1
theorem SmBox.get {w : World} {sb mb : Nat} {n : Int} {vL vB vOut vAt : Value} (h : SmBox w sb n vL vB vOut vAt mb) :
    w.cell? ⟨sb, 0, none⟩ = some (.int .i64 n) ∧ w.cell? ⟨sb, 1, none⟩ = some vL ∧ w.cell? ⟨sb, 2, none⟩ = some vB ∧ w.cell? ⟨sb, 3, none⟩ = some (.int .i64 n) ∧ w.cell? ⟨sb, 4, none⟩ = some vOut ∧ w.cell? ⟨sb, 5, none⟩ = some vAt ∧ w.cell? ⟨sb, 6, none⟩ = some (.map (some mb)) := by
  unfold SmBox at h; simp [World.cell?, h]
theorem SmBox.free {w : World} {sb mb : Nat} {n : Int} {vL vB vOut vAt : Value} (h : SmBox w sb n vL vB vOut vAt mb) (i : Nat) : w.frozen? ⟨sb, i, none⟩ = false := by
  unfold SmBox at h; simp [World.frozen?, h]
theorem SmBox.same {w w' : World} {sb mb : Nat} {n : Int} {vL vB vOut vAt : Value} (h : SmBox w sb n vL vB vOut vAt mb) (e : w'.heap[sb]? = w.heap[sb]?) : SmBox w' sb n vL vB vOut vAt mb := e.trans h
theorem SmBox.out {w : World} {sb mb : Nat} {n : Int} {vL vB vOut vAt : Value} (h : SmBox w sb n vL vB vOut vAt mb) (v : Value) : SmBox (w.setCell ⟨sb, 4, none⟩ v) sb n vL vB v vAt mb := by
  unfold SmBox at *; simp [World.setCell, Array.getElem?_modify, h]
theorem SmBox.at_ {w : World} {sb mb : Nat} {n : Int} {vL vB vOut vAt : Value} (h : SmBox w sb n vL vB vOut vAt mb) (v : Value) : SmBox (w.setCell ⟨sb, 5, none⟩ v) sb n vL vB vOut v mb := by
  unfold SmBox at *; simp [World.setCell, Array.getElem?_modify, h]
/-- The row of the nodes so far. -/
def rowOf (w : World) (sb : Nat) : Option Nat := match w.cell? ⟨sb, 4, none⟩ with | some v => v.ownBlock | none => none
theorem SmBox.row {w : World} {sb mb : Nat} {n : Int} {vL vB vOut vAt : Value} (h : SmBox w sb n vL vB vOut vAt mb) : rowOf w sb = vOut.ownBlock := by
  unfold rowOf; rw [h.get.2.2.2.2.1]
/-- What the maker's functions leave as it was: all but its variable, its map, and the row of the nodes. -/
structure Fr (sb mb : Nat) (w w' : World) : Prop where
  os : w'.os = w.os
  tape : w'.tape = w.tape
  output : w'.output = w.output
  size : w.heap.size ≤ w'.heap.size
  block : ∀ k, k < w.heap.size → k ≠ sb → k ≠ mb → rowOf w sb ≠ some k → w'.heap[k]? = w.heap[k]?
  row : rowOf w' sb = rowOf w sb ∨ ∃ r, rowOf w' sb = some r ∧ w.heap.size ≤ r
theorem Fr.refl (sb mb : Nat) (w : World) : Fr sb mb w w := ⟨rfl, rfl, rfl, Nat.le_refl _, fun _ _ _ _ _ => rfl, .inl rfl⟩
theorem Fr.trans {sb mb : Nat} {a b c : World} (h : Fr sb mb a b) (k : Fr sb mb b c) : Fr sb mb a c := by
  refine ⟨k.os.trans h.os, k.tape.trans h.tape, k.output.trans h.output, Nat.le_trans h.size k.size, fun i hi h1 h2 h3 => ?_, ?_⟩
  · refine (k.block i (Nat.lt_of_lt_of_le hi h.size) h1 h2 ?_).trans (h.block i hi h1 h2 h3)
    rcases h.row with e | ⟨r, e, hr⟩
    · rw [e]; exact h3
    · rw [e]; intro e2; cases e2; omega
  · rcases k.row with e | ⟨r, e, hr⟩
    · rw [e]; exact h.row
    · exact .inr ⟨r, e, Nat.le_trans h.size hr⟩
theorem Fr.of_below {sb mb : Nat} {w w' : World} (hb : Below w.heap.size w w') (hs : sb < w.heap.size) : Fr sb mb w w' :=
  ⟨hb.os, hb.tape, hb.output, hb.size, fun k hk _ _ _ => hb.block k hk, .inl (by unfold rowOf; rw [World.cell?_of_block (a := ⟨sb, 4, none⟩) (hb.block sb hs)])⟩
theorem Fr.below {sb mb : Nat} {w0 w w' : World} (h : Fr sb mb w w') (hb : Below w0.heap.size w0 w) (hs : w0.heap.size ≤ sb) (hm : w0.heap.size ≤ mb) (hr : ∀ k, rowOf w sb = some k → w0.heap.size ≤ k) : Below w0.heap.size w0 w' :=
  ⟨h.os.trans hb.os, h.tape.trans hb.tape, h.output.trans hb.output, Nat.le_trans hb.size h.size, fun k hk => (h.block k (Nat.lt_of_lt_of_le hk hb.size) (by omega) (by omega) (fun e => by have := hr k e; omega)).trans (hb.block k hk)⟩
theorem Fr.drew {sb mb : Nat} {a b : World} (h : Fr sb mb a b) : Fr sb mb a b.drew := ⟨h.os, h.tape, h.output, h.size, h.block, h.row⟩
/-! ### the choices -/
theorem law_int : Keyed Tryd.prog 3 := int_keyed Tryd.underlying3
theorem zero_int (w : World) : (zeroValue 3).run Tryd.prog w = .ok (.int .i64 0) w := by kernel_rfl
/-- The block mb is a map of at most k entries: the choices ch. -/
def MapAt (w : World) (mb k : Nat) (ch : Int → Option Int) : Prop := ∃ D : DataW Unit, w.ownsMap Tryd.prog 3 (plainElem Tryd.prog 3) mb k D ∧ IsMap D ∧
  ∀ v : Int, Maps.has D (.int .i64 v) = (ch v).isSome ∧ ∀ c, ch v = some c → D.atKey (.int .i64 v) (.lit (.int .i64 0)) = .lit (.int .i64 c)
theorem MapAt.new (w : World) : MapAt (w.alloc (.map #[] 0)) w.heap.size 0 (fun _ => none) :=
  ⟨.map [], World.ownsMap_made _ _ _ _, isMap_empty, fun v => ⟨rfl, fun c h => by cases h⟩⟩
theorem MapAt.same {w w' : World} {mb k : Nat} {ch : Int → Option Int} (h : MapAt w mb k ch) (e : w'.heap[mb]? = w.heap[mb]?) : MapAt w' mb k ch := by
  obtain ⟨D, ⟨es, clock, hb, r⟩, h2⟩ := h
  exact ⟨D, ⟨es, clock, e.trans hb, r⟩, h2⟩
theorem MapAt.lt {w : World} {mb k : Nat} {ch : Int → Option Int} (h : MapAt w mb k ch) : mb < w.heap.size := by
  obtain ⟨D, h, _⟩ := h; exact h.lt
theorem MapAt.mono {w : World} {mb k k' : Nat} {ch : Int → Option Int} (h : MapAt w mb k ch) (hk : k ≤ k') : MapAt w mb k' ch := by
  obtain ⟨D, h, h2⟩ := h; exact ⟨D, h.mono hk, h2⟩
theorem MapAt.ne_cells {w : World} {mb k : Nat} {ch : Int → Option Int} (h : MapAt w mb k ch) {b : Nat} {cs : Array Value} {T : TypeId} {fr : Nat × Nat} (hb : w.heap[b]? = some (.cells cs T fr)) : b ≠ mb := by
  obtain ⟨D, ⟨es, clock, hm, _⟩, _⟩ := h
  intro e
  subst e
  rw [hb] at hm; cases hm
theorem put_agrees {D : DataW Unit} {ch : Int → Option Int} {v c : Int} (hD : IsMap D) (h : ∀ v : Int, Maps.has D (.int .i64 v) = (ch v).isSome ∧ ∀ c, ch v = some c → D.atKey (.int .i64 v) (.lit (.int .i64 0)) = .lit (.int .i64 c)) :
    ∀ u : Int, Maps.has (D.put (.int .i64 v) (.lit (.int .i64 c))) (.int .i64 u) = ((fun u => if u = v then some c else ch u) u).isSome ∧ ∀ c', (fun u => if u = v then some c else ch u) u = some c' → (D.put (.int .i64 v) (.lit (.int .i64 c))).atKey (.int .i64 u) (.lit (.int .i64 0)) = .lit (.int .i64 c') := by
  intro u
  simp only
  by_cases e : u = v
  · subst e
    rw [if_pos rfl]
    refine ⟨has_put_same hD (show WideAt.IsKeyLit (.int .i64 u) from trivial) _, fun c' hc => ?_⟩
    injection hc with hc
    subst hc
    exact atKey_put_same hD (show WideAt.IsKeyLit (.int .i64 u) from trivial) _ _
  · rw [if_neg e]
    have hne : (Lit.int .i64 u) ≠ (.int .i64 v) := fun e2 => e (by injection e2)
    exact ⟨(has_put_other hne _).trans (h u).1, fun c' hc => (atKey_put_other hne _ _).trans ((h u).2 c' hc)⟩
end Go.Proofs.YtpdbfbjfodckgaaDoor
