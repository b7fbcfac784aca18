/- Words for memory: a node is appended to nodes that a call owns; a net in its variable; rows of booleans. -/
import Derived.Test.YtpdbfbjfodckgaaDoorHAdd
import Derived.Test.YtpdbfbjfodckgaaDoorHSepP
namespace Go.Proofs.YtpdbfbjfodckgaaDoor
open Go.RowKit

/-- An append to nodes: all blocks but those of nodes stay as they are. -/
theorem push_keeps {w w' : World} {B : Nat} {v : Value} {out : List NodeT} {vs : List Value} (h : OwnNodes w B v out vs) (hg : w.grownBy w' v.ownBlock) {j : Nat} {o : Obj} (hj : w.heap[j]? = some o) (hT : ∀ cs T fr, o = .cells cs T fr → T ≠ 39) : w'.heap[j]? = some o :=
  (hg.block j (Array.getElem?_eq_some_iff.1 hj).1 (fun e => by
    obtain ⟨cs, hc⟩ := own_type h.row e.symm
    rw [hj] at hc
    injection hc with hc
    exact hT _ _ _ hc rfl)).trans hj
theorem opwp_append_N {o : Oper} {a : Act} {w : World} {K : Act → World → Prop} {Q : Exit → Act → World → Prop} (s x : Operand)
    (ho : o.op = .call { callee := .builtin .append, args := #[s, x], argTypes := #[22, 22] })
    (B : Nat) (v : Value) (out : List NodeT) (vs : List Value) (hs : a.eval s = v) (hown : OwnNodes w B v out vs) (nd : NodeT) (u : Value) (hu : OwnInts w B u nd.ins) (hi : nd.ins.length ≤ 16777216)
    (b c : Nat) (T : TypeId) (hx : a.eval x = .slice (some ⟨b, 0, none⟩) 1 c) (hb : w.heap[b]? = some (.cells #[.int .i64 nd.kind, .int .i64 nd.lit, u] T (0, 0)))
    (hlen : out.length ≤ 1000000) (hbase : B ≤ w.heap.size)
    (h : ∀ v' w', OwnNodes w' B v' (out ++ [nd]) (vs ++ [u]) → w.grownBy w' v.ownBlock → (∃ g c, v' = .slice (some ⟨g, 0, none⟩) (out.length + 1) c ∧ (v.ownBlock = some g ∨ g = w.heap.size)) → K (a.put o.dst v') w') : o.wp Tryd.prog a w K Q := by
  obtain ⟨i0, hi0, hz0, hz1, hz2⟩ := info_parts info_node
  have h1 : ∀ y ∈ [Value.int .i64 nd.kind, .int .i64 nd.lit, u], y.oneCell' = true := by
    obtain ⟨p, c', rfl, _⟩ := hu.ints
    intro y hy
    simp only [List.mem_cons, List.not_mem_nil, or_false] at hy
    rcases hy with rfl | rfl | rfl <;> rfl
  refine wp_append_lies _ _ _ 22 ho B 39 i0 (.agg #[.int .i64 0, .int .i64 0, .slice none 0 0]) 3 40 Tryd.underlying22 hi0 hz0 hz1 hz2 rfl (by decide) v out.length (nodeCells out vs) hs hown.row ⟨b, 0, none⟩ 1 c [.int .i64 nd.kind, .int .i64 nd.lit, u] hx rfl (World.news_of_block hb) h1 (by omega) (by unfold maxLen; omega) (by omega) hbase _ rfl ?_
  intro g cap w9 hown9 hg9 hat9 _
  exact h _ _ (hown.snoc hu hi hown9 fun j cs hj => (push_keeps hown hg9 hj (fun _ _ _ e => by injection e with _ e _; rw [← e]; decide)).trans hj.symm) hg9 ⟨g, cap, rfl, hat9⟩
theorem wpList_append_N {w : World} {ops : Array Oper} {rest : List Oper} {o : Oper} {a : Act} {Q : Exit → Act → World → Prop} (hgd : o.guard = none) (s x : Operand)
    (ho : o.op = .call { callee := .builtin .append, args := #[s, x], argTypes := #[22, 22] })
    (B : Nat) (v : Value) (out : List NodeT) (vs : List Value) (hs : a.eval s = v) (hown : OwnNodes w B v out vs) (nd : NodeT) (u : Value) (hu : OwnInts w B u nd.ins) (hi : nd.ins.length ≤ 16777216)
    (b c : Nat) (T : TypeId) (hx : a.eval x = .slice (some ⟨b, 0, none⟩) 1 c) (hb : w.heap[b]? = some (.cells #[.int .i64 nd.kind, .int .i64 nd.lit, u] T (0, 0)))
    (hlen : out.length ≤ 1000000) (hbase : B ≤ w.heap.size)
    (h : ∀ v' w', OwnNodes w' B v' (out ++ [nd]) (vs ++ [u]) → w.grownBy w' v.ownBlock → (∃ g c, v' = .slice (some ⟨g, 0, none⟩) (out.length + 1) c ∧ (v.ownBlock = some g ∨ g = w.heap.size)) → wpList Tryd.prog ops Q rest (a.put o.dst v') w') : wpList Tryd.prog ops Q (o :: rest) a w :=
  wpList_plain hgd fun _ hK => opwp_append_N s x ho B v out vs hs hown nd u hu hi b c T hx hb hlen hbase fun v' w' h1 h2 h3 => hK _ _ (h v' w' h1 h2 h3)
/-- A net that is being made: its variable nb holds n and the nodes out, all in new memory. -/
def NetMade (w : World) (B nb : Nat) (n : Int) (out : List NodeT) (vs : List Value) : Prop := ∃ v, Box2 w nb 24 (.int .i64 n) v ∧ OwnNodes w B v out vs ∧ B ≤ nb
theorem NetMade.below {w w' : World} {B nb : Nat} {n : Int} {out : List NodeT} {vs : List Value} (h : NetMade w B nb n out vs) (hb : Below w.heap.size w w') : NetMade w' B nb n out vs := by
  obtain ⟨v, h1, h2, h3⟩ := h
  exact ⟨v, h1.below hb h1.lt, h2.below hb, h3⟩
/-- The net's variable takes the new value. -/
theorem made_store {w w' : World} {B nb : Nat} {n : Int} {v v' : Value} {out : List NodeT} {vs : List Value} {out' : List NodeT} {vs' : List Value} (hbx : Box2 w nb 24 (.int .i64 n) v) (hB : B ≤ nb) (hown : OwnNodes w B v out vs) (hg : w.grownBy w' v.ownBlock) (hown' : OwnNodes w' B v' out' vs') :
    Box2 w' nb 24 (.int .i64 n) v ∧ NetMade (w'.setCell ⟨nb, 1, none⟩ v') B nb n out' vs' ∧ ∀ {j : Nat} {ob : Obj}, w.heap[j]? = some ob → (∀ cs T fr, ob = .cells cs T fr → T ≠ 39) → j ≠ nb → (w'.setCell ⟨nb, 1, none⟩ v').heap[j]? = some ob := by
  have hbx' : Box2 w' nb 24 (.int .i64 n) v := push_keeps hown hg hbx (fun _ _ _ e => by injection e with _ e _; rw [← e]; decide)
  have hne : ∀ {cs : Array Value} {T : TypeId} {fr : Nat × Nat} {j : Nat}, w'.heap[j]? = some (.cells cs T fr) → T ≠ 24 → j ≠ nb := fun hj hT e => by
    subst e
    unfold Box2 at hbx'
    rw [hj] at hbx'
    injection hbx' with hbx'
    injection hbx' with _ e _
    exact hT e
  refine ⟨hbx', ⟨v', hbx'.set1 v', hown'.same (fun j e => ?_) (fun u hu j e => ?_), hB⟩, fun {j ob} hj hT hn => ?_⟩
  · obtain ⟨cs, hc⟩ := own_type hown'.row e
    exact Below.heap_setCell _ _ _ _ (hne hc (by decide))
  · obtain ⟨_, _, cs, hc⟩ := hown'.in_lt hu e
    exact Below.heap_setCell _ _ _ _ (hne hc (by decide))
  · exact (Below.heap_setCell _ _ _ _ hn).trans (push_keeps hown hg hj hT)
/-- The block g holds the booleans M. -/
def BRow (w : World) (g : Nat) (M : List Bool) : Prop := ∃ cur T, w.heap[g]? = some (.cells cur T (0, 0)) ∧ M.length ≤ cur.size ∧ ∀ i (h : i < M.length), cur[i]? = some (.bool M[i])
theorem BRow.lt {w : World} {g : Nat} {M : List Bool} (h : BRow w g M) : g < w.heap.size := by
  obtain ⟨cur, T, h, _⟩ := h; exact (Array.getElem?_eq_some_iff.1 h).1
theorem BRow.at {w : World} {g : Nat} {M : List Bool} (h : BRow w g M) (i : Nat) (hi : i < M.length) : w.cell? ⟨g, i, none⟩ = some (.bool M[i]) ∧ w.frozen? ⟨g, i, none⟩ = false := by
  obtain ⟨cur, T, h1, h2, h3⟩ := h
  simp [World.cell?, World.frozen?, h1, h3 i hi]
theorem BRow.getB {w : World} {g : Nat} {M : List Bool} (h : BRow w g M) (i : Nat) (hi : i < M.length) : ∃ t, bOf M (i : Int) = t ∧ w.cell? ⟨g, i, none⟩ = some (.bool t) ∧ w.frozen? ⟨g, i, none⟩ = false :=
  ⟨M[i], bOf_nat M i hi, (h.at i hi).1, (h.at i hi).2⟩
theorem BRow.same {w w' : World} {g : Nat} {M : List Bool} (h : BRow w g M) (e : w'.heap[g]? = w.heap[g]?) : BRow w' g M := by
  obtain ⟨cur, T, h1, h2⟩ := h; exact ⟨cur, T, e.trans h1, h2⟩
theorem BRow.below {w w' : World} {g B : Nat} {M : List Bool} (h : BRow w g M) (hb : Below B w w') (hB : g < B) : BRow w' g M := h.same (hb.block g hB)
theorem BRow.alloc {w : World} {g : Nat} {M : List Bool} (h : BRow w g M) (o : Obj) : BRow (w.alloc o) g M := h.same (Below.heap_alloc _ _ _ h.lt)
theorem BRow.store {w : World} {g : Nat} {M : List Bool} (h : BRow w g M) (i : Nat) (_hi : i < M.length) (x : Bool) : BRow (w.setCell ⟨g, i, none⟩ (.bool x)) g (M.set i x) := by
  obtain ⟨cur, T, h1, h2, h3⟩ := h
  refine ⟨cur.setIfInBounds i (.bool x), T, by simp [World.setCell, Array.getElem?_modify, h1], by simpa using h2, fun k hk => ?_⟩
  rw [List.length_set] at hk
  rw [Array.getElem?_setIfInBounds, List.getElem_set]
  by_cases e : i = k
  · subst e
    rw [if_pos rfl, if_pos (by omega), if_pos rfl]
  · rw [if_neg e, if_neg e, h3 k hk]
theorem info_bool : (Tryd.prog.info? 4).map (fun i => (i.zero, i.size, i.bytes)) = some (some (.bool false), 1, 1) := by kernel_rfl
theorem make_bools (w : World) (n : Nat) (hn : n ≤ 65536) (x y : Int) (hx : x = (n : Int)) (hy : y = (n : Int)) :
    (Instr.makeSlice 79 (.int .i64 x) (.int .i64 y)).run Tryd.prog w = .ok (.slice (some ⟨w.heap.size, 0, none⟩) n n) (w.alloc (.cells (madeCells (Value.bool false).cells n) 4)) := by
  subst hx; subst hy
  obtain ⟨i0, hi, hz0, hz1, hz2⟩ := info_parts info_bool
  have := run_makeSlice (P := Tryd.prog) w 79 4 i0 (.bool false) Tryd.underlying79 hi hz0 .i64 .i64 (n : Int) (n : Int) (by omega) (Int.le_refl _) (by rw [hz1, Int.toNat_natCast]; omega) (by rw [hz2]; omega) (by omega)
  rw [hz1, Int.toNat_natCast, Nat.mul_one] at this
  exact this
theorem BRow.made (w : World) (n : Nat) : BRow (w.alloc (.cells (madeCells (Value.bool false).cells n) 4)) w.heap.size (List.replicate n false) :=
  ⟨_, _, heap_alloc_new w _, by simp [size_madeCells], fun i hi => by
    have h2 : i < n := by simpa using hi
    rw [List.getElem_replicate]
    simp [madeCells, h2, Value.cells, Nat.mod_one]⟩
/-- What stands in the row while the values are made: k nodes are through, the next one's value is s. -/
def rowB (A : Int → Bool) (L : List NodeT) (k : Nat) (s : Bool) : List Bool := bsOf A (L.take k) ++ s :: List.replicate (L.length - k - 1) false
section
variable {A : Int → Bool}
theorem rowB_length {L : List NodeT} {k : Nat} (s : Bool) (h : k < L.length) : (rowB A L k s).length = L.length := by
  unfold rowB
  rw [List.length_append, List.length_cons, List.length_replicate, show (bsOf A (L.take k)).length = k from by rw [bsOf_length, List.length_take]; omega]
  omega
theorem rowB_set {L : List NodeT} {k : Nat} (s t : Bool) (h : k < L.length) : (rowB A L k s).set k t = rowB A L k t := by
  unfold rowB
  have hl : (bsOf A (L.take k)).length = k := by rw [bsOf_length, List.length_take]; omega
  rw [List.set_append_right _ _ (by omega), hl, Nat.sub_self]; rfl
theorem rowB_at {L : List NodeT} {k : Nat} (s : Bool) (h : k < L.length) : bOf (rowB A L k s) (k : Int) = s := by
  rw [bOf_nat _ k (by rw [rowB_length s h]; exact h)]
  unfold rowB
  have hl : (bsOf A (L.take k)).length = k := by rw [bsOf_length, List.length_take]; omega
  rw [List.getElem_append_right (by omega)]
  simp [hl]
theorem rowB_low {L : List NodeT} {k : Nat} (s : Bool) (h : k < L.length) (i : Int) (hi : i < (k : Int)) : bOf (rowB A L k s) i = bOf (bsOf A (L.take k)) i := by
  have hl : (bsOf A (L.take k)).length = k := by rw [bsOf_length, List.length_take]; omega
  unfold bOf rowB
  by_cases h0 : 0 ≤ i
  · rw [if_pos h0, if_pos h0, List.getD_eq_getElem?_getD, List.getD_eq_getElem?_getD, List.getElem?_append_left (by omega)]
  · rw [if_neg h0, if_neg h0]
theorem rowB_next {L : List NodeT} {k : Nat} (h : k < L.length) {s : Bool} (hs : s = bNode A (bsOf A (L.take k)) L[k]) : bsOf A (L.take (k + 1)) ++ List.replicate (L.length - (k + 1)) false = rowB A L k s := by
  unfold rowB
  have : bsOf A (L.take (k + 1)) = bsOf A (L.take k) ++ [s] := by rw [hs]; exact scanF_take_succ (bNode A) L k h
  rw [this, List.append_assoc]
  congr 2
theorem rowB_start {L : List NodeT} {k : Nat} (h : k < L.length) : bsOf A (L.take k) ++ List.replicate (L.length - k) false = rowB A L k false := by
  unfold rowB
  congr 1
  obtain ⟨m, hm⟩ : ∃ m, L.length - k = m + 1 := ⟨L.length - k - 1, by omega⟩
  rw [hm, show m + 1 - 1 = m from rfl]; rfl
theorem all_snoc (M : List Bool) (l : List Int) (k : Nat) (h : k < l.length) : (l.take (k + 1)).all (bOf M) = ((l.take k).all (bOf M) && bOf M l[k]) := by
  rw [List.take_succ_eq_append_getElem h, List.all_append]; simp
theorem any_snoc (M : List Bool) (l : List Int) (k : Nat) (h : k < l.length) : (l.take (k + 1)).any (bOf M) = ((l.take k).any (bOf M) || bOf M l[k]) := by
  rw [List.take_succ_eq_append_getElem h, List.any_append]; simp
end
end Go.Proofs.YtpdbfbjfodckgaaDoor
