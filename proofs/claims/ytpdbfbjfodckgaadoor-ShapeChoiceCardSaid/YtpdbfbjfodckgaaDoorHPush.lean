/- Words for memory: a node is appended to nodes that a call owns; a net in its variable. -/
import Derived.Test.YtpdbfbjfodckgaaDoorHAdd
namespace Go.Proofs.YtpdbfbjfodckgaaDoor
open Go.RowKit

/-- An append to nodes: all blocks but those of nodes stay as they are. -/
theorem push_keeps {w w' : World} {B : Nat} {v : Value} {out : List NodeT} {vs : List Value} (h : OwnNodes w B v out vs) (hg : w.grownBy w' v.ownBlock) {j : Nat} {o : Obj} (hj : w.heap[j]? = some o) (hT : ∀ cs T fr, o = .cells cs T fr → T ≠ 39) : w'.heap[j]? = some o :=
  (hg.block j (Array.getElem?_eq_some_iff.1 hj).1 (fun e => by
    obtain ⟨cs, hc⟩ := own_type h.row e.symm
    rw [hj] at hc
    injection hc with hc
    exact hT _ _ _ hc rfl)).trans hj
theorem opwp_append_N {o : Oper} {a : Act} {w : World} {K : Act → World → Prop} {Q : Exit → Act → World → Prop} (s x : Operand)
    (ho : o.op = .call { callee := .builtin .append, args := #[s, x], argTypes := #[22, 22] })
    (B : Nat) (v : Value) (out : List NodeT) (vs : List Value) (hs : a.eval s = v) (hown : OwnNodes w B v out vs) (nd : NodeT) (u : Value) (hu : OwnInts w B u nd.ins) (hi : nd.ins.length ≤ 16777216)
    (b c : Nat) (T : TypeId) (hx : a.eval x = .slice (some ⟨b, 0, none⟩) 1 c) (hb : w.heap[b]? = some (.cells #[.int .i64 nd.kind, .int .i64 nd.lit, u] T (0, 0)))
    (hlen : out.length ≤ 1000000) (hbase : B ≤ w.heap.size)
    (h : ∀ v' w', OwnNodes w' B v' (out ++ [nd]) (vs ++ [u]) → w.grownBy w' v.ownBlock → (∃ g c, v' = .slice (some ⟨g, 0, none⟩) (out.length + 1) c ∧ (v.ownBlock = some g ∨ g = w.heap.size)) → K (a.put o.dst v') w') : o.wp Tryd.prog a w K Q := by
  obtain ⟨i0, hi0, hz0, hz1, hz2⟩ := info_parts info_node
  have h1 : ∀ y ∈ [Value.int .i64 nd.kind, .int .i64 nd.lit, u], y.oneCell' = true := by
    obtain ⟨p, c', rfl, _⟩ := hu.ints
    intro y hy
    simp only [List.mem_cons, List.not_mem_nil, or_false] at hy
    rcases hy with rfl | rfl | rfl <;> rfl
  refine wp_append_lies _ _ _ 22 ho B 39 i0 (.agg #[.int .i64 0, .int .i64 0, .slice none 0 0]) 3 40 Tryd.underlying22 hi0 hz0 hz1 hz2 rfl (by decide) v out.length (nodeCells out vs) hs hown.row ⟨b, 0, none⟩ 1 c [.int .i64 nd.kind, .int .i64 nd.lit, u] hx rfl (World.news_of_block hb) h1 (by omega) (by unfold maxLen; omega) (by omega) hbase _ rfl ?_
  intro g cap w9 hown9 hg9 hat9 _
  exact h _ _ (hown.snoc hu hi hown9 fun j cs hj => (push_keeps hown hg9 hj (fun _ _ _ e => by injection e with _ e _; rw [← e]; decide)).trans hj.symm) hg9 ⟨g, cap, rfl, hat9⟩
theorem wpList_append_N {w : World} {ops : Array Oper} {rest : List Oper} {o : Oper} {a : Act} {Q : Exit → Act → World → Prop} (hgd : o.guard = none) (s x : Operand)
    (ho : o.op = .call { callee := .builtin .append, args := #[s, x], argTypes := #[22, 22] })
    (B : Nat) (v : Value) (out : List NodeT) (vs : List Value) (hs : a.eval s = v) (hown : OwnNodes w B v out vs) (nd : NodeT) (u : Value) (hu : OwnInts w B u nd.ins) (hi : nd.ins.length ≤ 16777216)
    (b c : Nat) (T : TypeId) (hx : a.eval x = .slice (some ⟨b, 0, none⟩) 1 c) (hb : w.heap[b]? = some (.cells #[.int .i64 nd.kind, .int .i64 nd.lit, u] T (0, 0)))
    (hlen : out.length ≤ 1000000) (hbase : B ≤ w.heap.size)
    (h : ∀ v' w', OwnNodes w' B v' (out ++ [nd]) (vs ++ [u]) → w.grownBy w' v.ownBlock → (∃ g c, v' = .slice (some ⟨g, 0, none⟩) (out.length + 1) c ∧ (v.ownBlock = some g ∨ g = w.heap.size)) → wpList Tryd.prog ops Q rest (a.put o.dst v') w') : wpList Tryd.prog ops Q (o :: rest) a w :=
  wpList_plain hgd fun _ hK => opwp_append_N s x ho B v out vs hs hown nd u hu hi b c T hx hb hlen hbase fun v' w' h1 h2 h3 => hK _ _ (h v' w' h1 h2 h3)
/-- A net that is being made: its variable nb holds n and the nodes out, all in new memory. -/
def NetMade (w : World) (B nb : Nat) (n : Int) (out : List NodeT) (vs : List Value) : Prop := ∃ v, Box2 w nb 24 (.int .i64 n) v ∧ OwnNodes w B v out vs ∧ B ≤ nb
theorem NetMade.below {w w' : World} {B nb : Nat} {n : Int} {out : List NodeT} {vs : List Value} (h : NetMade w B nb n out vs) (hb : Below w.heap.size w w') : NetMade w' B nb n out vs := by
  obtain ⟨v, h1, h2, h3⟩ := h
  exact ⟨v, h1.below hb h1.lt, h2.below hb, h3⟩
/-- The net's variable takes the new value. -/
theorem made_store {w w' : World} {B nb : Nat} {n : Int} {v v' : Value} {out : List NodeT} {vs : List Value} {out' : List NodeT} {vs' : List Value} (hbx : Box2 w nb 24 (.int .i64 n) v) (hB : B ≤ nb) (hown : OwnNodes w B v out vs) (hg : w.grownBy w' v.ownBlock) (hown' : OwnNodes w' B v' out' vs') :
    Box2 w' nb 24 (.int .i64 n) v ∧ NetMade (w'.setCell ⟨nb, 1, none⟩ v') B nb n out' vs' ∧ ∀ {j : Nat} {ob : Obj}, w.heap[j]? = some ob → (∀ cs T fr, ob = .cells cs T fr → T ≠ 39) → j ≠ nb → (w'.setCell ⟨nb, 1, none⟩ v').heap[j]? = some ob := by
  have hbx' : Box2 w' nb 24 (.int .i64 n) v := push_keeps hown hg hbx (fun _ _ _ e => by injection e with _ e _; rw [← e]; decide)
  have hne : ∀ {cs : Array Value} {T : TypeId} {fr : Nat × Nat} {j : Nat}, w'.heap[j]? = some (.cells cs T fr) → T ≠ 24 → j ≠ nb := fun hj hT e => by
    subst e
    unfold Box2 at hbx'
    rw [hj] at hbx'
    injection hbx' with hbx'
    injection hbx' with _ e _
    exact hT e
  refine ⟨hbx', ⟨v', hbx'.set1 v', hown'.same (fun j e => ?_) (fun u hu j e => ?_), hB⟩, fun {j ob} hj hT hn => ?_⟩
  · obtain ⟨cs, hc⟩ := own_type hown'.row e
    exact Below.heap_setCell _ _ _ _ (hne hc (by decide))
  · obtain ⟨_, _, cs, hc⟩ := hown'.in_lt hu e
    exact Below.heap_setCell _ _ _ _ (hne hc (by decide))
  · exact (Below.heap_setCell _ _ _ _ hn).trans (push_keeps hown hg hj hT)
end Go.Proofs.YtpdbfbjfodckgaaDoor
