/- Words for memory: bytes that the call owns, or a full slice of a constant's bytes (its block bears a mark). -/
import Derived.Test.YtkfmblpcfgdgpaaFSum
import Derived.RangeFuncBox
import Derived.OwnWalk
import Derived.ArgAppend
namespace Go.Proofs.Ytkfmblpcfgdgpaa
open Go.RowKit

theorem info_byte : (Try.prog.info? 5).map (fun i => (i.zero, i.size, i.bytes)) = some (some (.int .u8 0), 1, 1) := by kernel_rfl
/-- The slice value v is bytes of the call's own; what is appended goes into new cells or into a new block. -/
def Row (w : World) (base : Nat) (v : Value) (l : List UInt8) : Prop :=
  w.ownsRow base 5 1 v l.length (l.map encB) ∨ ∃ g cur fz, v = .slice (some ⟨g, 0, none⟩) l.length l.length ∧ base ≤ g ∧ w.heap[g]? = some (.cells cur 5 fz) ∧ l.length ≤ cur.size ∧ cur.toList.take l.length = l.map encB
theorem Row.cells {w : World} {base : Nat} {v : Value} {l : List UInt8} (h : Row w base v l) : (v = .slice none 0 0 ∧ l = []) ∨ ∃ g c cur fz, v = .slice (some ⟨g, 0, none⟩) l.length c ∧ base ≤ g ∧ w.heap[g]? = some (.cells cur 5 fz) ∧ cur.toList.take l.length = l.map encB ∧ l.length ≤ c := by
  rcases h with h | ⟨g, cur, fz, h1, h2, h3, _, h4⟩
  · rcases h.2 with ⟨rfl, h0⟩ | ⟨g, cap, cur, rfl, hb, hg, hn, _, hs, ht⟩
    · exact .inl ⟨rfl, by simpa using h0⟩
    · exact .inr ⟨g, cap, cur, (0, 0), rfl, hb, hg, by simpa using ht, hn⟩
  · exact .inr ⟨g, _, cur, fz, h1, h2, h3, h4, Nat.le_refl _⟩
theorem bytes_of_take {w : World} {g c : Nat} {cur : Array Value} {fz : Nat × Nat} {t : TypeId} {l : List UInt8} (hg : w.heap[g]? = some (.cells cur t fz)) (ht : cur.toList.take l.length = l.map encB) : BytesAt w (.slice (some ⟨g, 0, none⟩) l.length c) l := by
  refine ⟨_, _, rfl, .inr ⟨g, 0, rfl, fun i hi => ?_⟩⟩
  have h1 : cur[i]? = some (encB l[i]) := by
    have := congrArg (fun x => x[i]?) ht
    simp only [List.getElem?_take, List.getElem?_map, hi, if_true, List.getElem?_eq_getElem, Option.map_some] at this
    rw [← Array.getElem?_toList]; exact this
  simp [World.cell?, hg, h1]
theorem Row.bytes {w : World} {base : Nat} {v : Value} {l : List UInt8} (h : Row w base v l) : BytesAt w v l := by
  rcases h.cells with ⟨rfl, rfl⟩ | ⟨g, c, cur, fz, rfl, _, hg, ht, _⟩
  · exact ⟨none, 0, rfl, .inl rfl⟩
  · exact bytes_of_take hg ht
theorem Row.kept {w w' : World} {base : Nat} {v : Value} {l : List UInt8} {row : Option Nat} (h : Row w base v l) (hg : w.grownBy w' row) (hne : v.ownBlock = none ∨ v.ownBlock ≠ row) : Row w' base v l := by
  rcases h with h | ⟨g, cur, fz, rfl, h2, h3, h4⟩
  · exact .inl (h.kept hg hne)
  · refine .inr ⟨g, cur, fz, rfl, h2, ?_, h4⟩
    rw [hg.block g (Array.getElem?_eq_some_iff.1 h3).1 (by simpa [Value.ownBlock] using hne)]
    exact h3
theorem Row.alloc {w : World} {base : Nat} {v : Value} {l : List UInt8} (h : Row w base v l) (o : Obj) : Row (w.alloc o) base v l :=
  h.kept (World.grownBy_alloc w o none) (by cases hv : v.ownBlock <;> simp)
theorem Row.below {w w' : World} {base : Nat} {v : Value} {l : List UInt8} (h : Row w base v l) (hb : Below w.heap.size w w') : Row w' base v l :=
  h.kept (row := none) ⟨hb.os, hb.tape, hb.output, hb.size, fun k hk _ => hb.block k hk⟩ (by cases hv : v.ownBlock <;> simp)
theorem grownBy_none {w w' : World} (h : w.grownBy w' none) (row : Option Nat) : w.grownBy w' row := ⟨h.os, h.tape, h.output, h.size, fun k hk _ => h.block k hk (by simp)⟩
theorem ownsRow_base {w : World} {base base' size n : Nat} {e : TypeId} {v : Value} {xs : List Value} (h : w.ownsRow base e size v n xs) (hb : base' ≤ base) : w.ownsRow base' e size v n xs :=
  ⟨h.1, h.2.elim Or.inl (fun ⟨g, cap, cur, hv, hg, r⟩ => Or.inr ⟨g, cap, cur, hv, Nat.le_trans hb hg, r⟩)⟩
/-- Bytes appended to a row. -/
theorem wpList_append_row {w : World} {ops : Array Oper} {rest : List Oper} {o : Oper} {a : Act} {Q : Exit → Act → World → Prop} (hgd : o.guard = none) (s x : Operand)
    (ho : o.op = .call { callee := .builtin .append, args := #[s, x], argTypes := #[28, 28] })
    (base : Nat) (v : Value) (l : List UInt8) (hs : a.eval s = v) (hrow : Row w base v l)
    (ad : Addr) (m c : Nat) (news : List Value) (hx : a.eval x = .slice (some ad) m c) (hl : news.length = m) (hnews : ∀ j u, news[j]? = some u → w.cell? (ad.add j) = some u) (h1 : ∀ u ∈ news, u.oneCell' = true)
    (hm : 0 < m) (hlen : l.length + m ≤ 140737488355328) (hbase : base ≤ w.heap.size)
    (h : ∀ v' w', w'.ownsRow base 5 1 v' (l.length + m) (l.map encB ++ news) → w.grownBy w' v.ownBlock → wpList Try.prog ops Q rest (a.put o.dst v') w') : wpList Try.prog ops Q (o :: rest) a w := by
  obtain ⟨i0, hi, hz0, hz1, hz2⟩ := info_parts info_byte
  rcases hrow with hrow | ⟨g, cur, fz, rfl, h2, h3, h4, h5⟩
  · exact wpList_append_own w hgd s x 28 ho base 5 i0 (.int .u8 0) 1 1 Try.underlying28 hi hz0 hz1 hz2 rfl (by decide) v _ _ hs hrow ad m c news hx (by simpa using hl) hnews h1 (by unfold maxLen; omega) (by omega) hbase fun v' w' a b _ => h v' w' a b
  · refine wpList_append_grows w hgd s x 28 ho 5 i0 (.int .u8 0) 1 1 Try.underlying28 hi hz0 hz1 hz2 rfl (by decide) (some ⟨g, 0, none⟩) l.length l.length (l.map encB) hs (fun e => by cases e) (by simp) (fun b hb j u hj => ?_) ad m c news hx (by simpa using hl) hnews h1 (by omega) (by unfold maxLen; omega) (by omega) fun v' w' a b => h v' w' (ownsRow_base a hbase) (grownBy_none b _)
    cases hb
    rw [← h5] at hj
    rw [Addr.add_lit]
    simp only [World.cell?, h3, Nat.zero_add]
    rw [List.getElem?_take] at hj
    split at hj
    · simpa using hj
    · cases hj
theorem Boxed.not_rowR {W : World} {B : Nat} {t : TypeId} {u : Value} (h : Boxed W B t u) (hte : t ≠ 5) {base : Nat} {v : Value} {l : List UInt8} (hr : Row W base v l) : some B ≠ v.ownBlock := by
  rcases hr.cells with ⟨rfl, _⟩ | ⟨g, cap, cur, fz, rfl, _, hgb, _⟩
  · simp [Value.ownBlock]
  · intro e'
    obtain rfl : B = g := by simpa [Value.ownBlock] using e'
    have := (show W.heap[B]? = _ from h).symm.trans hgb
    simp at this
    exact hte this.2.1
/-- What a walk owes behind an append to a row in a box. -/
theorem Boxed.appendedR {W w1 : World} {n₀ B : Nat} {t : TypeId} {v v' : Value} {l : List UInt8} {m : Nat} {ys : List Value} {tmp : Obj}
    (hv : Boxed W B t v) (hte : t ≠ 5) (hrow : Row W n₀ v l) (hn₀ : n₀ ≤ W.heap.size) (hB : n₀ ≤ B)
    (hown' : w1.ownsRow n₀ 5 1 v' m ys) (hgrow : (W.alloc tmp).grownBy w1 v.ownBlock) :
    Boxed w1 B t v ∧ Boxed (w1.setCell ⟨B, 0, none⟩ v') B t v' ∧ (w1.setCell ⟨B, 0, none⟩ v').ownsRow n₀ 5 1 v' m ys ∧ Below n₀ W (w1.setCell ⟨B, 0, none⟩ v') := by
  have hv1 : Boxed w1 B t v := (hv.alloc tmp).kept hgrow (Boxed.not_rowR hv hte hrow)
  refine ⟨hv1, hv1.set v', hown'.kept (grownBy_setCell' w1 B v') (.inr (hv1.not_row hte hown').symm), ?_⟩
  refine (((Below.refl n₀ W).alloc hn₀ tmp).grown hgrow (by simp; omega) fun j ej => ?_).setCell (p := ⟨B, 0, none⟩) hB v'
  rcases hrow.cells with ⟨rfl, _⟩ | ⟨g, cap, cur, fz, rfl, hb, _⟩
  · simp [Value.ownBlock] at ej
  · obtain rfl : g = j := by simpa [Value.ownBlock] using ej
    exact hb
end Go.Proofs.Ytkfmblpcfgdgpaa
