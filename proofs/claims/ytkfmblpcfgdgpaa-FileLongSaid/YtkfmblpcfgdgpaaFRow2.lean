/- Words for memory: bytes appended from any slice of bytes. -/
import Derived.Test.YtkfmblpcfgdgpaaFRow
import Derived.Deep.Upon
namespace Go.Proofs.Ytkfmblpcfgdgpaa
open Go.RowKit

theorem Row.grown {w w' : World} {base : Nat} {v : Value} {l : List UInt8} (hrow : Row w base v l) (hg : w.grownBy w' v.ownBlock) (hb : base ≤ w.heap.size) : Below base w w' := by
  refine (Below.refl base w).grown hg hb fun k hk => ?_
  rcases hrow.cells with ⟨rfl, _⟩ | ⟨g, cap, cur, fz, rfl, hbg, _⟩
  · simp [Value.ownBlock] at hk
  · obtain rfl : g = k := by simpa [Value.ownBlock] using hk
    exact hbg
theorem wpList_append_bytes {w : World} {ops : Array Oper} {rest : List Oper} {o : Oper} {a : Act} {Q : Exit → Act → World → Prop} (hgd : o.guard = none) (s x : Operand)
    (ho : o.op = .call { callee := .builtin .append, args := #[s, x], argTypes := #[28, 28] })
    (base : Nat) (v : Value) (l : List UInt8) (hs : a.eval s = v) (hrow : Row w base v l)
    (u : Value) (l2 : List UInt8) (hx : a.eval x = u) (hu : BytesAt w u l2)
    (hlen : l.length + l2.length ≤ 140737488355328) (hbase : base ≤ w.heap.size)
    (h : ∀ v' w', Row w' base v' (l ++ l2) → Below base w w' → w.grownBy w' v.ownBlock → wpList Try.prog ops Q rest (a.put o.dst v') w') : wpList Try.prog ops Q (o :: rest) a w := by
  obtain ⟨p, c, rfl, hp⟩ := hu
  obtain ⟨i0, hi, hz0, hz1, hz2⟩ := info_parts info_byte
  cases l2 with
  | nil =>
    have hsrc : ∀ (p : Option Addr), Src Try.prog i0.size 28 (.slice p 0 c) 0 [] w := fun p => by
      cases p with
      | none => exact Src.ofNil w Try.underlying28 c
      | some ad => exact Src.ofSlice w Try.underlying28 ad 0 c [] (by simp) (by simp) (by simp)
    refine wpList_plain hgd fun K hK' => ?_
    have hrun : (Builtin.append_ #[28, 28] o.type #[v, .slice p 0 c]).run Try.prog w = .ok v w := by
      rcases hrow.cells with ⟨rfl, _⟩ | ⟨g, cap, cur, fz, rfl, _, _, _, hle⟩
      · exact run_append_nothing (P := Try.prog) w 28 28 o.type 5 i0 Try.underlying28 hi none 0 0 (Nat.le_refl _) _ (hsrc p)
      · exact run_append_nothing (P := Try.prog) w 28 28 o.type 5 i0 Try.underlying28 hi _ _ _ hle _ (hsrc p)
    have hx' : a.eval x = .slice p 0 c := hx
    unfold Oper.wp
    simp [execOp, ho, resolve, invoke, builtin, hs, hx', hrun, Result.andThen]
    exact hK' _ _ (h v w (by rw [List.append_nil]; exact hrow) (Below.refl _ _) (World.grownBy.refl _ _))
  | cons b0 t =>
    obtain ⟨b, off, rfl, hc⟩ := hp.resolve_left (by simp)
    refine wpList_append_row hgd s x ho base v l hs hrow ⟨b, off, none⟩ (b0 :: t).length c ((b0 :: t).map encB) hx (by simp) (fun j y hj => ?_) (by simp [Value.oneCell']) (by simp) hlen hbase fun v' w' h1 h2 => ?_
    · have hlt : j < (b0 :: t).length := by have := (List.getElem?_eq_some_iff.1 hj).1; simpa using this
      rw [Addr.add_lit, hc j hlt]
      rw [List.getElem?_map, List.getElem?_eq_getElem hlt] at hj
      exact hj
    · rw [← List.map_append, ← List.length_append] at h1
      exact h v' w' (.inl h1) (hrow.grown h2 hbase) h2
/-- A function that hands back new bytes. -/
def NewB (w : World) (l : List UInt8) (e : Ending) (w' : World) : Prop := ∃ v, e = .returned v ∧ Row w' w.heap.size v l ∧ Below w.heap.size w w'
theorem Row.base {w : World} {base base' : Nat} {v : Value} {l : List UInt8} (h : Row w base v l) (hb : base' ≤ base) : Row w base' v l := by
  rcases h with h | ⟨g, cur, fz, h1, h2, h3⟩
  · exact .inl (ownsRow_base h hb)
  · exact .inr ⟨g, cur, fz, h1, Nat.le_trans hb h2, h3⟩
/-- A new slice of bytes. -/
theorem Row.lit (w : World) (l : List UInt8) (hl : l.length ≤ maxLen) : Row (w.alloc (.cells (l.map encB).toArray 5)) w.heap.size (.slice (some ⟨w.heap.size, 0, none⟩) l.length l.length) l :=
  .inl ⟨by simp, .inr ⟨w.heap.size, l.length, _, rfl, Nat.le_refl _, heap_alloc_new w _, Nat.le_refl _, hl, by simp, by simp [List.take_of_length_le]⟩⟩
end Go.Proofs.Ytkfmblpcfgdgpaa
