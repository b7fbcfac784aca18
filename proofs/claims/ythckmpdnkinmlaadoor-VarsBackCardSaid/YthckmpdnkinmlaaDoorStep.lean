/- Step laws for regions that draw their order: new variables, stores into them, new lists, over worlds that are named. -/
import Derived.Test.YthckmpdnkinmlaaDoorMem
import Derived.KernelRfl
namespace Go.Proofs.YthckmpdnkinmlaaDoor
open Go.RowKit

section
variable {w : World} {ops : Array Oper} {o : Oper} {a : Act} {K : Act → World → Prop} {Q : Exit → Act → World → Prop} {E : Prop}
/-- A new variable of a set. -/
theorem step_alloc_set (hwant : Region.wanted o (yielded ops a.tmps) = true) (ho : o.op = .alloc 26)
    (h : ∀ p w', p = w.heap.size → Below w.heap.size w w' → SetVar w' p 0 → K (a.put o.dst (.pointer (some ⟨p, 0, none⟩))) w') :
    if Region.wanted o (yielded ops a.tmps) = true then Oper.wp Tryd.prog o a w K Q else E := by
  rw [if_pos hwant]
  unfold Oper.wp
  have hrun : (execOp a.eval o).run Tryd.prog w = .ok (.value (.pointer (some ⟨w.heap.size, 0, none⟩))) (w.alloc (.cells #[.int .u64 0, .int .u64 0] 26)) := by
    simp [execOp, ho, go_sem]
  rw [hrun]
  exact h _ _ rfl ((Below.refl _ w).alloc (Nat.le_refl _) _) (SetVar.new w 0 _)
/-- A store of a set into a variable. -/
theorem step_store_set (hwant : Region.wanted o (yielded ops a.tmps) = true) (hd : o.dst = none) (x y : Operand) (ho : o.op = .store 26 x y) (p : Nat) (s t : VS) (hx : a.eval x = .pointer (some ⟨p, 0, none⟩)) (hy : a.eval y = encS s) (hv : SetVar w p t)
    (h : ∀ w', w.grownBy w' (some p) → w'.heap.size = w.heap.size → SetVar w' p s → K a w') :
    if Region.wanted o (yielded ops a.tmps) = true then Oper.wp Tryd.prog o a w K Q else E := by
  rw [if_pos hwant]
  unfold Oper.wp
  obtain ⟨c0, c1, f0, f1⟩ := hv.cells
  have hrun : (execOp a.eval o).run Tryd.prog w = .ok .skip ((w.setCell ⟨p, 0, none⟩ (.int .u64 ((lw s).toNat : Int))).setCell ⟨p, 1, none⟩ (.int .u64 ((hw s).toNat : Int))) := by
    generalize a.eval = ev at hx hy ⊢
    simp [execOp, ho, hx, hy, go_sem, c0, c1, f0, f1]
  rw [hrun]
  have := h ((w.setCell ⟨p, 0, none⟩ (.int .u64 ((lw s).toNat : Int))).setCell ⟨p, 1, none⟩ (.int .u64 ((hw s).toNat : Int))) ⟨rfl, rfl, rfl, by simp [World.setCell], fun k hk hne => by
    rw [Below.heap_setCell _ _ _ _ (by intro e; exact hne (by rw [e])), Below.heap_setCell _ _ _ _ (by intro e; exact hne (by rw [e]))]⟩ (by simp [World.setCell]) (hv.store s)
  show K (a.put o.dst undef) _
  rw [hd]; exact this
/-- A new list of numbers. -/
theorem step_made (hwant : Region.wanted o (yielded ops a.tmps) = true) (l : List Int) (T : Nat) (hl : l ≠ [])
    (hrun : (execOp a.eval o).run Tryd.prog w = .ok (.value (.slice (some ⟨w.heap.size, 0, none⟩) l.length l.length)) (w.alloc (.cells (l.map (Value.int .i64)).toArray T)))
    (h : ∀ p w', p = w.heap.size → Below w.heap.size w w' → IntsAt w' (.slice (some ⟨p, 0, none⟩) l.length l.length) l → K (a.put o.dst (.slice (some ⟨p, 0, none⟩) l.length l.length)) w') :
    if Region.wanted o (yielded ops a.tmps) = true then Oper.wp Tryd.prog o a w K Q else E := by
  rw [if_pos hwant]
  unfold Oper.wp
  rw [hrun]
  refine h _ _ rfl ((Below.refl _ w).alloc (Nat.le_refl _) _) ?_
  refine ⟨_, _, rfl, .inr ⟨w.heap.size, 0, rfl, fun i hi => ?_⟩⟩
  rw [World.cell?, show (w.alloc (.cells (l.map (Value.int .i64)).toArray T)).heap[w.heap.size]? = _ from heap_alloc_new w _]
  simp [hi]
end
end Go.Proofs.YthckmpdnkinmlaaDoor
