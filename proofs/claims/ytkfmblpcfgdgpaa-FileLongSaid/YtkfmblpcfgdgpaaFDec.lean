/- Walks: what Decode defers, and how it leaves. -/
import Derived.Test.YtkfmblpcfgdgpaaFOne3
import Derived.Test.YtkfmblpcfgdgpaaFCode4
import Derived.Defers
import Derived.Recover
namespace Go.Proofs.Ytkfmblpcfgdgpaa
open Go.RowKit

/-- The results' variables of Decode. -/
structure Outs (w : World) (pn pe : Nat) (n : Int) (v : Value) (e : Int) : Prop where
  n : w.heap[pn]? = some (.cells #[.int .i64 n, v] 24 (0, 0))
  e : Boxed w pe 29 (.int .i64 e)
theorem box2 {w : World} {b : Nat} {x y : Value} {t : TypeId} (h : w.heap[b]? = some (.cells #[x, y] t (0, 0))) :
    (w.cell? ⟨b, 0, none⟩ = some x ∧ w.cell? ⟨b, 1, none⟩ = some y) ∧ (w.frozen? ⟨b, 0, none⟩ = false ∧ w.frozen? ⟨b, 1, none⟩ = false) := by
  refine ⟨⟨?_, ?_⟩, ?_, ?_⟩ <;> simp [World.cell?, World.frozen?, h]
/-- The world behind a failure. -/
def failed (w : World) (pn pe : Nat) (e : Int) : World := ((w.setCell ⟨pn, 0, none⟩ (.int .i64 0)).setCell ⟨pn, 1, none⟩ (.slice none 0 0)).setCell ⟨pe, 0, none⟩ (.int .i64 e)
theorem Outs.failed {w : World} {pn pe : Nat} {n : Int} {v : Value} {e : Int} (h : Outs w pn pe n v e) (hne : pn ≠ pe) (e' : Int) : Outs (failed w pn pe e') pn pe 0 (.slice none 0 0) e' := by
  have h1 := block_set h.n (.int .i64 0) 0
  have h2 := block_set h1 (.slice none 0 0) 1
  have e1 : ((w.setCell ⟨pn, 0, none⟩ (.int .i64 0)).setCell ⟨pn, 1, none⟩ (.slice none 0 0)).heap[pe]? = w.heap[pe]? := by
    rw [Below.heap_setCell _ _ _ _ (by exact Ne.symm hne), Below.heap_setCell _ _ _ _ (by exact Ne.symm hne)]
  have h3 : Boxed ((w.setCell ⟨pn, 0, none⟩ (.int .i64 0)).setCell ⟨pn, 1, none⟩ (.slice none 0 0)) pe 29 (.int .i64 e) := e1.trans h.e
  refine ⟨?_, h3.set _⟩
  unfold Go.Proofs.Ytkfmblpcfgdgpaa.failed
  rw [Below.heap_setCell _ _ _ _ (by exact hne)]
  simpa using h2
theorem below_failed {B : Nat} {w : World} {pn pe : Nat} (h1 : B ≤ pn) (h2 : B ≤ pe) (e : Int) : Below B w (failed w pn pe e) :=
  (((Below.refl B w).setCell (p := ⟨pn, 0, none⟩) h1 _).setCell (p := ⟨pn, 1, none⟩) h1 _).setCell (p := ⟨pe, 0, none⟩) h2 _
theorem dcatch (pn pe : Nat) (n : Int) (v : Value) (e0 : Int) (u : TypeId) (pv : Value) (older : List PanicEntry) (w : World) (ho : Outs w pn pe n v e0) (hne : pn ≠ pe) :
    CallsD Try.prog 38 #[.pointer (some ⟨pn, 0, none⟩), .pointer (some ⟨pe, 0, none⟩)] (.panicking ({ v := .iface u pv, recovered := false } :: older)) w fun e u' w' =>
      e = .returned (.tuple #[]) ∧ u' = .panicking ({ v := .iface u pv, recovered := true } :: older) ∧ w' = failed w pn pe 5 := by
  obtain ⟨⟨c0, c1⟩, f0, f1⟩ := box2 ho.n
  have d0 := ho.e.cell
  have g0 := ho.e.frozen
  refine callsD_of_wpS Try.func38 rfl fun c₀ cs hu => ?_
  apply wpS_seq
  apply wpS_region
  simp [wpOpsS, go_sem, recoverD, hu, Try.ntmps38, Exit.thenS]
  apply wpS_seq
  apply wpS_region
  simp [wpOpsS, go_sem, Exit.thenS]
  refine wpS_cond (t := true) (by simp [Act.eval, Array.replicate]) ?_
  simp only [if_true]
  apply wpS_region
  simp [wpOpsS, go_sem, c0, c1, f0, f1, d0, g0, bodyPostS, results, Try.results38]
  rfl
theorem didle (pn pe : Nat) (w : World) :
    CallsD Try.prog 38 #[.pointer (some ⟨pn, 0, none⟩), .pointer (some ⟨pe, 0, none⟩)] .returning w fun e u' w' => e = .returned (.tuple #[]) ∧ u' = .returning ∧ w' = w := by
  refine callsD_of_wpS Try.func38 rfl fun c₀ cs hu => ?_
  apply wpS_seq
  apply wpS_region
  simp [wpOpsS, go_sem, recoverD, hu, Try.ntmps38, Exit.thenS]
  apply wpS_seq
  apply wpS_region
  simp [wpOpsS, go_sem, Exit.thenS]
  refine wpS_cond (t := false) (by simp [Act.eval, Array.replicate]) ?_
  simp only [Bool.false_eq_true, if_false]
  refine wpS_of_wp (wp_skip ?_)
  cases c₀
  simp_all [bodyPostS, results, Try.results38]
theorem numbers_c (p : Option Addr) (n c : Nat) (a : Nat) (w : World) :
    Calls Try.prog 39 #[.slice p n c, .int .i64 a] w fun e w' => e = .returned (.tuple #[.func (.func 49) #[] #[.pointer (some ⟨w.heap.size + 1, 0, none⟩), .pointer (some ⟨w.heap.size, 0, none⟩)], .func (.func 50) #[] #[.pointer (some ⟨w.heap.size + 1, 0, none⟩)]]) ∧ w' = (w.alloc (.cells #[.slice p n c] 28)).alloc (.cells #[.int .i64 a] 3) := by
  have hmf : ∀ (fn : Fn) (first cap : Array Value) (w : World), (Instr.makeFunc fn first cap).run Try.prog w = .ok (.func fn first cap) w := fun _ _ _ _ => rfl
  go_enter Try.func39, Try.ntmps39
  go_wp2
  go_ret2
  exact ⟨rfl, rfl⟩
theorem read_c (pa a : Nat) (w : World) (h : Boxed w pa 3 (.int .i64 (a : Int))) :
    Calls Try.prog 50 #[.pointer (some ⟨pa, 0, none⟩)] w fun e w' => e = .returned (.int .i64 (a : Int)) ∧ w = w' := by
  have c0 := h.cell
  go_enter Try.func50, Try.ntmps50
  go_wp2
  go_ret
  exact ⟨rfl, rfl⟩
end Go.Proofs.Ytkfmblpcfgdgpaa
