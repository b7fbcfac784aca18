/- A region that draws its order, whose operations read memory that was there and call functions that leave memory that was there as it was: one walk in the order of the text. -/
import Derived.WalkKit
import Derived.BigQuiet
import Derived.Deep.QuietTactic
namespace Go.Proofs.YtpdbfbjfodckgaaDoor
open Go.RowKit

/-- More blocks, and draws. -/
structure Ext where
  more : Array Obj
  draws : Nat
instance : Nonempty Ext := ⟨⟨#[], 0⟩⟩
def ext (w : World) (x : Ext) : World := { w with heap := w.heap ++ x.more, drawn := x.draws }
theorem ext_heap {w : World} {x : Ext} {k : Nat} (h : k < w.heap.size) : (ext w x).heap[k]? = w.heap[k]? := by
  show (w.heap ++ x.more)[k]? = _
  rw [Array.getElem?_append_left h]
@[go_sem] theorem cell?_ext {w : World} {x : Ext} {a : Addr} (h : a.block < w.heap.size) : (ext w x).cell? a = w.cell? a := World.cell?_of_block (w := w) (ext_heap h)
@[go_sem] theorem frozen?_ext {w : World} {x : Ext} {a : Addr} (h : a.block < w.heap.size) : (ext w x).frozen? a = w.frozen? a := World.frozen?_of_block (w := w) (ext_heap h)
theorem ext_below (w : World) (x : Ext) : Below w.heap.size w (ext w x) := ⟨rfl, rfl, rfl, by simp [ext], fun _ h => ext_heap h⟩
theorem ext_of_below {w w' : World} (h : Below w.heap.size w w') : ∃ x, w' = ext w x := by
  refine ⟨⟨w'.heap.extract w.heap.size w'.heap.size, w'.drawn⟩, ?_⟩
  obtain ⟨h1, h2, h3, h4, h5⟩ := h
  have : w'.heap = w.heap ++ w'.heap.extract w.heap.size w'.heap.size := by
    apply Array.ext_getElem?
    intro i
    by_cases hi : i < w.heap.size
    · rw [h5 i hi, Array.getElem?_append_left hi]
    · rw [Array.getElem?_append_right (by omega), Array.getElem?_extract]
      split
      · congr 1; omega
      · rw [Array.getElem?_eq_none (by omega)]
  cases w'; cases w
  simp only [ext] at *
  subst h1 h2 h3
  congr 1
/-- A callee's contract, met in a world of the class. -/
theorem Calls.ext_of {P : Program} {f : FuncId} {args : Array Value} {w : World} {x : Ext} {v : Value}
    (h : Calls P f args (ext w x) fun e w' => e = .returned v ∧ Below (ext w x).heap.size (ext w x) w') : Calls P f args (ext w x) fun e w'' => e = .returned v ∧ ∃ y, w'' = ext w y :=
  h.mono fun _ _ ⟨he, hb⟩ => ⟨he, ext_of_below ((ext_below w x).trans (hb.mono (ext_below w x).size))⟩
theorem Calls.ext_same {P : Program} {f : FuncId} {args : Array Value} {w : World} {x : Ext} {v : Value}
    (h : Calls P f args (ext w x) fun e w' => e = .returned v ∧ ext w x = w') : Calls P f args (ext w x) fun e w'' => e = .returned v ∧ ∃ y, w'' = ext w y :=
  h.mono fun _ _ ⟨he, hb⟩ => ⟨he, x, hb.symm⟩
theorem wp_region_pure {P : Program} {id : Nat} {Q : Exit → Act → World → Prop} {a : Act} {w : World} {l : List Oper} (hm : P.follows .mixedOrders = true) (hB : Region.lexB .any l.toArray = true)
    (h : wpQuiet P l.toArray (fun w' => ∃ x, w' = ext w x) (fun a' => ∀ w', Below w.heap.size w w' → Q .normal a' w') l a) : (Code.region id l.toArray true).wp P Q a w := by
  refine wp_region_quiet (C := fun w' => ∃ x, w' = ext w x) hm hB (ext_of_below ⟨rfl, rfl, rfl, Nat.le_refl _, fun _ _ => rfl⟩) ?_
  have mono : ∀ (l : List Oper) (a : Act) (ops : Array Oper), wpQuiet P ops (fun w' => ∃ x, w' = ext w x) (fun a' => ∀ w', Below w.heap.size w w' → Q .normal a' w') l a →
      wpQuiet P ops (fun w' => ∃ x, w' = ext w x) (fun a' => ∀ w', (∃ x, w' = ext w x) → Q .normal a' w') l a := by
    intro l
    induction l with
    | nil => intro a ops h w' ⟨x, hx⟩; subst hx; exact h _ (ext_below w x)
    | cons o rest ih =>
      intro a ops h
      unfold wpQuiet at h ⊢
      split
      · rename_i hw; rw [if_pos hw] at h; exact Oper.quiet_mono (fun a h => ih a ops h) h
      · rename_i hw; rw [if_neg hw] at h; exact ih _ _ h
  exact mono l a _ h
end Go.Proofs.YtpdbfbjfodckgaaDoor
