/- Words for memory: a slice of numbers that is read, a variable that holds a set. -/
import Derived.Test.YtpdbfbjfodckgaaDoorVWalk
namespace Go.Proofs.YtpdbfbjfodckgaaDoor
open Go.RowKit

theorem hid {p : Prop} (h : p) : Hid p := h
/-- The slice value v reads as the numbers l. -/
def IntsAt (w : World) (v : Value) (l : List Int) : Prop :=
  ∃ p c, v = .slice p l.length c ∧ (l = [] ∨ ∃ b off, p = some ⟨b, off, none⟩ ∧ ∀ i, i < l.length → w.cell? ⟨b, off + i, none⟩ = some (.int .i64 (l[i]?.getD 0)))
theorem cell_lt {w : World} {a : Addr} {v : Value} (h : w.cell? a = some v) : a.block < w.heap.size := World.block_lt_of_cell? w a h
theorem IntsAt.below {w w' : World} {v : Value} {l : List Int} (h : IntsAt w v l) (hb : Below w.heap.size w w') : IntsAt w' v l := by
  obtain ⟨p, c, rfl, h⟩ := h
  refine ⟨p, c, rfl, ?_⟩
  rcases h with h | ⟨b, off, rfl, h⟩
  · exact .inl h
  · refine .inr ⟨b, off, rfl, fun i hi => ?_⟩
    rw [hb.cell (cell_lt (h i hi))]
    exact h i hi

/-- The block b is a variable that holds the set s. -/
def SetVar (w : World) (b : Nat) (s : VS) : Prop := ∃ T, w.heap[b]? = some (.cells #[.int .u64 ((lw s).toNat : Int), .int .u64 ((hw s).toNat : Int)] T (0, 0))
theorem SetVar.lt {w : World} {b : Nat} {s : VS} (h : SetVar w b s) : b < w.heap.size := by
  obtain ⟨T, h⟩ := h; exact (Array.getElem?_eq_some_iff.1 h).1
theorem SetVar.cells {w : World} {b : Nat} {s : VS} (h : SetVar w b s) :
    w.cell? ⟨b, 0, none⟩ = some (.int .u64 ((lw s).toNat : Int)) ∧ w.cell? ⟨b, 1, none⟩ = some (.int .u64 ((hw s).toNat : Int)) ∧
    w.frozen? ⟨b, 0, none⟩ = false ∧ w.frozen? ⟨b, 1, none⟩ = false := by
  obtain ⟨T, h⟩ := h
  simp [World.cell?, World.frozen?, h]
theorem SetVar.below {w w' : World} {b B : Nat} {s : VS} (h : SetVar w b s) (hb : Below B w w') (hB : b < B) : SetVar w' b s := by
  obtain ⟨T, h⟩ := h; exact ⟨T, (hb.block b hB).trans h⟩
theorem SetVar.store {w : World} {b : Nat} {s : VS} (t : VS) (h : SetVar w b s) :
    SetVar ((w.setCell ⟨b, 0, none⟩ (.int .u64 ((lw t).toNat : Int))).setCell ⟨b, 1, none⟩ (.int .u64 ((hw t).toNat : Int))) b t := by
  obtain ⟨T, h⟩ := h
  refine ⟨T, ?_⟩
  simp [World.setCell, Array.getElem?_modify, h]
theorem SetVar.store0 {w : World} {b : Nat} {s : VS} (t : VS) (h : SetVar w b s) (ht : hw t = hw s) : SetVar (w.setCell ⟨b, 0, none⟩ (.int .u64 ((lw t).toNat : Int))) b t := by
  obtain ⟨T, h⟩ := h
  refine ⟨T, ?_⟩
  simp [World.setCell, Array.getElem?_modify, h, ht]
theorem SetVar.store1 {w : World} {b : Nat} {s : VS} (t : VS) (h : SetVar w b s) (ht : lw t = lw s) : SetVar (w.setCell ⟨b, 1, none⟩ (.int .u64 ((hw t).toNat : Int))) b t := by
  obtain ⟨T, h⟩ := h
  refine ⟨T, ?_⟩
  simp [World.setCell, Array.getElem?_modify, h, ht]
theorem SetVar.other {w : World} {b : Nat} {s : VS} (h : SetVar w b s) {a : Addr} (ha : b ≠ a.block) (v : Value) : SetVar (w.setCell a v) b s := by
  obtain ⟨T, h⟩ := h
  exact ⟨T, (Below.heap_setCell _ _ _ _ ha).trans h⟩
theorem SetVar.alloc {w : World} {b : Nat} {s : VS} (h : SetVar w b s) (o : Obj) : SetVar (w.alloc o) b s := by
  have := h.lt
  obtain ⟨T, h⟩ := h
  exact ⟨T, (Below.heap_alloc _ _ _ this).trans h⟩
theorem SetVar.new (w : World) (s : VS) (T : Nat) : SetVar (w.alloc (.cells #[.int .u64 ((lw s).toNat : Int), .int .u64 ((hw s).toNat : Int)] T (0, 0))) w.heap.size s :=
  ⟨T, heap_alloc_new w _⟩
/-- A function whose result is a variable of a set. -/
theorem results_set {fn : Func} {tmps : Array Value} {w : World} {t b : Nat} {s : VS} (hr : fn.results = #[.cell t 42]) (ht : tmps.getD t undef = .pointer (some ⟨b, 0, none⟩)) (h : SetVar w b s) :
    (results fn tmps).run Tryd.prog w = .ok (encS s) w := by
  obtain ⟨s0, s1, _, _⟩ := h.cells
  simp only [Array.getD_eq_getD_getElem?] at ht
  simp [results, hr, ht, go_sem, s0, s1]
theorem below_drewN {B : Nat} {a w : World} (h : Below B a w) (n : Nat) : Below B a (w.drewN n) := ⟨h.os, h.tape, h.output, h.size, h.block⟩
end Go.Proofs.YtpdbfbjfodckgaaDoor
