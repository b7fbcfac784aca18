/- Walks: the writer of nodes. -/
import Derived.Test.YtkfmblpcfgdgpaaFWrite
import Derived.Test.YtkfmblpcfgdgpaaFCode2
import Derived.Test.YtkfmblpcfgdgpaaNSame
namespace Go.Proofs.Ytkfmblpcfgdgpaa
open Go.RowKit

theorem KeepsT.cell {w w' : World} {pw : Nat} (h : KeepsT w w' pw) {k : Nat} {cs : Array Value} {t : TypeId} {fr : Nat × Nat} (hk : w.heap[k]? = some (.cells cs t fr)) (ht : t ≠ 5) (hp : k ≠ pw) (j : Nat) : w'.cell? ⟨k, j, none⟩ = cs[j]? := by
  have := h k cs t fr hk ht hp
  simp [World.cell?, this]
/-- What the writer's world is like with the node's variable. -/
structure NodeStart (w w0 : World) (base pw : Nat) (l : List UInt8) (xk xl : Int) (v : Value) : Prop where
  hB0 : Below base w w0
  hx : w0.heap[w.heap.size]? = some (.cells #[.int .i64 xk, .int .i64 xl, v] 46 (0, 0))
  hK0 : KeepsT w w0 pw
  hpw : w.heap.size ≠ pw
  hW0 : Wr w0 base pw l
  hs : base ≤ w0.heap.size
theorem node_start {w : World} {base pw : Nat} {l : List UInt8} (xk xl : Int) (v : Value) (h : Wr w base pw l) (hb : base ≤ w.heap.size) :
    NodeStart w (w.alloc (.cells #[.int .i64 xk, .int .i64 xl, v] 46)) base pw l xk xl v := by
  have hB0 : Below base w (w.alloc (.cells #[.int .i64 xk, .int .i64 xl, v] 46)) := (Below.refl _ w).alloc hb _
  refine ⟨hB0, heap_alloc_new w _, fun k cs t fr e _ _ => ?_, ?_, ?_, Nat.le_trans hb hB0.size⟩
  · have hlt : k < w.heap.size := (Array.getElem?_eq_some_iff.1 e).1
    show (w.heap.push _)[k]? = _
    rw [Array.getElem?_push]; simp [e]; omega
  · obtain ⟨u, hu, _⟩ := h; have := hu.lt; omega
  · obtain ⟨u, hu, hr, hp⟩ := h
    exact ⟨u, hu.alloc _, hr.alloc _, hp⟩
structure NodeCells (w w1 : World) (base pw : Nat) (xk xl : Int) (v : Value) : Prop where
  c0 : w1.cell? ⟨w.heap.size, 0, none⟩ = some (.int .i64 xk)
  c1 : w1.cell? ⟨w.heap.size, 1, none⟩ = some (.int .i64 xl)
  c2 : w1.cell? ⟨w.heap.size, 2, none⟩ = some v
  hB : Below base w w1
  hs : base ≤ w1.heap.size
  hK : KeepsT w w1 pw
theorem NodeStart.cells {w w0 w1 : World} {base pw : Nat} {l : List UInt8} {xk xl : Int} {v : Value} (h : NodeStart w w0 base pw l xk xl v) (hB : Below base w0 w1) (hK : KeepsT w0 w1 pw) : NodeCells w w1 base pw xk xl v :=
  ⟨hK.cell h.hx (by decide) h.hpw 0, hK.cell h.hx (by decide) h.hpw 1, hK.cell h.hx (by decide) h.hpw 2, h.hB0.trans hB, Nat.le_trans h.hs hB.size, h.hK0.trans hK⟩
/-- The post of the writer of nodes. -/
def WrPost (w : World) (base pw : Nat) (l : List UInt8) (e : Ending) (w' : World) : Prop := e = .returned (.tuple #[]) ∧ Wr w' base pw l ∧ Below base w w' ∧ KeepsT w w' pw
set_option maxRecDepth 100000 in
set_option maxHeartbeats 1000000 in
theorem wnode0_c (i : Nat) (kn : Nat) (hk : kn = 0 ∨ kn = 1) (xl : Int) (v : Value) (base pw : Nat) (l : List UInt8) (w : World) (h : Wr w base pw l)
    (hl : l.length ≤ 70368744177000) (hb : base ≤ w.heap.size) :
    Calls Try.prog 30 #[.pointer (some ⟨pw, 0, none⟩), .int .i64 i, .agg #[.int .i64 (kn : Int), .int .i64 xl, v]] w (WrPost w base pw (l ++ encNum kn)) := by
  have hst := node_start (kn : Int) xl v h hb
  go_enter Try.func30, Try.ntmps30
  go_wp2_with fail
  generalize w.alloc (.cells #[.int .i64 (kn : Int), .int .i64 xl, v] 46) = w0 at *
  refine (number_c kn (by omega) base pw l w0 hst.hW0 (by omega) hst.hs).mono ?_
  rintro e w1 ⟨rfl, hW1, hB1, hK1⟩
  obtain ⟨c0, c1, c2, hB, hs, hK⟩ := hst.cells hB1 hK1
  obtain rfl | rfl := hk
  · go_wp2_with fail
    go_end0
    exact ⟨rfl, hW1, hB, hK⟩
  · go_wp2_with fail
    go_end0
    exact ⟨rfl, hW1, hB, hK⟩
set_option maxRecDepth 100000 in
set_option maxHeartbeats 1000000 in
theorem wnode2_c (i : Nat) (xl : Int) (_r0 : xl ≠ 0) (r1 : -128 ≤ xl) (r2 : xl ≤ 128) (v : Value) (base pw : Nat) (l : List UInt8) (w : World) (h : Wr w base pw l)
    (hl : l.length ≤ 70368744177000) (hb : base ≤ w.heap.size) :
    Calls Try.prog 30 #[.pointer (some ⟨pw, 0, none⟩), .int .i64 i, .agg #[.int .i64 2, .int .i64 xl, v]] w (WrPost w base pw (l ++ encNum 2 ++ encNum (litCode xl))) := by
  have hst := node_start 2 xl v h hb
  have hcode : litCode xl ≤ 257 := litCode_le ⟨r1, r2⟩
  have hlen : (l ++ encNum 2).length ≤ 70368744177664 := by rw [encNum_lt (by omega)]; simp; omega
  have key : ∀ w1, Wr w1 base pw (l ++ encNum 2) → base ≤ w1.heap.size → Calls Try.prog 29 #[.pointer (some ⟨pw, 0, none⟩), .int .i64 (if 0 < xl then 2 * xl else 1 - 2 * xl)] w1 fun e w' => e = .returned (.tuple #[]) ∧ Wr w' base pw (l ++ encNum 2 ++ encNum (litCode xl)) ∧ Below base w1 w' ∧ KeepsT w1 w' pw := by
    intro w1 hW hs
    have e : (if 0 < xl then 2 * xl else 1 - 2 * xl) = ((litCode xl : Nat) : Int) := by unfold litCode; split <;> omega
    rw [e]
    exact number_c (litCode xl) (by omega) base pw _ w1 hW hlen hs
  clear hcode hlen
  have HK := hid key
  clear key
  go_enter Try.func30, Try.ntmps30
  go_wp2_with fail
  generalize w.alloc (.cells #[.int .i64 2, .int .i64 xl, v] 46) = w0 at *
  refine (number_c 2 (by omega) base pw l w0 hst.hW0 (by omega) hst.hs).mono ?_
  rintro e w1 ⟨rfl, hW1, hB1, hK1⟩
  obtain ⟨c0, c1, c2, hB, hs, hK⟩ := hst.cells hB1 hK1
  by_cases hpos : 0 < xl
  · have hm : 1 - 2 * xl ≤ 2 * xl := by omega
    have hm2 : ¬ (2 * xl < 1 - 2 * xl) := by omega
    have key := HK.out w1 hW1 hs
    rw [if_pos hpos] at key
    have HK2 := hid key
    clear HK key
    go_wp2_with fail
    refine HK2.out.mono ?_
    rintro e w2 ⟨rfl, hW2, hB2, hK2⟩
    go_wp2_with fail
    go_end0
    exact ⟨rfl, hW2, hB.trans hB2, hK.trans hK2⟩
  · have hm : 2 * xl < 1 - 2 * xl := by omega
    have hm2 : ¬ (1 - 2 * xl ≤ 2 * xl) := by omega
    have key := HK.out w1 hW1 hs
    rw [if_neg hpos] at key
    have HK2 := hid key
    clear HK key
    go_wp2_with fail
    refine HK2.out.mono ?_
    rintro e w2 ⟨rfl, hW2, hB2, hK2⟩
    go_wp2_with fail
    go_end0
    exact ⟨rfl, hW2, hB.trans hB2, hK.trans hK2⟩
end Go.Proofs.Ytkfmblpcfgdgpaa
