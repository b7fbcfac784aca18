/- Words for memory: the reference's reader; the reader of numbers by cases, and where it is bad already. -/
import Derived.Test.YtkfmblpcfgdgpaaGNum
namespace Go.Proofs.Ytkfmblpcfgdgpaa
open Go.RowKit

structure RRdr (B : Nat) (w : World) (px : Nat) (v : Value) (l : List UInt8) (a : Nat) (bad : Bool) : Prop where
  bytes : BytesAt w v l
  box : RdBox w px v a bad
  far : ∀ x n c, v = .slice (some x) n c → x.block ≠ px ∧ x.block < B
  le : a ≤ l.length
  len : l.length ≤ 140737488355328
  lx : px < B
theorem RRdr.kept {B : Nat} {w w' : World} {px : Nat} {v : Value} {l : List UInt8} {a : Nat} {bad : Bool} {row : Option Nat} (h : RRdr B w px v l a bad) (hg : w.grownBy w' row) (hrow : ∀ k, row = some k → B ≤ k) : RRdr B w' px v l a bad :=
  ⟨h.bytes.kept hg (fun x n c e1 e2 => by have := (h.far x n c e1).2; have := hrow _ e2.symm; omega), (hg.block px (box_lt h.box) (fun e => by have := hrow _ e.symm; have := h.lx; omega)).trans h.box, h.far, h.le, h.len, h.lx⟩
theorem RRdr.below {B : Nat} {w w' : World} {px : Nat} {v : Value} {l : List UInt8} {a : Nat} {bad : Bool} (h : RRdr B w px v l a bad) (hb : Below w.heap.size w w') : RRdr B w' px v l a bad :=
  h.kept (grownBy_of_below hb none) (by simp)
theorem RRdr.low {B : Nat} {w w' : World} {px : Nat} {v : Value} {l : List UInt8} {a : Nat} {bad : Bool} (h : RRdr B w px v l a bad) (hb : Below B w w') : RRdr B w' px v l a bad := by
  refine ⟨?_, (hb.block _ h.lx).trans h.box, h.far, h.le, h.len, h.lx⟩
  obtain ⟨p, c, rfl, hp⟩ := h.bytes
  refine ⟨p, c, rfl, ?_⟩
  rcases hp with hp | ⟨b, off, rfl, hp⟩
  · exact .inl hp
  · refine .inr ⟨b, off, rfl, fun i hi => ?_⟩
    rw [World.cell?_of_block (w := w) (hb.block b (h.far _ _ _ rfl).2)]
    exact hp i hi
theorem RRdr.mono {B B' : Nat} {w : World} {px : Nat} {v : Value} {l : List UInt8} {a : Nat} {bad : Bool} (h : RRdr B w px v l a bad) (hb : B ≤ B') : RRdr B' w px v l a bad :=
  ⟨h.bytes, h.box, fun x n c e => ⟨(h.far x n c e).1, Nat.lt_of_lt_of_le (h.far x n c e).2 hb⟩, h.le, h.len, Nat.lt_of_lt_of_le h.lx hb⟩
theorem RRdr.next {B : Nat} {w w' : World} {px : Nat} {v : Value} {l : List UInt8} {a a' : Nat} {bad bad' : Bool} (h : RRdr B w px v l a bad) (hat : RSt w w' px v a' bad') (hle : a' ≤ l.length) : RRdr B w' px v l a' bad' :=
  ⟨h.bytes.kept hat.grew (fun x n c e1 e2 => (h.far x n c e1).1 (by simpa using e2)), hat.box, h.far, hle, h.len, h.lx⟩
theorem RRdr.other {B : Nat} {w w' : World} {px : Nat} {v : Value} {l : List UInt8} {a k : Nat} {bad : Bool} (h : RRdr B w px v l a bad) (hg : w.grownBy w' (some k)) (h1 : k ≠ px) (h3 : ∀ x n c, v = .slice (some x) n c → x.block ≠ k) : RRdr B w' px v l a bad :=
  ⟨h.bytes.kept hg (fun x n c e1 e2 => h3 x n c e1 (by simpa using e2)), (hg.block px (box_lt h.box) (by simpa using Ne.symm h1)).trans h.box, h.far, h.le, h.len, h.lx⟩
theorem RSt.after {w w1 w2 : World} {px : Nat} {v : Value} {a : Nat} {bad : Bool} (hb : Below w.heap.size w w1) (h : RSt w1 w2 px v a bad) : RSt w w2 px v a bad := ⟨h.box, grownBy_trans (grownBy_of_below hb _) h.grew⟩
theorem RSt.low {w w1 w2 : World} {px : Nat} {v : Value} {a : Nat} {bad : Bool} (h : RSt w w1 px v a bad) (hb : Below w.heap.size w1 w2) (hp : px < w.heap.size) : RSt w w2 px v a bad :=
  ⟨(hb.block px hp).trans h.box, ⟨hb.os.trans h.grew.os, hb.tape.trans h.grew.tape, hb.output.trans h.grew.output, Nat.le_trans h.grew.size hb.size, fun k hk hne => (hb.block k hk).trans (h.grew.block k hk hne)⟩⟩
theorem rnum_some {most : Nat} (hm : most ≤ 16777216) {B : Nat} {w : World} {px : Nat} {v : Value} {l : List UInt8} {a : Nat} (h : RRdr B w px v l a false) {n : Nat} {r : List UInt8} (hr : rd most 0 0 (l.drop a) = some (n, r)) :
    Calls Try.prog 42 #[.pointer (some ⟨px, 0, none⟩), .int .i64 most] w fun e w' => e = .returned (.int .i64 (n : Int)) ∧ ∃ a', r = l.drop a' ∧ a ≤ a' ∧ a' ≤ l.length ∧ RSt w w' px v a' false :=
  (rnumber_c most hm a l v px w h.bytes h.len h.le h.box (fun b n c e => (h.far b n c e).1)).mono fun e w' hp => by
    unfold RnPost at hp
    rw [hr] at hp
    obtain ⟨a', h1, h2, h3, h4, h5⟩ := hp
    exact ⟨h4, a', h1, h2, h3, h5⟩
theorem rnum_none {most : Nat} (hm : most ≤ 16777216) {B : Nat} {w : World} {px : Nat} {v : Value} {l : List UInt8} {a : Nat} (h : RRdr B w px v l a false) (hr : rd most 0 0 (l.drop a) = none) :
    Calls Try.prog 42 #[.pointer (some ⟨px, 0, none⟩), .int .i64 most] w fun e w' => e = .returned (.int .i64 0) ∧ ∃ a', a' ≤ l.length ∧ RSt w w' px v a' true :=
  (rnumber_c most hm a l v px w h.bytes h.len h.le h.box (fun b n c e => (h.far b n c e).1)).mono fun e w' hp => by
    unfold RnPost at hp
    rw [hr] at hp
    obtain ⟨a', h1, h2, h3⟩ := hp
    exact ⟨h2, a', h1, h3⟩
set_option maxRecDepth 100000 in
set_option maxHeartbeats 1000000 in
theorem rnum_bad (most : Nat) {B : Nat} {w : World} {px : Nat} {v : Value} {l : List UInt8} {a : Nat} (h : RRdr B w px v l a true) :
    Calls Try.prog 42 #[.pointer (some ⟨px, 0, none⟩), .int .i64 most] w fun e w' => e = .returned (.int .i64 0) ∧ RSt w w' px v a true := by
  have hst := hid (RSt.refl h.box)
  have hbx := h.box
  obtain ⟨p, c, rfl, _⟩ := h.bytes
  obtain ⟨⟨b0, b1, b2⟩, f0, f1, f2⟩ := box3 hbx
  clear h hbx
  go_enter Try.func42, Try.ntmps42
  go_wp2_with fail
  refine wp_loop_rounds 1 ?_
  rw [rounds_succ]
  go_wp2_with fail
  go_quiet (fail)
  go_wp2_with fail
  go_ret
  exact ⟨rfl, (hst.out.drewN _).setBad true⟩
end Go.Proofs.Ytkfmblpcfgdgpaa
