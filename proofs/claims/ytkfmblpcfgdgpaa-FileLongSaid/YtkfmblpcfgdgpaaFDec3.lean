/- Walks: Decode. -/
import Derived.Test.YtkfmblpcfgdgpaaFDec2
import Derived.Test.YtkfmblpcfgdgpaaFEnc2
namespace Go.Proofs.Ytkfmblpcfgdgpaa
open Go.RowKit

/-- The post of Decode. -/
def DecPost (b : List UInt8) (w : World) (e : Ending) (w' : World) : Prop :=
  ∃ v vs, e = .returned (.tuple #[.agg #[.int .i64 (decNet b).n, v], .int .i64 (decNo b)]) ∧ OwnNodes w' w.heap.size v (decNet b).l vs ∧ Below w.heap.size w w'
theorem decPost_no {b : List UInt8} {w w' : World} {n : Int} (h : decNo b = n ∧ decNet b = noNet) (hB : Below w.heap.size w w') : DecPost b w (.returned (.tuple #[.agg #[.int .i64 0, .slice none 0 0], .int .i64 n])) w' :=
  ⟨.slice none 0 0, [], by rw [h.1, h.2]; rfl, by rw [h.2]; exact own_nodes_nil _ _, hB⟩
theorem results_dec {fn : Func} {tmps : Array Value} {w : World} {t s pn pe : Nat} {n e : Int} {v : Value} (hr : fn.results = #[.cell t 24, .cell s 29]) (ht : tmps.getD t undef = .pointer (some ⟨pn, 0, none⟩)) (hs : tmps.getD s undef = .pointer (some ⟨pe, 0, none⟩)) (h : Outs w pn pe n v e) :
    (results fn tmps).run Try.prog w = .ok (.tuple #[.agg #[.int .i64 n, v], .int .i64 e]) w := by
  obtain ⟨⟨c0, c1⟩, _⟩ := box2 h.n
  have d0 := h.e.cell
  simp only [Array.getD_eq_getD_getElem?] at ht hs
  simp [results, hr, ht, hs, go_sem, c0, c1, d0]
/-- It leaves with nothing deferred. -/
theorem dec_out0 {tmps : Array Value} {w : World} {pn pe : Nat} {n e : Int} {v : Value} {R : Ending → World → Prop} (ht : tmps.getD 2 undef = .pointer (some ⟨pn, 0, none⟩)) (hs : tmps.getD 3 undef = .pointer (some ⟨pe, 0, none⟩)) (h : Outs w pn pe n v e)
    (r : R (.returned (.tuple #[.agg #[.int .i64 n, v], .int .i64 e])) w) : bodyPostD Try.prog Try.f20 R .ret ⟨tmps, []⟩ w := ⟨_, results_dec rfl ht hs h, r⟩
/-- It leaves with the closure deferred. -/
theorem dec_out1 {tmps : Array Value} {w : World} {pn pe : Nat} {n e : Int} {v : Value} {R : Ending → World → Prop} (ht : tmps.getD 2 undef = .pointer (some ⟨pn, 0, none⟩)) (hs : tmps.getD 3 undef = .pointer (some ⟨pe, 0, none⟩)) (h : Outs w pn pe n v e)
    (r : R (.returned (.tuple #[.agg #[.int .i64 n, v], .int .i64 e])) w) : bodyPostD Try.prog Try.f20 R .ret ⟨tmps, [{ target := .fn (.func 38) #[.pointer (some ⟨pn, 0, none⟩), .pointer (some ⟨pe, 0, none⟩)], args := #[] }]⟩ w := by
  refine leaves_cons (f := 38) (args := #[.pointer (some ⟨pn, 0, none⟩), .pointer (some ⟨pe, 0, none⟩)]) (by simp) (by simp [go_sem]) ?_
  refine (didle pn pe w).mono ?_
  rintro e u' w'' ⟨rfl, rfl, rfl⟩
  exact ⟨_, results_dec rfl ht hs h, r⟩
/-- It leaves by the reader's panic. -/
theorem dec_out2 {tmps : Array Value} {w : World} {pn pe : Nat} {n e : Int} {v : Value} {R : Ending → World → Prop} (ht : tmps.getD 2 undef = .pointer (some ⟨pn, 0, none⟩)) (hs : tmps.getD 3 undef = .pointer (some ⟨pe, 0, none⟩)) (hne : pn ≠ pe) (h : Outs w pn pe n v e)
    (r : R (.returned (.tuple #[.agg #[.int .i64 0, .slice none 0 0], .int .i64 5])) (failed w pn pe 5)) : bodyPostD Try.prog Try.f20 R (.panic wrongs) ⟨tmps, [{ target := .fn (.func 38) #[.pointer (some ⟨pn, 0, none⟩), .pointer (some ⟨pe, 0, none⟩)], args := #[] }]⟩ w := by
  refine leaves_cons (f := 38) (args := #[.pointer (some ⟨pn, 0, none⟩), .pointer (some ⟨pe, 0, none⟩)]) (by simp) (by simp [go_sem]) ?_
  refine (dcatch pn pe n v e 72 (.agg #[]) [] w h hne).mono ?_
  rintro e u' w'' ⟨rfl, rfl, rfl⟩
  exact ⟨_, results_dec rfl ht hs (h.failed hne 5), r⟩
theorem BytesAt.drop {w : World} {b off n c : Nat} {l : List UInt8} (h : BytesAt w (.slice (some ⟨b, off, none⟩) n c) l) (k c' : Nat) (hk : k ≤ n) : BytesAt w (.slice (some ⟨b, off + k, none⟩) (n - k) c') (l.drop k) := by
  obtain ⟨p', c1, e, hp⟩ := h
  injection e with e1 e2 e3
  subst e2
  refine ⟨some ⟨b, off + k, none⟩, c', by simp, ?_⟩
  rcases hp with rfl | ⟨b', off', e1', hc⟩
  · left; simp
  · right
    rw [← e1] at e1'
    injection e1' with e1'
    injection e1' with q1 q2 _
    subst q1 q2
    refine ⟨b, off + k, rfl, fun i hi => ?_⟩
    have hi' : k + i < l.length := by simp at hi; omega
    rw [show off + k + i = off + (k + i) by omega, hc (k + i) hi']
    simp
/-- The world in which Decode begins its work. -/
theorem outs_new (w : World) : Outs ((w.alloc (.cells #[.int .i64 0, .slice none 0 0] 24)).alloc (.cells #[.int .i64 0] 29)) w.heap.size (w.heap.size + 1) 0 (.slice none 0 0) 0 := by
  constructor
  · rw [heap_alloc_old _ _ (by simp)]; exact heap_alloc_new w _
  · have := Boxed.new (w.alloc (.cells #[.int .i64 0, .slice none 0 0] 24)) 29 (.int .i64 0)
    rw [World.size_alloc] at this; exact this
set_option maxRecDepth 100000 in
set_option maxHeartbeats 2000000 in
theorem Decode_no (p : Option Addr) (c : Nat) (l : List UInt8) (w : World) (hI : BytesAt w (.slice p l.length c) l) (hc : l.length ≤ c) (hl : l.length ≤ 140737488355328) (h0 : beginsNo l ≠ 0) :
    Calls Try.prog 20 #[.slice p l.length c] w (DecPost l w) := by
  have hB0 : Below w.heap.size w ((w.alloc (.cells #[.int .i64 0, .slice none 0 0] 24)).alloc (.cells #[.int .i64 0] 29)) := ((Below.refl _ w).alloc (Nat.le_refl _) _).alloc (by simp) _
  have hO := outs_new w
  have q := begins_c _ l _ (hI.below hB0) ⟨p, _, c, rfl, hc⟩ hl
  have HD := hid (dec_begins (b := l) rfl h0)
  generalize beginsNo l = bn at *
  have hb : (bn != 0) = true := by simpa using h0
  have Q := hid q
  clear q h0 hI
  go_enter_defers Try.func20, Try.ntmps20
  go_wp2_with fail
  refine Q.out.mono ?_
  rintro e w2 ⟨rfl, hb2⟩
  have hO2 : Outs w2 w.heap.size (w.heap.size + 1) 0 (.slice none 0 0) 0 := ⟨(hb2.block _ (box_lt hO.n)).trans hO.n, (hb2.block _ (box_lt hO.e)).trans hO.e⟩
  have hB2 := hB0.trans (hb2.mono hB0.size)
  clear hO Q hb2 hB0
  obtain ⟨⟨c0, c1⟩, f0, f1⟩ := box2 hO2.n
  have d0 := hO2.e.cell
  have g0 := hO2.e.frozen
  go_wp2_with fail
  have hO3 := hO2.failed (by omega) bn
  have hB3 := hB2.trans (below_failed (Nat.le_refl w.heap.size) (by omega) bn (w := w2) (pe := w.heap.size + 1))
  exact dec_out0 rfl rfl hO3 (decPost_no HD.out hB3)
end Go.Proofs.Ytkfmblpcfgdgpaa
