/- Walks: Peek. -/
import Derived.Test.YtkfmblpcfgdgpaaFDec4
import Derived.RegionTactic
namespace Go.Proofs.Ytkfmblpcfgdgpaa
open Go.RowKit

/-- What Peek hands back: the numbers of variables and nodes, the error. -/
def peekR (b : List UInt8) : Int × Int × Int :=
  if beginsNo b ≠ 0 then (0, 0, beginsNo b) else match rd 128 0 0 (b.drop 4) with
  | none => (0, 0, 5)
  | some (n, r) => match rd 65536 0 0 r with
    | none => (0, 0, 5)
    | some (m, _) => if m < 1 then (0, 0, 5) else (n, m, 0)
theorem peekR_begins {b : List UInt8} (h : beginsNo b ≠ 0) : peekR b = (0, 0, beginsNo b) := by unfold peekR; rw [if_pos h]
theorem peekR_none0 {b : List UInt8} (h : beginsNo b = 0) (h1 : rd 128 0 0 (b.drop 4) = none) : peekR b = (0, 0, 5) := by
  unfold peekR; rw [if_neg (by simp [h]), h1]
theorem peekR_none1 {b r : List UInt8} {n : Nat} (h : beginsNo b = 0) (h1 : rd 128 0 0 (b.drop 4) = some (n, r)) (h2 : rd 65536 0 0 r = none) : peekR b = (0, 0, 5) := by
  unfold peekR; rw [if_neg (by simp [h]), h1]; simp only []; rw [h2]
theorem peekR_few {b r r2 : List UInt8} {n m : Nat} (h : beginsNo b = 0) (h1 : rd 128 0 0 (b.drop 4) = some (n, r)) (h2 : rd 65536 0 0 r = some (m, r2)) (hm : m < 1) : peekR b = (0, 0, 5) := by
  unfold peekR; rw [if_neg (by simp [h]), h1]; simp only []; rw [h2]; simp only []; rw [if_pos hm]
theorem peekR_good {b r r2 : List UInt8} {n m : Nat} (h : beginsNo b = 0) (h1 : rd 128 0 0 (b.drop 4) = some (n, r)) (h2 : rd 65536 0 0 r = some (m, r2)) (hm : ¬ m < 1) : peekR b = ((n : Int), (m : Int), 0) := by
  unfold peekR; rw [if_neg (by simp [h]), h1]; simp only []; rw [h2]; simp only []; rw [if_neg hm]
def PeekPost (b : List UInt8) (w : World) (e : Ending) (w' : World) : Prop :=
  e = .returned (.tuple #[.int .i64 (peekR b).1, .int .i64 (peekR b).2.1, .int .i64 (peekR b).2.2]) ∧ Below w.heap.size w w'
theorem peekPost_of {b : List UInt8} {w w' : World} {x y z : Int} (h : peekR b = (x, y, z)) (hB : Below w.heap.size w w') : PeekPost b w (.returned (.tuple #[.int .i64 x, .int .i64 y, .int .i64 z])) w' := by
  refine ⟨?_, hB⟩; rw [h]
/-- The results' variables of Peek. -/
structure Outs3 (w : World) (p1 p2 p3 : Nat) (x y z : Int) : Prop where
  x : Boxed w p1 3 (.int .i64 x)
  y : Boxed w p2 3 (.int .i64 y)
  z : Boxed w p3 29 (.int .i64 z)
def pset (w : World) (p1 p2 p3 : Nat) (x y z : Int) : World := ((w.setCell ⟨p1, 0, none⟩ (.int .i64 x)).setCell ⟨p2, 0, none⟩ (.int .i64 y)).setCell ⟨p3, 0, none⟩ (.int .i64 z)
theorem Outs3.set {w : World} {p1 p2 p3 : Nat} {x y z : Int} (h : Outs3 w p1 p2 p3 x y z) (h12 : p1 ≠ p2) (h13 : p1 ≠ p3) (h23 : p2 ≠ p3) (x' y' z' : Int) : Outs3 (pset w p1 p2 p3 x' y' z') p1 p2 p3 x' y' z' := by
  unfold pset
  have e1 : Boxed (w.setCell ⟨p1, 0, none⟩ (.int .i64 x')) p1 3 (.int .i64 x') := h.x.set _
  have e2 : Boxed (w.setCell ⟨p1, 0, none⟩ (.int .i64 x')) p2 3 (.int .i64 y) := (Below.heap_setCell _ _ _ _ (by exact Ne.symm h12)).trans h.y
  have e3 : Boxed (w.setCell ⟨p1, 0, none⟩ (.int .i64 x')) p3 29 (.int .i64 z) := (Below.heap_setCell _ _ _ _ (by exact Ne.symm h13)).trans h.z
  generalize w.setCell ⟨p1, 0, none⟩ (.int .i64 x') = w1 at *
  have f1 : Boxed (w1.setCell ⟨p2, 0, none⟩ (.int .i64 y')) p1 3 (.int .i64 x') := (Below.heap_setCell _ _ _ _ (by exact h12)).trans e1
  have f2 : Boxed (w1.setCell ⟨p2, 0, none⟩ (.int .i64 y')) p2 3 (.int .i64 y') := e2.set _
  have f3 : Boxed (w1.setCell ⟨p2, 0, none⟩ (.int .i64 y')) p3 29 (.int .i64 z) := (Below.heap_setCell _ _ _ _ (by exact Ne.symm h23)).trans e3
  generalize w1.setCell ⟨p2, 0, none⟩ (.int .i64 y') = w2 at *
  exact ⟨(Below.heap_setCell _ _ _ _ (by exact h13)).trans f1, (Below.heap_setCell _ _ _ _ (by exact h23)).trans f2, f3.set _⟩
theorem Outs3.set2 {w : World} {p1 p2 p3 : Nat} {x y z : Int} (h : Outs3 w p1 p2 p3 x y z) (h12 : p1 ≠ p2) (h13 : p1 ≠ p3) (h23 : p2 ≠ p3) (x' y' : Int) : Outs3 ((w.setCell ⟨p1, 0, none⟩ (.int .i64 x')).setCell ⟨p2, 0, none⟩ (.int .i64 y')) p1 p2 p3 x' y' z := by
  have e1 : Boxed (w.setCell ⟨p1, 0, none⟩ (.int .i64 x')) p1 3 (.int .i64 x') := h.x.set _
  have e2 : Boxed (w.setCell ⟨p1, 0, none⟩ (.int .i64 x')) p2 3 (.int .i64 y) := (Below.heap_setCell _ _ _ _ (by exact Ne.symm h12)).trans h.y
  have e3 : Boxed (w.setCell ⟨p1, 0, none⟩ (.int .i64 x')) p3 29 (.int .i64 z) := (Below.heap_setCell _ _ _ _ (by exact Ne.symm h13)).trans h.z
  exact ⟨(Below.heap_setCell _ _ _ _ (by exact h12)).trans e1, e2.set _, (Below.heap_setCell _ _ _ _ (by exact Ne.symm h23)).trans e3⟩
theorem Outs3.drew {w : World} {p1 p2 p3 : Nat} {x y z : Int} (h : Outs3 w p1 p2 p3 x y z) : Outs3 w.drew p1 p2 p3 x y z := ⟨h.x, h.y, h.z⟩
/-- What the stores of the results meet. -/
theorem Outs3.steps {w : World} {p1 p2 p3 : Nat} {x y z : Int} (h : Outs3 w p1 p2 p3 x y z) (h12 : p1 ≠ p2) (h13 : p1 ≠ p3) (h23 : p2 ≠ p3) (x' y' : Int) :
    (w.setCell ⟨p1, 0, none⟩ (.int .i64 x')).cell? ⟨p2, 0, none⟩ = some (.int .i64 y) ∧ (w.setCell ⟨p1, 0, none⟩ (.int .i64 x')).frozen? ⟨p2, 0, none⟩ = false ∧
    ((w.setCell ⟨p1, 0, none⟩ (.int .i64 x')).setCell ⟨p2, 0, none⟩ (.int .i64 y')).cell? ⟨p3, 0, none⟩ = some (.int .i64 z) ∧ ((w.setCell ⟨p1, 0, none⟩ (.int .i64 x')).setCell ⟨p2, 0, none⟩ (.int .i64 y')).frozen? ⟨p3, 0, none⟩ = false := by
  have e2 : Boxed (w.setCell ⟨p1, 0, none⟩ (.int .i64 x')) p2 3 (.int .i64 y) := (Below.heap_setCell _ _ _ _ (by exact Ne.symm h12)).trans h.y
  have e4 := (h.set2 h12 h13 h23 x' y').z
  exact ⟨e2.cell, e2.frozen, e4.cell, e4.frozen⟩
theorem below_pset {B : Nat} {w : World} {p1 p2 p3 : Nat} (h1 : B ≤ p1) (h2 : B ≤ p2) (h3 : B ≤ p3) (x y z : Int) : Below B w (pset w p1 p2 p3 x y z) :=
  (((Below.refl B w).setCell (p := ⟨p1, 0, none⟩) h1 _).setCell (p := ⟨p2, 0, none⟩) h2 _).setCell (p := ⟨p3, 0, none⟩) h3 _
theorem Outs3.below {w w' : World} {p1 p2 p3 : Nat} {x y z : Int} (h : Outs3 w p1 p2 p3 x y z) (hb : Below w.heap.size w w') : Outs3 w' p1 p2 p3 x y z :=
  ⟨(hb.block _ (box_lt h.x)).trans h.x, (hb.block _ (box_lt h.y)).trans h.y, (hb.block _ (box_lt h.z)).trans h.z⟩
theorem Outs3.kept {w w' : World} {p1 p2 p3 k : Nat} {x y z : Int} (h : Outs3 w p1 p2 p3 x y z) (hg : w.grownBy w' (some k)) (h1 : p1 ≠ k) (h2 : p2 ≠ k) (h3 : p3 ≠ k) : Outs3 w' p1 p2 p3 x y z :=
  ⟨(hg.block _ (box_lt h.x) (by simpa using h1)).trans h.x, (hg.block _ (box_lt h.y) (by simpa using h2)).trans h.y, (hg.block _ (box_lt h.z) (by simpa using h3)).trans h.z⟩
theorem pcatch (p1 p2 p3 : Nat) (x y z : Int) (u : TypeId) (pv : Value) (older : List PanicEntry) (w : World) (ho : Outs3 w p1 p2 p3 x y z) (h12 : p1 ≠ p2) (h13 : p1 ≠ p3) (h23 : p2 ≠ p3) :
    CallsD Try.prog 44 #[.pointer (some ⟨p1, 0, none⟩), .pointer (some ⟨p2, 0, none⟩), .pointer (some ⟨p3, 0, none⟩)] (.panicking ({ v := .iface u pv, recovered := false } :: older)) w fun e u' w' =>
      e = .returned (.tuple #[]) ∧ u' = .panicking ({ v := .iface u pv, recovered := true } :: older) ∧ w' = pset w p1 p2 p3 0 0 5 := by
  have c0 := ho.x.cell
  have c1 := ho.y.cell
  have c2 := ho.z.cell
  have f0 := ho.x.frozen
  have f1 := ho.y.frozen
  have f2 := ho.z.frozen
  have e1 : Boxed (w.setCell ⟨p1, 0, none⟩ (.int .i64 0)) p2 3 (.int .i64 y) := (Below.heap_setCell _ _ _ _ (by exact Ne.symm h12)).trans ho.y
  have e2 : Boxed (w.setCell ⟨p1, 0, none⟩ (.int .i64 0)) p3 29 (.int .i64 z) := (Below.heap_setCell _ _ _ _ (by exact Ne.symm h13)).trans ho.z
  have e3 : Boxed ((w.setCell ⟨p1, 0, none⟩ (.int .i64 0)).setCell ⟨p2, 0, none⟩ (.int .i64 0)) p3 29 (.int .i64 z) := (Below.heap_setCell _ _ _ _ (by exact Ne.symm h23)).trans e2
  have d1 := e1.cell
  have d3 := e3.cell
  have g1 := e1.frozen
  have g3 := e3.frozen
  refine callsD_of_wpS Try.func44 rfl fun c₀ cs hu => ?_
  apply wpS_seq
  apply wpS_region
  simp [wpOpsS, go_sem, recoverD, hu, Try.ntmps44, Exit.thenS]
  apply wpS_seq
  apply wpS_region
  simp [wpOpsS, go_sem, Exit.thenS]
  refine wpS_cond (t := true) (by simp [Act.eval, Array.replicate]) ?_
  simp only [if_true]
  apply wpS_region
  simp [wpOpsS, go_sem, c0, f0, d1, g1, d3, g3, bodyPostS, results, Try.results44]
  rfl
theorem pidle (p1 p2 p3 : Nat) (w : World) :
    CallsD Try.prog 44 #[.pointer (some ⟨p1, 0, none⟩), .pointer (some ⟨p2, 0, none⟩), .pointer (some ⟨p3, 0, none⟩)] .returning w fun e u' w' => e = .returned (.tuple #[]) ∧ u' = .returning ∧ w' = w := by
  refine callsD_of_wpS Try.func44 rfl fun c₀ cs hu => ?_
  apply wpS_seq
  apply wpS_region
  simp [wpOpsS, go_sem, recoverD, hu, Try.ntmps44, Exit.thenS]
  apply wpS_seq
  apply wpS_region
  simp [wpOpsS, go_sem, Exit.thenS]
  refine wpS_cond (t := false) (by simp [Act.eval, Array.replicate]) ?_
  simp only [Bool.false_eq_true, if_false]
  refine wpS_of_wp (wp_skip ?_)
  cases c₀
  simp_all [bodyPostS, results, Try.results44]
theorem results_peek {tmps : Array Value} {w : World} {p1 p2 p3 : Nat} {x y z : Int} (h1 : tmps.getD 2 undef = .pointer (some ⟨p1, 0, none⟩)) (h2 : tmps.getD 3 undef = .pointer (some ⟨p2, 0, none⟩)) (h3 : tmps.getD 4 undef = .pointer (some ⟨p3, 0, none⟩)) (h : Outs3 w p1 p2 p3 x y z) :
    (results Try.f23 tmps).run Try.prog w = .ok (.tuple #[.int .i64 x, .int .i64 y, .int .i64 z]) w := by
  have c0 := h.x.cell
  have c1 := h.y.cell
  have c2 := h.z.cell
  simp only [Array.getD_eq_getD_getElem?] at h1 h2 h3
  simp [results, Try.results23, h1, h2, h3, go_sem, c0, c1, c2]
theorem pk_out0 {tmps : Array Value} {w : World} {p1 p2 p3 : Nat} {x y z : Int} {R : Ending → World → Prop} (h1 : tmps.getD 2 undef = .pointer (some ⟨p1, 0, none⟩)) (h2 : tmps.getD 3 undef = .pointer (some ⟨p2, 0, none⟩)) (h3 : tmps.getD 4 undef = .pointer (some ⟨p3, 0, none⟩)) (h : Outs3 w p1 p2 p3 x y z)
    (r : R (.returned (.tuple #[.int .i64 x, .int .i64 y, .int .i64 z])) w) : bodyPostD Try.prog Try.f23 R .ret ⟨tmps, []⟩ w := ⟨_, results_peek h1 h2 h3 h, r⟩
theorem pk_out1 {tmps : Array Value} {w : World} {p1 p2 p3 : Nat} {x y z : Int} {R : Ending → World → Prop} (h1 : tmps.getD 2 undef = .pointer (some ⟨p1, 0, none⟩)) (h2 : tmps.getD 3 undef = .pointer (some ⟨p2, 0, none⟩)) (h3 : tmps.getD 4 undef = .pointer (some ⟨p3, 0, none⟩)) (h : Outs3 w p1 p2 p3 x y z)
    (r : R (.returned (.tuple #[.int .i64 x, .int .i64 y, .int .i64 z])) w) : bodyPostD Try.prog Try.f23 R .ret ⟨tmps, [{ target := .fn (.func 44) #[.pointer (some ⟨p1, 0, none⟩), .pointer (some ⟨p2, 0, none⟩), .pointer (some ⟨p3, 0, none⟩)], args := #[] }]⟩ w := by
  refine leaves_cons (f := 44) (args := #[.pointer (some ⟨p1, 0, none⟩), .pointer (some ⟨p2, 0, none⟩), .pointer (some ⟨p3, 0, none⟩)]) (by simp) (by simp [go_sem]) ?_
  refine (pidle p1 p2 p3 w).mono ?_
  rintro e u' w'' ⟨rfl, rfl, rfl⟩
  exact ⟨_, results_peek h1 h2 h3 h, r⟩
theorem pk_out2 {tmps : Array Value} {w : World} {p1 p2 p3 : Nat} {x y z : Int} {R : Ending → World → Prop} (h1 : tmps.getD 2 undef = .pointer (some ⟨p1, 0, none⟩)) (h2 : tmps.getD 3 undef = .pointer (some ⟨p2, 0, none⟩)) (h3 : tmps.getD 4 undef = .pointer (some ⟨p3, 0, none⟩)) (h12 : p1 ≠ p2) (h13 : p1 ≠ p3) (h23 : p2 ≠ p3) (h : Outs3 w p1 p2 p3 x y z)
    (r : R (.returned (.tuple #[.int .i64 0, .int .i64 0, .int .i64 5])) (pset w p1 p2 p3 0 0 5)) : bodyPostD Try.prog Try.f23 R (.panic wrongs) ⟨tmps, [{ target := .fn (.func 44) #[.pointer (some ⟨p1, 0, none⟩), .pointer (some ⟨p2, 0, none⟩), .pointer (some ⟨p3, 0, none⟩)], args := #[] }]⟩ w := by
  refine leaves_cons (f := 44) (args := #[.pointer (some ⟨p1, 0, none⟩), .pointer (some ⟨p2, 0, none⟩), .pointer (some ⟨p3, 0, none⟩)]) (by simp) (by simp [go_sem]) ?_
  refine (pcatch p1 p2 p3 x y z 72 (.agg #[]) [] w h h12 h13 h23).mono ?_
  rintro e u' w'' ⟨rfl, rfl, rfl⟩
  exact ⟨_, results_peek h1 h2 h3 (h.set h12 h13 h23 0 0 5), r⟩
theorem outs3_new (w : World) : Outs3 (((w.alloc (.cells #[.int .i64 0] 3)).alloc (.cells #[.int .i64 0] 3)).alloc (.cells #[.int .i64 0] 29)) w.heap.size (w.heap.size + 1) (w.heap.size + 2) 0 0 0 := by
  have a := Boxed.new w 3 (.int .i64 0)
  have b := Boxed.new (w.alloc (.cells #[.int .i64 0] 3)) 3 (.int .i64 0)
  have c := Boxed.new ((w.alloc (.cells #[.int .i64 0] 3)).alloc (.cells #[.int .i64 0] 3)) 29 (.int .i64 0)
  simp only [World.size_alloc] at b c
  exact ⟨(a.alloc _).alloc _, b.alloc _, c⟩
set_option maxRecDepth 100000 in
set_option maxHeartbeats 4000000 in
theorem Peek_c (p : Option Addr) (c : Nat) (l : List UInt8) (w : World) (hI : BytesAt w (.slice p l.length c) l) (hc : l.length ≤ c) (hl : l.length ≤ 140737488355328) :
    Calls Try.prog 23 #[.slice p l.length c] w (PeekPost l w) := by
  have hB0 : Below w.heap.size w (((w.alloc (.cells #[.int .i64 0] 3)).alloc (.cells #[.int .i64 0] 3)).alloc (.cells #[.int .i64 0] 29)) := (((Below.refl _ w).alloc (Nat.le_refl _) _).alloc (by simp) _).alloc (by simp; omega) _
  have hO := outs3_new w
  have q := begins_c _ l _ (hI.below hB0) ⟨p, _, c, rfl, hc⟩ hl
  by_cases h0 : beginsNo l = 0
  · have H0 := hid h0
    rw [h0] at q
    have Q := hid q
    have hll : 11 ≤ l.length := (beginsNo_zero.1 h0).2.1
    have HI := hid hI
    clear q h0 hI
    go_enter_defers Try.func23, Try.ntmps23
    go_wp2_with fail
    refine Q.out.mono ?_
    rintro e w2 ⟨rfl, hb2⟩
    have hO2 := hO.below hb2
    have hB2 := hB0.trans (hb2.mono hB0.size)
    clear hO Q hb2 hB0
    go_wp2_with fail
    refine (numbers_c _ _ _ 4 w2).mono ?_
    rintro e w4 ⟨rfl, hw4⟩
    have hb4 : Below w2.heap.size w2 w4 := by
      rw [hw4]; exact ((Below.refl _ w2).alloc (Nat.le_refl _) _).alloc (by simp) _
    have hsz2 : w.heap.size + 2 < w2.heap.size := box_lt hO2.z
    have hr4 : Rdr w4.heap.size w4 (w2.heap.size + 1) w2.heap.size (.slice p l.length c) l 4 := by
      have hsz : w4.heap.size = w2.heap.size + 2 := by rw [hw4]; simp
      refine ⟨(HI.out.below hB2).below hb4, ?_, ?_, by omega, fun x n c' e => ?_, by omega, hl, by omega, by omega⟩
      · rw [hw4]
        have := Boxed.new (w2.alloc (.cells #[.slice p l.length c] 28)) 3 (.int .i64 ((4 : Nat) : Int))
        rw [World.size_alloc] at this; exact this
      · rw [hw4]
        exact (Boxed.new w2 28 (.slice p l.length c)).alloc _
      · obtain ⟨p', c1, e1, hp⟩ := HI.out
        obtain ⟨b', off', rfl, hcc⟩ := hp.resolve_left (by intro e; rw [e] at hll; simp at hll)
        have hlt := cell_lt (hcc 0 (by omega))
        injection e1 with e1 _ _
        injection e with e2 _ _
        rw [e1] at e2
        injection e2 with e2
        subst e2
        have hlt : b' < w.heap.size := hlt
        exact ⟨by show b' ≠ w2.heap.size + 1; omega, by show b' < w4.heap.size; omega⟩
    have hO4 := hO2.below hb4
    have hB4 := hB2.trans (hb4.mono hB2.size)
    have hsz4 : w4.heap.size = w2.heap.size + 2 := by rw [hw4]; simp
    clear hw4 hb4 hO2 hB2
    generalize hpa : w2.heap.size + 1 = pa at *
    have hpaw : w.heap.size + 2 < pa := by omega
    have n1 : w.heap.size ≠ pa := by omega
    have n2 : w.heap.size + 1 ≠ pa := by omega
    have n3 : w.heap.size + 2 ≠ pa := by omega
    have hpa4 : pa < w4.heap.size := by omega
    clear hpa hsz4
    generalize w2.heap.size = pb at *
    go_wp2_with fail
    cases h1 : rd 128 0 0 (l.drop 4) with
    | none =>
      refine (next_none (by omega) hr4 h1).mono ?_
      rintro e w5 ⟨rfl, a', hat5⟩
      have hO5 := hO4.kept hat5.2 n1 n2 n3
      have hB5 := hB4.grown hat5.2 hB4.size (fun k e => by injection e with e; omega)
      exact pk_out2 rfl rfl rfl (by omega) (by omega) (by omega) hO5 (peekPost_of (peekR_none0 H0.out h1) (hB5.trans (below_pset (by omega) (by omega) (by omega) 0 0 5)))
    | some q1 =>
      obtain ⟨nn, r1⟩ := q1
      refine (next_some (by omega) hr4 h1).mono ?_
      rintro e w5 ⟨rfl, a5, rfl, ha5, hal5, hat5⟩
      have hr5 := hr4.next hat5 hal5
      have hO5 := hO4.kept hat5.2 n1 n2 n3
      have hB5 := hB4.grown hat5.2 hB4.size (fun k e => by injection e with e; omega)
      have H1 := hid h1
      clear h1 hat5 hO4 hr4 hB4
      go_wp2_with fail
      cases h2 : rd 65536 0 0 (l.drop a5) with
      | none =>
        refine (next_none (by omega) hr5 h2).mono ?_
        rintro e w7 ⟨rfl, a', hat7⟩
        have hO7 := hO5.kept hat7.2 n1 n2 n3
        have hB7 := hB5.grown hat7.2 hB5.size (fun k e => by injection e with e; omega)
        exact pk_out2 rfl rfl rfl (by omega) (by omega) (by omega) hO7 (peekPost_of (peekR_none1 H0.out H1.out h2) (hB7.trans (below_pset (by omega) (by omega) (by omega) 0 0 5)))
      | some q2 =>
        obtain ⟨m, r2⟩ := q2
        refine (next_some (by omega) hr5 h2).mono ?_
        rintro e w7 ⟨rfl, a7, rfl, ha7, hal7, hat7⟩
        have hO7 := hO5.kept hat7.2 n1 n2 n3
        have hB7 := hB5.grown hat7.2 hB5.size (fun k e => by injection e with e; omega)
        have hmm := (num_rd h2).2
        have HR := hid (show m < 1 → peekR l = (0, 0, 5) from fun hm => peekR_few H0.out H1.out h2 hm)
        have HR2 := hid (show ¬ m < 1 → peekR l = ((nn : Int), (m : Int), 0) from fun hm => peekR_good H0.out H1.out h2 hm)
        have c0 := hO7.x.cell
        have c1 := hO7.y.cell
        have c2 := hO7.z.cell
        have f0 := hO7.x.frozen
        have f1 := hO7.y.frozen
        have f2 := hO7.z.frozen
        have HO7 := hid hO7
        have HB7 := hid hB7
        clear h2 hat7 hO5 hr5 hB5 H1 hO7 hB7
        by_cases hm : m < 1
        · have hg : decide ((m : Int) < 1) = true := decide_eq_true (by omega)
          have HP := hid (HR.out hm)
          clear hm HR HR2
          go_wp2_with fail
          exact pk_out1 rfl rfl rfl ((HO7.out.set2 (by omega) (by omega) (by omega) (nn : Int) (m : Int)).set (by omega) (by omega) (by omega) 0 0 5) (peekPost_of HP.out ((((HB7.out).setCell (p := ⟨w.heap.size, 0, none⟩) (Nat.le_refl _) _).setCell (p := ⟨w.heap.size + 1, 0, none⟩) (by show w.heap.size ≤ w.heap.size + 1; omega) _).trans (below_pset (by omega) (by omega) (by omega) 0 0 5)))
        · have hg : decide ((m : Int) < 1) = false := decide_eq_false (by omega)
          have HP := hid (HR2.out hm)
          clear hm HR HR2
          go_wp2_with fail
          have hO9 := HO7.out.set2 (by omega) (by omega) (by omega) (nn : Int) (m : Int)
          have hB9 := ((HB7.out).setCell (p := ⟨w.heap.size, 0, none⟩) (Nat.le_refl _) (.int .i64 (nn : Int))).setCell (p := ⟨w.heap.size + 1, 0, none⟩) (by show w.heap.size ≤ w.heap.size + 1; omega) (.int .i64 (m : Int))
          clear HO7 HB7 c0 c1 c2 f0 f1 f2
          generalize (w7.setCell ⟨w.heap.size, 0, none⟩ (.int .i64 (nn : Int))).setCell ⟨w.heap.size + 1, 0, none⟩ (.int .i64 (m : Int)) = w9 at *
          have hD := hO9
          have c0 := hD.x.cell
          have c1 := hD.y.cell
          have c2 := hD.z.cell
          have f0 := hD.x.frozen
          have f1 := hD.y.frozen
          have f2 := hD.z.frozen
          obtain ⟨d1, d2, d3, d4⟩ := hD.steps (by omega) (by omega) (by omega) (nn : Int) (m : Int)
          go_region
          go_wp2_with fail
          exact pk_out1 rfl rfl rfl (hD.set (by omega) (by omega) (by omega) (nn : Int) (m : Int) 0).drew (peekPost_of HP.out (hB9.trans (below_pset (B := w.heap.size) (w := w9) (p1 := w.heap.size) (p2 := w.heap.size + 1) (p3 := w.heap.size + 2) (by omega) (by omega) (by omega) (nn : Int) (m : Int) 0)).drew)
  · have HD := hid (peekR_begins h0)
    generalize beginsNo l = bn at *
    have hb : (bn != 0) = true := by simpa using h0
    have Q := hid q
    clear q h0 hI
    go_enter_defers Try.func23, Try.ntmps23
    go_wp2_with fail
    refine Q.out.mono ?_
    rintro e w2 ⟨rfl, hb2⟩
    have hO2 := hO.below hb2
    have hB2 := hB0.trans (hb2.mono hB0.size)
    have c0 := hO2.x.cell
    have c1 := hO2.y.cell
    have c2 := hO2.z.cell
    have f0 := hO2.x.frozen
    have f1 := hO2.y.frozen
    have f2 := hO2.z.frozen
    clear hO Q hb2 hB0
    go_wp2_with fail
    exact pk_out0 rfl rfl rfl (hO2.set (by omega) (by omega) (by omega) 0 0 bn) (peekPost_of HD.out (hB2.trans (below_pset (by omega) (by omega) (by omega) 0 0 bn)))
end Go.Proofs.Ytkfmblpcfgdgpaa
