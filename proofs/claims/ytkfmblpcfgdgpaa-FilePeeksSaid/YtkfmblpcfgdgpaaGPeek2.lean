/- Walks: the reference's Peek. -/
import Derived.Test.YtkfmblpcfgdgpaaGDec
import Derived.Test.YtkfmblpcfgdgpaaGPeek
namespace Go.Proofs.Ytkfmblpcfgdgpaa
open Go.RowKit

theorem rpeekPost {l : List UInt8} {w w' : World} {x y z : Int} (h : peekR l = (x, y, z)) (hB : Below w.heap.size w w') : PeekPost l w (.returned (.tuple #[.int .i64 x, .int .i64 y, .int .i64 z])) w' := peekPost_of h hB
theorem RSt.belowNew {w w' : World} {px a : Nat} {v : Value} {bad : Bool} {B : Nat} {w0 : World} (hB : Below B w0 w) (hBw : B ≤ w0.heap.size) (h : RSt w w' px v a bad) (hp : B ≤ px) : Below B w0 w' :=
  hB.grown h.grew (Nat.le_trans hBw hB.size) (fun k e => by injection e with e; omega)
set_option maxRecDepth 100000 in
set_option maxHeartbeats 4000000 in
theorem rPeek_c (p : Option Addr) (c : Nat) (l : List UInt8) (w : World) (hI : BytesAt w (.slice p l.length c) l) (hl : l.length ≤ 140737488355328) :
    Calls Try.prog 24 #[.slice p l.length c] w (PeekPost l w) := by
  by_cases hlg : 16777216 < l.length
  · have HD := hid (peekR_begins (b := l) (by rw [beginsNo_long hlg]; decide))
    rw [beginsNo_long hlg] at HD
    have hg : decide ((16777216 : Int) < (l.length : Int)) = true := decide_eq_true (by omega)
    clear hI
    go_enter Try.func24, Try.ntmps24
    go_wp2_with fail
    go_ret3
    exact peekPost_of HD.out (Below.refl _ _)
  · have hb := beginsNo_head hlg
    have hg : decide ((16777216 : Int) < (l.length : Int)) = false := decide_eq_false (by omega)
    have q := rbegins_c _ l _ hI hl
    cases hh : headB l with
    | false =>
      rw [hh] at hb q
      have HD := hid (peekR_begins (b := l) (by rw [hb]; decide))
      rw [hb] at HD
      have Q := hid q
      clear hI hb q hlg
      go_enter Try.func24, Try.ntmps24
      go_wp2_with fail
      refine Q.out.mono ?_
      rintro e w2 ⟨rfl, rfl⟩
      go_wp2_with fail
      go_ret3
      exact peekPost_of HD.out (Below.refl _ _)
    | true =>
      rw [hh] at hb q
      have h0 : beginsNo l = 0 := hb
      have H0 := hid h0
      have hll : 11 ≤ l.length := (beginsNo_zero.1 h0).2.1
      have Q := hid q
      have hb4 : Below w.heap.size w (w.alloc (.cells #[.slice p l.length c, .int .i64 4, .bool false] 67)) := (Below.refl _ w).alloc (Nat.le_refl _) _
      have hr4 : RRdr (w.heap.size + 1) (w.alloc (.cells #[.slice p l.length c, .int .i64 4, .bool false] 67)) w.heap.size (.slice p l.length c) l 4 false := by
        refine ⟨hI.below hb4, heap_alloc_new w _, fun x n c' e => ?_, by omega, by omega, by omega⟩
        obtain ⟨p', c1, e1, hp⟩ := hI
        obtain ⟨b', off', rfl, hcc⟩ := hp.resolve_left (by intro e; rw [e] at hll; simp at hll)
        have hlt := cell_lt (hcc 0 (by omega))
        injection e1 with e1 _ _
        injection e with e2 _ _
        rw [e1] at e2
        injection e2 with e2
        subst e2
        have hlt : b' < w.heap.size := hlt
        exact ⟨by show b' ≠ w.heap.size; omega, by show b' < w.heap.size + 1; omega⟩
      clear hI hb q hlg h0 hh
      go_enter Try.func24, Try.ntmps24
      go_wp2_with fail
      refine Q.out.mono ?_
      rintro e w2 ⟨rfl, rfl⟩
      clear Q hg
      go_wp2_with fail
      generalize w.alloc (.cells #[.slice p l.length c, .int .i64 4, .bool false] 67) = w4 at *
      cases h1 : rd 128 0 0 (l.drop 4) with
      | none =>
        refine (rnum_none (by omega) hr4 h1).mono ?_
        rintro e w5 ⟨rfl, a', ha', hat5⟩
        have hr5 := hr4.next hat5 ha'
        have hB5 := hat5.belowNew hb4 (Nat.le_refl _) (Nat.le_refl _)
        have HP := hid (peekR_none0 H0.out h1)
        clear hr4 hat5 hb4 h1
        go_wp2_with fail
        refine (rnum_bad 65536 hr5).mono ?_
        rintro e w6 ⟨rfl, hat6⟩
        have hB6 := hat6.belowNew hB5 (Nat.le_refl _) (Nat.le_refl _)
        obtain ⟨⟨b0, b1, b2⟩, f0, f1, f2⟩ := box3 hat6.box
        clear hr5 hat6 hB5
        go_wp2_with fail
        go_ret3
        exact peekPost_of HP.out hB6
      | some q1 =>
        obtain ⟨nn, r1⟩ := q1
        refine (rnum_some (by omega) hr4 h1).mono ?_
        rintro e w5 ⟨rfl, a5, rfl, ha5, hal5, hat5⟩
        have hr5 := hr4.next hat5 hal5
        have hB5 := hat5.belowNew hb4 (Nat.le_refl _) (Nat.le_refl _)
        clear hr4 hat5 hb4
        go_wp2_with fail
        cases h2 : rd 65536 0 0 (l.drop a5) with
        | none =>
          refine (rnum_none (by omega) hr5 h2).mono ?_
          rintro e w6 ⟨rfl, a', ha', hat6⟩
          have hB6 := hat6.belowNew hB5 (Nat.le_refl _) (Nat.le_refl _)
          have HP := hid (peekR_none1 H0.out h1 h2)
          obtain ⟨⟨b0, b1, b2⟩, f0, f1, f2⟩ := box3 hat6.box
          clear hr5 hat6 hB5 h1 h2
          go_wp2_with fail
          go_ret3
          exact peekPost_of HP.out hB6
        | some q2 =>
          obtain ⟨m, r2⟩ := q2
          refine (rnum_some (by omega) hr5 h2).mono ?_
          rintro e w6 ⟨rfl, a6, rfl, ha6, hal6, hat6⟩
          have hB6 := hat6.belowNew hB5 (Nat.le_refl _) (Nat.le_refl _)
          obtain ⟨⟨b0, b1, b2⟩, f0, f1, f2⟩ := box3 hat6.box
          have HR := hid (show m < 1 → peekR l = (0, 0, 5) from fun hm => peekR_few H0.out h1 h2 hm)
          have HR2 := hid (show ¬ m < 1 → peekR l = ((nn : Int), (m : Int), 0) from fun hm => peekR_good H0.out h1 h2 hm)
          clear hr5 hat6 hB5 h1 h2
          by_cases hm : m < 1
          · have hg : decide ((m : Int) < 1) = true := decide_eq_true (by omega)
            have HP := hid (HR.out hm)
            clear hm HR HR2
            go_wp2_with fail
            go_ret3
            exact peekPost_of HP.out hB6
          · have hg : decide ((m : Int) < 1) = false := decide_eq_false (by omega)
            have HP := hid (HR2.out hm)
            clear hm HR HR2
            go_wp2_with fail
            go_ret3
            exact peekPost_of HP.out hB6
end Go.Proofs.Ytkfmblpcfgdgpaa
