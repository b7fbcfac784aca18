/- Walks: the order of sets; all variables up to a number. -/
import Derived.Test.YthgkklahiclcpaaDoorVWalk7
import Derived.Test.YthgkklahiclcpaaDoorPure
namespace Go.Proofs.YthgkklahiclcpaaDoor
open Go.RowKit Go.Shelf

/-- The set after the first k numbers. -/
theorem allV_succ (k : Nat) : withV (allV k) ((k : Int) + 1) = allV ((k : Int) + 1) := by
  apply ext_has
  intro u h1 h2
  rw [has_withV, has_allV, has_allV, Bool.eq_iff_iff]
  simp
  omega
theorem allV_min (n : Int) : allV n = allV (min n 128) := by
  apply ext_has
  intro u h1 h2
  rw [has_allV, has_allV, Bool.eq_iff_iff]
  simp
  omega
theorem allV_zero : allV 0 = 0 := by
  apply ext_has
  intro u h1 h2
  rw [has_allV, has_zero]; simp; omega
def AllRel (n : Int) (w : World) (i : Value) (wr : World) : Prop :=
  ∃ k : Nat, ((k : Int) ≤ n ∨ k = 0) ∧ k ≤ 128 ∧ i = .int .i64 ((k : Int) + 1) ∧ Below w.heap.size w wr ∧ SetVar wr w.heap.size 0 ∧ SetVar wr (w.heap.size + 1) (allV k)
set_option maxHeartbeats 400000 in
theorem All_c (n : Int) (w : World) :
    Calls Tryd.prog 47 #[.int .i64 n] w fun e w' => e = .returned (encS (allV n)) ∧ Below w.heap.size w w' := by
  go_enter Tryd.func47, Tryd.ntmps47
  go_wp2
  go_loopw [4] (fun i wr => AllRel n w i wr) (fun i _ => 130 - (intOf i).toNat)
  case atStart =>
    refine ⟨0, by omega, by omega, rfl, ((Below.refl _ _).alloc (Nat.le_refl _) _).alloc (by simp) _, (SetVar.new w 0 35).alloc _, ?_⟩
    have := SetVar.new (w.alloc (.cells #[.int .u64 0, .int .u64 0] 35)) 0 35
    rw [World.size_alloc] at this
    rw [show allV ((0 : Nat) : Int) = 0 from allV_zero]
    exact this
  case round =>
    obtain ⟨k, hk, hk2, rfl, hb, hr, hs⟩ := hrel
    have hsz := hs.lt
    obtain ⟨s0, s1, f0, f1⟩ := hs.cells
    obtain ⟨r0, r1, q0, q1⟩ := hr.cells
    by_cases b2 : (k : Int) + 1 ≤ 128
    · by_cases b1 : (k : Int) + 1 ≤ n
      · by_cases h128 : n ≤ 128
        all_goals
          have HK := hid hk
          clear hk
          go_wp2_with fail
          refine (With_c _ _ _).mono ?_; rintro e w1 ⟨rfl, hb1⟩
          have hs1 := hs.below hb1 (by omega)
          have hr1 := hr.below hb1 (by omega)
          obtain ⟨t0, t1, g0, g1⟩ := hs1.cells
          clear s0 s1 f0 f1 r0 r1 q0 q1
          go_wp2
          go_roundw
          case rel =>
            refine ⟨k + 1, by omega, by omega, by go_num, ((hb.trans (hb1.mono hb.size)).setCell (by simp) _).setCell (by simp) _, (hr1.other (by simp) _).other (by simp) _, ?_⟩
            rw [show (((k + 1 : Nat)) : Int) = (k : Int) + 1 by omega, ← allV_succ]
            exact hs1.store _
          case measure => simp [intOf]; omega
      · have e : allV k = allV n := by
          apply ext_has
          intro u h1 h2
          rw [has_allV, has_allV, Bool.eq_iff_iff]
          simp
          omega
        have b3 : n < (k : Int) + 1 := by omega
        have h128 : n ≤ 128 := by omega
        have HK := hid hk
        have HE := hid e
        clear hk e
        go_wp2
        refine bodyPost_ret (results_set rfl rfl (hr.store _)) rfl ?_
        refine ⟨?_, (hb.setCell (by simp) _).setCell (by simp) _⟩
        rw [HE.out]
    · have e : allV k = allV n := by
        apply ext_has
        intro u h1 h2
        rw [has_allV, has_allV, Bool.eq_iff_iff]
        simp
        omega
      have b3 : 128 < (k : Int) + 1 := by omega
      have HK := hid hk
      have HE := hid e
      clear hk e b2
      by_cases h128 : n ≤ 128
      all_goals
        go_wp2
        refine bodyPost_ret (results_set rfl rfl (hr.store _)) rfl ?_
        refine ⟨?_, (hb.setCell (by simp) _).setCell (by simp) _⟩
        rw [HE.out]
end Go.Proofs.YthgkklahiclcpaaDoor
