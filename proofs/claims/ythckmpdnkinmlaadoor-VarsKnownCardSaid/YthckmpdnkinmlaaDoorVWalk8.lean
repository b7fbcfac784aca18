/- Walks: the order of sets; all variables up to a number. -/
import Derived.Test.YthckmpdnkinmlaaDoorVWalk7
import Derived.Test.YthckmpdnkinmlaaDoorPure
namespace Go.Proofs.YthckmpdnkinmlaaDoor
open Go.RowKit Go.Shelf

set_option maxHeartbeats 400000 in
theorem Less_c (a b : VS) (w : World) (hT : TabAt w) :
    Calls Tryd.prog 19 #[encS a, encS b] w fun e w' => e = .returned (.bool (less a b)) ∧ Below w.heap.size w w' := by
  have hgl := hT.lt
  have hTx : ∀ o1 o2 x, TabAt (ext ((w.alloc o1).alloc o2) x) := fun o1 o2 x => hT.below hgl ((((Below.refl _ w).alloc (Nat.le_refl _) o1).alloc (by simp) o2).trans ((ext_below _ x).mono (by simp; omega)))
  have hTx := hid hTx
  go_enter Tryd.func19, Tryd.ntmps19
  go_wp2_with fail
  refine wp_region_pure (by kernel_rfl) (by kernel_rfl) ?_
  repeat (go_big_quiet_step ((first
    | (go_at_call 25; exact Calls.ext_of (Minus_c _ _ _))
    | (go_at_call 22; exact Calls.ext_of (Union_c _ _ _))
    | (go_at_call 39; exact Calls.ext_of (First_c _ _ (hTx.out _ _ _))))))
  refine wpQuiet_nil ?_
  intro w1 hb1
  have hB : Below w.heap.size w w1 := ((((Below.refl _ w).alloc (Nat.le_refl _) _).alloc (by simp) _).trans (hb1.mono (by simp; omega)))
  have c0 := (hb1.cell (p := ⟨w.heap.size, 0, none⟩) (by simp; omega)).trans (show _ = some (.int .u64 ((lw a).toNat : Int)) by simp)
  have c1 := (hb1.cell (p := ⟨w.heap.size, 1, none⟩) (by simp; omega)).trans (show _ = some (.int .u64 ((hw a).toNat : Int)) by simp)
  have hsz := hb1.size
  rw [World.size_alloc] at hsz
  clear hb1
  have HL : Hid (less a b = (decide (0 < first (minus a b ||| minus b a)) && !has a (first (minus a b ||| minus b a)))) := rfl
  generalize first (minus a b ||| minus b a) = f at *
  by_cases hf : 0 < f
  · go_wp2_with (go_at_call 29; refine (Has_c _ _ _).mono ?_; rintro e w2 ⟨rfl, hb2⟩)
    go_ret
    refine ⟨?_, hB.trans (hb2.mono (by simp at hsz; omega))⟩
    rw [HL.out]; simp [hf]
  · go_wp2_with fail
    go_ret
    refine ⟨?_, hB⟩
    rw [HL.out]; simp [show ¬ 0 < f by omega]
/-- The set after the first k numbers. -/
theorem allV_succ (k : Nat) : withV (allV k) ((k : Int) + 1) = allV ((k : Int) + 1) := by
  apply ext_has
  intro u h1 h2
  rw [has_withV, has_allV, has_allV, Bool.eq_iff_iff]
  simp
  omega
theorem allV_min (n : Int) : allV n = allV (min n 128) := by
  apply ext_has
  intro u h1 h2
  rw [has_allV, has_allV, Bool.eq_iff_iff]
  simp
  omega
theorem allV_zero : allV 0 = 0 := by
  apply ext_has
  intro u h1 h2
  rw [has_allV, has_zero]; simp; omega
def AllRel (n : Int) (w : World) (i : Value) (wr : World) : Prop :=
  ∃ k : Nat, ((k : Int) ≤ n ∨ k = 0) ∧ k ≤ 128 ∧ i = .int .i64 ((k : Int) + 1) ∧ Below w.heap.size w wr ∧ SetVar wr w.heap.size 0 ∧ SetVar wr (w.heap.size + 1) (allV k)
set_option maxHeartbeats 400000 in
theorem All_c (n : Int) (w : World) :
    Calls Tryd.prog 17 #[.int .i64 n] w fun e w' => e = .returned (encS (allV n)) ∧ Below w.heap.size w w' := by
  go_enter Tryd.func17, Tryd.ntmps17
  go_wp2
  go_loopw [4] (fun i wr => AllRel n w i wr) (fun i _ => 130 - (intOf i).toNat)
  case atStart =>
    refine ⟨0, by omega, by omega, rfl, ((Below.refl _ _).alloc (Nat.le_refl _) _).alloc (by simp) _, (SetVar.new w 0 26).alloc _, ?_⟩
    have := SetVar.new (w.alloc (.cells #[.int .u64 0, .int .u64 0] 26)) 0 26
    rw [World.size_alloc] at this
    rw [show allV ((0 : Nat) : Int) = 0 from allV_zero]
    exact this
  case round =>
    obtain ⟨k, hk, hk2, rfl, hb, hr, hs⟩ := hrel
    have hsz := hs.lt
    obtain ⟨s0, s1, f0, f1⟩ := hs.cells
    obtain ⟨r0, r1, q0, q1⟩ := hr.cells
    by_cases b2 : (k : Int) + 1 ≤ 128
    · by_cases b1 : (k : Int) + 1 ≤ n
      · by_cases h128 : n ≤ 128
        all_goals
          have HK := hid hk
          clear hk
          go_wp2_with fail
          refine (With_c _ _ _).mono ?_; rintro e w1 ⟨rfl, hb1⟩
          have hs1 := hs.below hb1 (by omega)
          have hr1 := hr.below hb1 (by omega)
          obtain ⟨t0, t1, g0, g1⟩ := hs1.cells
          clear s0 s1 f0 f1 r0 r1 q0 q1
          go_wp2
          go_roundw
          case rel =>
            refine ⟨k + 1, by omega, by omega, by go_num, ((hb.trans (hb1.mono hb.size)).setCell (by simp) _).setCell (by simp) _, (hr1.other (by simp) _).other (by simp) _, ?_⟩
            rw [show (((k + 1 : Nat)) : Int) = (k : Int) + 1 by omega, ← allV_succ]
            exact hs1.store _
          case measure => simp [intOf]; omega
      · have e : allV k = allV n := by
          apply ext_has
          intro u h1 h2
          rw [has_allV, has_allV, Bool.eq_iff_iff]
          simp
          omega
        have b3 : n < (k : Int) + 1 := by omega
        have h128 : n ≤ 128 := by omega
        have HK := hid hk
        have HE := hid e
        clear hk e
        go_wp2
        refine bodyPost_ret (results_set rfl rfl (hr.store _)) rfl ?_
        refine ⟨?_, (hb.setCell (by simp) _).setCell (by simp) _⟩
        rw [HE.out]
    · have e : allV k = allV n := by
        apply ext_has
        intro u h1 h2
        rw [has_allV, has_allV, Bool.eq_iff_iff]
        simp
        omega
      have b3 : 128 < (k : Int) + 1 := by omega
      have HK := hid hk
      have HE := hid e
      clear hk e b2
      by_cases h128 : n ≤ 128
      all_goals
        go_wp2
        refine bodyPost_ret (results_set rfl rfl (hr.store _)) rfl ?_
        refine ⟨?_, (hb.setCell (by simp) _).setCell (by simp) _⟩
        rw [HE.out]
end Go.Proofs.YthckmpdnkinmlaaDoor
