/- The walk of 'works', the examples that every law checks. -/
import Derived.Test.YthckmpdnkinmlaaDoorVWalk8
import Derived.Test.YthckmpdnkinmlaaDoorRWalk6
namespace Go.Proofs.YthckmpdnkinmlaaDoor
open Go.RowKit

theorem IntsAt.lit (w : World) (l : List Int) (T : Nat) (h : l ≠ []) : IntsAt (w.alloc (.cells (l.map (Value.int .i64)).toArray T)) (.slice (some ⟨w.heap.size, 0, none⟩) l.length l.length) l := by
  refine ⟨_, _, rfl, .inr ⟨w.heap.size, 0, rfl, fun i hi => ?_⟩⟩
  rw [World.cell?, show (w.alloc (.cells (l.map (Value.int .i64)).toArray T)).heap[w.heap.size]? = _ from heap_alloc_new w _]
  simp [hi]
attribute [local go_sem] run_equalIn_set10
theorem ex1 : ((lw (ofL [1, 3, 0, -1, 129, 3])).toNat : Int) = 5 ∧ ((hw (ofL [1, 3, 0, -1, 129, 3])).toNat : Int) = 0 := by decide +kernel
theorem ex2 : ((lw (allV 65)).toNat : Int) = 18446744073709551615 ∧ ((hw (allV 65)).toNat : Int) = 1 := by decide +kernel
theorem ex3 : less (ofL [2]) (ofL [1]) = true ∧ first (ofL [128, 3]) = 3 := by decide +kernel
set_option maxRecDepth 100000 in
set_option maxHeartbeats 1000000 in
theorem works_c (w : World) (hT : TabAt w) :
    Calls Tryd.prog 13 #[] w fun e w' => e = .returned (.bool true) ∧ Below w.heap.size w w' := by
  have hgl := hT.lt
  obtain ⟨x1, x2⟩ := ex1
  obtain ⟨x3, x4⟩ := ex2
  obtain ⟨x5, x6⟩ := ex3
  go_enter Tryd.func13, Tryd.ntmps13
  go_wp2_with fail
  refine (Of_c _ [1, 3, 0, -1, 129, 3] _ (IntsAt.lit w [1, 3, 0, -1, 129, 3] _ (by simp)) (by decide)).mono ?_; rintro e w1 ⟨rfl, hb1⟩
  have hB1 := ((Below.refl _ w).alloc (Nat.le_refl _) (.cells #[.int .i64 1, .int .i64 3, .int .i64 0, .int .i64 (-1), .int .i64 129, .int .i64 3] 3)).trans (hb1.mono (by simp))
  clear hb1
  go_wp2_with fail
  refine (All_c 65 _).mono ?_; rintro e w2 ⟨rfl, hb2⟩
  have hB2 := hB1.trans (hb2.mono hB1.size)
  clear hb2 hB1
  go_wp2_with fail
  refine (Of_c _ [2] _ (IntsAt.lit _ [2] _ (by simp)) (by decide)).mono ?_; rintro e w3 ⟨rfl, hb3⟩
  have hB3 := (hB2.alloc hB2.size (.cells #[.int .i64 2] 3)).trans (hb3.mono (by have := hB2.size; simp; omega))
  clear hb3 hB2
  go_wp2_with fail
  refine (Of_c _ [1] _ (IntsAt.lit _ [1] _ (by simp)) (by decide)).mono ?_; rintro e w4 ⟨rfl, hb4⟩
  have hB4 := (hB3.alloc hB3.size (.cells #[.int .i64 1] 3)).trans (hb4.mono (by have := hB3.size; simp; omega))
  clear hb4 hB3
  go_wp2_with fail
  refine (Less_c _ _ _ (hT.below hgl hB4)).mono ?_; rintro e w5 ⟨rfl, hb5⟩
  have hB5 := hB4.trans (hb5.mono hB4.size)
  clear hb5 hB4
  rw [x5]
  go_wp2_with fail
  refine (Of_c _ [128, 3] _ (IntsAt.lit _ [128, 3] _ (by simp)) (by decide)).mono ?_; rintro e w6 ⟨rfl, hb6⟩
  have hB6 := (hB5.alloc hB5.size (.cells #[.int .i64 128, .int .i64 3] 3)).trans (hb6.mono (by have := hB5.size; simp; omega))
  clear hb6 hB5
  go_wp2_with fail
  refine (First_c _ _ (hT.below hgl hB6)).mono ?_; rintro e w7 ⟨rfl, hb7⟩
  have hB7 := hB6.trans (hb7.mono hB6.size)
  clear hb7 hB6
  rw [x6]
  go_wp2_with fail
  go_ret
  exact ⟨rfl, hB7⟩
end Go.Proofs.YthckmpdnkinmlaaDoor
