/- Walks: the laws' example of the layer graph. -/
import Derived.Test.YthgkklahiclcpaaDoorSRef6
import Derived.KernelRfl
namespace Go.Proofs.YthgkklahiclcpaaDoor
open Go.RowKit

def cyc : List VS := [0#128, 10#128, 5#128, 10#128, 5#128]
theorem cyc_fill : orderP fillC cyc = [1, 2, 3, 4] := by decide +kernel
theorem cyc_deg : orderP degC cyc = [1, 2, 3, 4] := by decide +kernel
theorem cyc_width : widthP cyc [1, 2, 3, 4] = 2 := by decide +kernel
theorem cyc_width2 : widthP cyc [1, 2, 3] = -1 := by decide +kernel
theorem lit_ints (w : World) (l : List Int) (T : Nat) (_h : l ≠ []) : IntsAt (w.alloc (.cells (l.map (Value.int .i64)).toArray T)) (.slice (some ⟨w.heap.size, 0, none⟩) l.length l.length) l := by
  refine ⟨_, _, rfl, .inr ⟨w.heap.size, 0, rfl, fun i hi => ?_⟩⟩
  rw [World.cell?, show (w.alloc (.cells (l.map (Value.int .i64)).toArray T)).heap[w.heap.size]? = _ from heap_alloc_new w _]
  simp [hi]
theorem lit_sets (w : World) (L : List VS) (C : Array Value) (hC : C.toList = setCells L) : SetRow (w.alloc (.cells C 35)) w.heap.size L :=
  setRow_of_take (heap_alloc_new w _) (by rw [hC, ← setCells_length, List.take_length])
set_option maxRecDepth 100000 in
set_option maxHeartbeats 1000000 in
theorem cycle_c (w : World) : Calls Tryd.prog 37 #[] w fun e w' => e = .returned (.slice (some ⟨w.heap.size, 0, none⟩) cyc.length 5) ∧ SetRow w' w.heap.size cyc ∧ Below w.heap.size w w' := by
  have h := lit_sets w cyc #[.int .u64 0, .int .u64 0, .int .u64 10, .int .u64 0, .int .u64 5, .int .u64 0, .int .u64 10, .int .u64 0, .int .u64 5, .int .u64 0] (by kernel_rfl)
  have HS := hid h
  clear h
  go_enter Tryd.func37, Tryd.ntmps37
  go_wp2_with fail
  go_ret
  exact ⟨rfl, HS.out, (Below.refl _ w).alloc (Nat.le_refl _) _⟩
set_option maxRecDepth 100000 in
set_option maxHeartbeats 4000000 in
theorem works_c (w : World) (hT : TabAt w) : Calls Tryd.prog 13 #[] w fun e w' => e = .returned (.bool true) ∧ Below w.heap.size w w' := by
  go_enter Tryd.func13, Tryd.ntmps13
  go_wp2_with fail
  refine (cycle_c w).mono ?_
  rintro e w1 ⟨rfl, hR1, hB1⟩
  go_wp2_with fail
  refine (MinFill_c _ cyc w1 (hR1.sets 5) (hT.below hT.lt hB1) (by decide)).mono ?_
  rintro e w2 ⟨v2, rfl, hn2, hb2⟩
  rw [cyc_fill] at hn2
  have hR2 := hR1.below hb2 hR1.lt
  have hB2 := hB1.trans (hb2.mono hB1.size)
  obtain ⟨p2, c2, e2, hdrop⟩ := hn2.ints
  subst e2
  clear hdrop hR1 hB1 hb2
  have hi2 := hn2.ints
  have HI2 := hid (fun o => hi2.below ((Below.refl _ w2).alloc (Nat.le_refl _) o))
  have HL2 := hid (lit_ints w2 [1, 2, 3, 4] 3 (by simp))
  have hB2' := hB2.alloc hB2.size (.cells #[.int .i64 1, .int .i64 2, .int .i64 3, .int .i64 4] 3)
  have hR2' := hR2.alloc (.cells #[.int .i64 1, .int .i64 2, .int .i64 3, .int .i64 4] 3)
  clear hn2 hi2 hR2 hB2
  go_wp2_with fail
  refine (sameInts_c _ _ [1, 2, 3, 4] [1, 2, 3, 4] _ (HI2.out _) HL2.out (by decide) (by decide)).mono ?_
  rintro e w3 ⟨rfl, hb3⟩
  rw [decide_eq_true (rfl : ([1, 2, 3, 4] : List Int) = [1, 2, 3, 4])]
  have hR3 := hR2'.below hb3 hR2'.lt
  have hB3 := hB2'.trans (hb3.mono hB2'.size)
  clear HI2 HL2 hB2' hR2' hb3
  go_wp2_with fail
  refine (MinDegree_c _ cyc w3 (hR3.sets 5) (hT.below hT.lt hB3) (by decide)).mono ?_
  rintro e w4 ⟨v4, rfl, hn4, hb4⟩
  rw [cyc_deg] at hn4
  have hR4 := hR3.below hb4 hR3.lt
  have hB4 := hB3.trans (hb4.mono hB3.size)
  obtain ⟨p4, c4, e4, hdrop⟩ := hn4.ints
  subst e4
  clear hdrop hR3 hB3 hb4
  have hi4 := hn4.ints
  have HI4 := hid (fun o => hi4.below ((Below.refl _ w4).alloc (Nat.le_refl _) o))
  have HL4 := hid (lit_ints w4 [1, 2, 3, 4] 3 (by simp))
  have hB4' := hB4.alloc hB4.size (.cells #[.int .i64 1, .int .i64 2, .int .i64 3, .int .i64 4] 3)
  have hR4' := hR4.alloc (.cells #[.int .i64 1, .int .i64 2, .int .i64 3, .int .i64 4] 3)
  clear hn4 hi4 hR4 hB4
  go_wp2_with fail
  refine (sameInts_c _ _ [1, 2, 3, 4] [1, 2, 3, 4] _ (HI4.out _) HL4.out (by decide) (by decide)).mono ?_
  rintro e w5 ⟨rfl, hb5⟩
  rw [decide_eq_true (rfl : ([1, 2, 3, 4] : List Int) = [1, 2, 3, 4])]
  have hR5 := hR4'.below hb5 hR4'.lt
  have hB5 := hB4'.trans (hb5.mono hB4'.size)
  clear HI4 HL4 hB4' hR4' hb5
  have hR6 := hR5.alloc (.cells #[.int .i64 1, .int .i64 2, .int .i64 3, .int .i64 4] 3)
  have hB6 := hB5.alloc hB5.size (.cells #[.int .i64 1, .int .i64 2, .int .i64 3, .int .i64 4] 3)
  have HL6 := hid (lit_ints w5 [1, 2, 3, 4] 3 (by simp))
  clear hR5 hB5
  go_wp2_with fail
  refine (Width_c _ _ cyc [1, 2, 3, 4] _ (hR6.sets 5) HL6.out (hT.below hT.lt hB6) (by decide) (by decide)).mono ?_
  rintro e w7 ⟨rfl, hb7⟩
  rw [cyc_width]
  have hR7 := hR6.below hb7 hR6.lt
  have hB7 := hB6.trans (hb7.mono hB6.size)
  clear HL6 hR6 hB6 hb7
  have hR8 := hR7.alloc (.cells #[.int .i64 1, .int .i64 2, .int .i64 3] 3)
  have hB8 := hB7.alloc hB7.size (.cells #[.int .i64 1, .int .i64 2, .int .i64 3] 3)
  have HL8 := hid (lit_ints w7 [1, 2, 3] 3 (by simp))
  clear hR7 hB7
  go_wp2_with fail
  refine (Width_c _ _ cyc [1, 2, 3] _ (hR8.sets 5) HL8.out (hT.below hT.lt hB8) (by decide) (by decide)).mono ?_
  rintro e w9 ⟨rfl, hb9⟩
  rw [cyc_width2]
  have hB9 := hB8.trans (hb9.mono hB8.size)
  clear HL8 hR8 hB8 hb9
  go_wp2_with fail
  go_ret
  exact ⟨rfl, hB9⟩
end Go.Proofs.YthgkklahiclcpaaDoor
