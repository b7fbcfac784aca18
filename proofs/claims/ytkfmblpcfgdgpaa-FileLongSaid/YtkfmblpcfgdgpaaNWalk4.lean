/- Walks: forms of nodes, by the program and by the reference. -/
import Derived.Test.YtkfmblpcfgdgpaaNWalk3
namespace Go.Proofs.Ytkfmblpcfgdgpaa
open Go.RowKit

set_option maxRecDepth 100000 in
set_option maxHeartbeats 2000000 in
theorem rFormed_c (k li : Int) (ins : List Int) (v : Value) (n before : Int) (w : World) (hI : IntsAt w v ins) (hl : ins.length ≤ 140737488355328) :
    Calls Try.prog 46 #[.agg #[.int .i64 k, .int .i64 li, v], .int .i64 n, .int .i64 before] w fun e w' => e = .returned (.bool (formed ⟨k, li, ins⟩ n before)) ∧ Below w.heap.size w w' := by
  have hB : Below w.heap.size w (w.alloc (.cells #[.int .i64 k, .int .i64 li, v] 46)) := (Below.refl _ w).alloc (Nat.le_refl _) _
  have hI' := hI.below ((Below.refl _ w).alloc (Nat.le_refl _) (.cells #[.int .i64 k, .int .i64 li, v] 46))
  obtain ⟨p, c, e, hI2⟩ := hI'
  subst e
  have HI := hid hI2
  clear hI2 hI
  go_enter Try.func46, Try.ntmps46
  go_wp2_with fail
  go_loop [7] (fun i => ∃ j : Nat, j ≤ ins.length ∧ i = .int .i64 j ∧ Hid (badIn (ins.take j) before = false)) (fun i => ins.length - (intOf i).toNat)
  case atStart => exact ⟨0, Nat.zero_le _, rfl, rfl⟩
  case round =>
    obtain ⟨j, hj, rfl, hb⟩ := hrel
    by_cases hlt : j < ins.length
    · obtain ⟨b, off, rfl, hI⟩ := HI.out.resolve_left (by intro e; rw [e] at hlt; simp at hlt)
      have hc1 := hI j hlt
      rw [List.getElem?_eq_getElem hlt, Option.getD_some] at hc1
      have HT := hid (badIn_take ins before j hlt)
      have HF := hid (badIn_true ins before j hlt)
      clear hI
      generalize ins[j] = x at *
      by_cases h1 : x < 0
      · have hx : bad1 before x = true := by unfold bad1; simp [h1]
        have hbb := HF.out hx
        go_wp2
        go_ret
        exact ⟨by simp [formed, hbb], hB⟩
      · by_cases h2 : before ≤ x
        · have hx : bad1 before x = true := by unfold bad1; simp [h2]
          have hbb := HF.out hx
          go_wp2
          go_ret
          exact ⟨by simp [formed, hbb], hB⟩
        · have hx : bad1 before x = false := by
            unfold bad1; rw [show decide (x < 0) = false from decide_eq_false h1, show decide (before ≤ x) = false from decide_eq_false h2]; rfl
          go_wp2
          go_round
          case rel => exact ⟨j + 1, by omega, by go_num, by show badIn _ _ = false; rw [HT.out, hb.out, hx]; rfl⟩
          case measure => simp [intOf]; omega
    · obtain rfl : j = ins.length := by omega
      have hbb : badIn ins before = false := by have := hb.out; rw [List.take_length] at this; exact this
      rcases kinds k with rfl | rfl | rfl | rfl | rfl | ⟨e0, e1, e2, e3, e4⟩
      · rcases zeros li with rfl | ⟨z, z'⟩
        · rcases lens ins with ⟨l0, l1⟩ | ⟨l0, l1⟩ <;>
          · go_wp2_with (go_at_call 54; refine (rValid_c _ _ _).mono ?_; rintro e w1 ⟨rfl, rfl⟩; (try (rw [hv])))
            go_ret
            exact ⟨by simp [formed, hbb, l1], hB⟩
        · go_wp2_with (go_at_call 54; refine (rValid_c _ _ _).mono ?_; rintro e w1 ⟨rfl, rfl⟩; (try (rw [hv])))
          go_ret
          exact ⟨by simp [formed, hbb, z'], hB⟩
      · rcases zeros li with rfl | ⟨z, z'⟩
        · rcases lens ins with ⟨l0, l1⟩ | ⟨l0, l1⟩ <;>
          · go_wp2_with (go_at_call 54; refine (rValid_c _ _ _).mono ?_; rintro e w1 ⟨rfl, rfl⟩; (try (rw [hv])))
            go_ret
            exact ⟨by simp [formed, hbb, l1], hB⟩
        · go_wp2_with (go_at_call 54; refine (rValid_c _ _ _).mono ?_; rintro e w1 ⟨rfl, rfl⟩; (try (rw [hv])))
          go_ret
          exact ⟨by simp [formed, hbb, z'], hB⟩
      · cases hv : litValid li n
        · go_wp2_with (go_at_call 54; refine (rValid_c _ _ _).mono ?_; rintro e w1 ⟨rfl, rfl⟩; (try (rw [hv])))
          go_ret
          exact ⟨by simp [formed, hbb, hv], hB⟩
        · rcases lens ins with ⟨l0, l1⟩ | ⟨l0, l1⟩ <;>
          · go_wp2_with (go_at_call 54; refine (rValid_c _ _ _).mono ?_; rintro e w1 ⟨rfl, rfl⟩; (try (rw [hv])))
            go_ret
            exact ⟨by simp [formed, hbb, hv, l1], hB⟩
      · rcases zeros li with rfl | ⟨z, z'⟩
        · go_wp2_with (go_at_call 54; refine (rValid_c _ _ _).mono ?_; rintro e w1 ⟨rfl, rfl⟩; (try (rw [hv])))
          go_ret
          exact ⟨by simp [formed, hbb], hB⟩
        · go_wp2_with (go_at_call 54; refine (rValid_c _ _ _).mono ?_; rintro e w1 ⟨rfl, rfl⟩; (try (rw [hv])))
          go_ret
          exact ⟨by simp [formed, hbb, z'], hB⟩
      · rcases zeros li with rfl | ⟨z, z'⟩
        · go_wp2_with (go_at_call 54; refine (rValid_c _ _ _).mono ?_; rintro e w1 ⟨rfl, rfl⟩; (try (rw [hv])))
          go_ret
          exact ⟨by simp [formed, hbb], hB⟩
        · go_wp2_with (go_at_call 54; refine (rValid_c _ _ _).mono ?_; rintro e w1 ⟨rfl, rfl⟩; (try (rw [hv])))
          go_ret
          exact ⟨by simp [formed, hbb, z'], hB⟩
      · have f0 : ¬ k = 0 := by simpa using e0
        have f1 : ¬ k = 1 := by simpa using e1
        have f2 : ¬ k = 2 := by simpa using e2
        have f3 : ¬ k = 3 := by simpa using e3
        have f4 : ¬ k = 4 := by simpa using e4
        go_wp2_with (go_at_call 54; refine (rValid_c _ _ _).mono ?_; rintro e w1 ⟨rfl, rfl⟩; (try (rw [hv])))
        go_ret
        exact ⟨by simp [formed, hbb, f0, f1, f2, f3, f4], hB⟩
end Go.Proofs.Ytkfmblpcfgdgpaa
