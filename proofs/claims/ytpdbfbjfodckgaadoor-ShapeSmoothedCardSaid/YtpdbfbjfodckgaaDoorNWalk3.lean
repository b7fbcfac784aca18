/- Walks: forms of nodes, by the program and by the reference. -/
import Derived.Test.YtpdbfbjfodckgaaDoorNWalk2
namespace Go.Proofs.YtpdbfbjfodckgaaDoor
open Go.RowKit

/-- A node's value; its inputs are the slice v. -/
abbrev encN (x : NodeT) (v : Value) : Value := .agg #[.int .i64 x.kind, .int .i64 x.lit, v]
theorem kinds (k : Int) : k = 0 ∨ k = 1 ∨ k = 2 ∨ k = 3 ∨ k = 4 ∨ ((k == 0) = false ∧ (k == 1) = false ∧ (k == 2) = false ∧ (k == 3) = false ∧ (k == 4) = false) := by
  simp only [beq_eq_false_iff_ne]; omega
theorem lens (l : List Int) : (((l.length : Int) == 0) = true ∧ decide (l = []) = true) ∨ (((l.length : Int) == 0) = false ∧ decide (l = []) = false) := by
  cases l with
  | nil => exact .inl ⟨by simp, by simp⟩
  | cons a t => exact .inr ⟨by simp <;> omega, by simp⟩
theorem zeros (l : Int) : l = 0 ∨ ((l == 0) = false ∧ decide (l = 0) = false) := by
  by_cases h : l = 0
  · exact .inl h
  · exact .inr ⟨by simp [h], by simp [h]⟩
set_option maxRecDepth 100000 in
set_option maxHeartbeats 2000000 in
theorem formed_c (k li : Int) (ins : List Int) (v : Value) (n before : Int) (w : World) (hI : IntsAt w v ins) (hl : ins.length ≤ 140737488355328) :
    Calls Tryd.prog 41 #[.agg #[.int .i64 k, .int .i64 li, v], .int .i64 n, .int .i64 before] w fun e w' => e = .returned (.bool (formed ⟨k, li, ins⟩ n before)) ∧ Below w.heap.size w w' := by
  have hB : Below w.heap.size w ((w.alloc (.cells #[.int .i64 k, .int .i64 li, v] 39)).alloc (.cells #[.int .i64 before] 3)) := ((Below.refl _ w).alloc (Nat.le_refl _) _).alloc (by simp) _
  have hI' := (hI.below ((Below.refl _ w).alloc (Nat.le_refl _) (.cells #[.int .i64 k, .int .i64 li, v] 39))).below ((Below.refl _ (w.alloc (.cells #[.int .i64 k, .int .i64 li, v] 39))).alloc (Nat.le_refl _) (.cells #[.int .i64 before] 3))
  have hmf : ∀ (fn : Fn) (first cap : Array Value) (w : World), (Instr.makeFunc fn first cap).run Tryd.prog w = .ok (.func fn first cap) w := fun _ _ _ _ => rfl
  obtain ⟨p, c, rfl, _⟩ := hI
  cases hb : badIn ins before
  · rcases kinds k with rfl | rfl | rfl | rfl | rfl | ⟨e0, e1, e2, e3, e4⟩
    · rcases zeros li with rfl | ⟨z, z'⟩
      · rcases lens ins with ⟨l0, l1⟩ | ⟨l0, l1⟩ <;>
        · go_enter Tryd.func41, Tryd.ntmps41
          go_wp2_with (first | (go_at_call 67; refine (ContainsFunc_c _ ins before _ _ hI' (by simp [go_sem]) hl).mono ?_; rintro e w1 ⟨rfl, rfl⟩; rw [hb]) | (go_at_call 72; refine (litValid_c _ _ _).mono ?_; rintro e w1 ⟨rfl, rfl⟩; (try (rw [hv]))))
          go_ret
          exact ⟨by simp [formed, hb, l1], hB⟩
      · go_enter Tryd.func41, Tryd.ntmps41
        go_wp2_with (first | (go_at_call 67; refine (ContainsFunc_c _ ins before _ _ hI' (by simp [go_sem]) hl).mono ?_; rintro e w1 ⟨rfl, rfl⟩; rw [hb]) | (go_at_call 72; refine (litValid_c _ _ _).mono ?_; rintro e w1 ⟨rfl, rfl⟩; (try (rw [hv]))))
        go_ret
        exact ⟨by simp [formed, hb, z'], hB⟩
    · rcases zeros li with rfl | ⟨z, z'⟩
      · rcases lens ins with ⟨l0, l1⟩ | ⟨l0, l1⟩ <;>
        · go_enter Tryd.func41, Tryd.ntmps41
          go_wp2_with (first | (go_at_call 67; refine (ContainsFunc_c _ ins before _ _ hI' (by simp [go_sem]) hl).mono ?_; rintro e w1 ⟨rfl, rfl⟩; rw [hb]) | (go_at_call 72; refine (litValid_c _ _ _).mono ?_; rintro e w1 ⟨rfl, rfl⟩; (try (rw [hv]))))
          go_ret
          exact ⟨by simp [formed, hb, l1], hB⟩
      · go_enter Tryd.func41, Tryd.ntmps41
        go_wp2_with (first | (go_at_call 67; refine (ContainsFunc_c _ ins before _ _ hI' (by simp [go_sem]) hl).mono ?_; rintro e w1 ⟨rfl, rfl⟩; rw [hb]) | (go_at_call 72; refine (litValid_c _ _ _).mono ?_; rintro e w1 ⟨rfl, rfl⟩; (try (rw [hv]))))
        go_ret
        exact ⟨by simp [formed, hb, z'], hB⟩
    · cases hv : litValid li n
      · go_enter Tryd.func41, Tryd.ntmps41
        go_wp2_with (first | (go_at_call 67; refine (ContainsFunc_c _ ins before _ _ hI' (by simp [go_sem]) hl).mono ?_; rintro e w1 ⟨rfl, rfl⟩; rw [hb]) | (go_at_call 72; refine (litValid_c _ _ _).mono ?_; rintro e w1 ⟨rfl, rfl⟩; (try (rw [hv]))))
        go_ret
        exact ⟨by simp [formed, hb, hv], hB⟩
      · rcases lens ins with ⟨l0, l1⟩ | ⟨l0, l1⟩ <;>
        · go_enter Tryd.func41, Tryd.ntmps41
          go_wp2_with (first | (go_at_call 67; refine (ContainsFunc_c _ ins before _ _ hI' (by simp [go_sem]) hl).mono ?_; rintro e w1 ⟨rfl, rfl⟩; rw [hb]) | (go_at_call 72; refine (litValid_c _ _ _).mono ?_; rintro e w1 ⟨rfl, rfl⟩; (try (rw [hv]))))
          go_ret
          exact ⟨by simp [formed, hb, hv, l1], hB⟩
    · rcases zeros li with rfl | ⟨z, z'⟩
      · go_enter Tryd.func41, Tryd.ntmps41
        go_wp2_with (first | (go_at_call 67; refine (ContainsFunc_c _ ins before _ _ hI' (by simp [go_sem]) hl).mono ?_; rintro e w1 ⟨rfl, rfl⟩; rw [hb]) | (go_at_call 72; refine (litValid_c _ _ _).mono ?_; rintro e w1 ⟨rfl, rfl⟩; (try (rw [hv]))))
        go_ret
        exact ⟨by simp [formed, hb], hB⟩
      · go_enter Tryd.func41, Tryd.ntmps41
        go_wp2_with (first | (go_at_call 67; refine (ContainsFunc_c _ ins before _ _ hI' (by simp [go_sem]) hl).mono ?_; rintro e w1 ⟨rfl, rfl⟩; rw [hb]) | (go_at_call 72; refine (litValid_c _ _ _).mono ?_; rintro e w1 ⟨rfl, rfl⟩; (try (rw [hv]))))
        go_ret
        exact ⟨by simp [formed, hb, z'], hB⟩
    · rcases zeros li with rfl | ⟨z, z'⟩
      · go_enter Tryd.func41, Tryd.ntmps41
        go_wp2_with (first | (go_at_call 67; refine (ContainsFunc_c _ ins before _ _ hI' (by simp [go_sem]) hl).mono ?_; rintro e w1 ⟨rfl, rfl⟩; rw [hb]) | (go_at_call 72; refine (litValid_c _ _ _).mono ?_; rintro e w1 ⟨rfl, rfl⟩; (try (rw [hv]))))
        go_ret
        exact ⟨by simp [formed, hb], hB⟩
      · go_enter Tryd.func41, Tryd.ntmps41
        go_wp2_with (first | (go_at_call 67; refine (ContainsFunc_c _ ins before _ _ hI' (by simp [go_sem]) hl).mono ?_; rintro e w1 ⟨rfl, rfl⟩; rw [hb]) | (go_at_call 72; refine (litValid_c _ _ _).mono ?_; rintro e w1 ⟨rfl, rfl⟩; (try (rw [hv]))))
        go_ret
        exact ⟨by simp [formed, hb, z'], hB⟩
    · have f0 : ¬ k = 0 := by simpa using e0
      have f1 : ¬ k = 1 := by simpa using e1
      have f2 : ¬ k = 2 := by simpa using e2
      have f3 : ¬ k = 3 := by simpa using e3
      have f4 : ¬ k = 4 := by simpa using e4
      go_enter Tryd.func41, Tryd.ntmps41
      go_wp2_with (first | (go_at_call 67; refine (ContainsFunc_c _ ins before _ _ hI' (by simp [go_sem]) hl).mono ?_; rintro e w1 ⟨rfl, rfl⟩; rw [hb]) | (go_at_call 72; refine (litValid_c _ _ _).mono ?_; rintro e w1 ⟨rfl, rfl⟩; (try (rw [hv]))))
      go_ret
      exact ⟨by simp [formed, hb, f0, f1, f2, f3, f4], hB⟩
  · go_enter Tryd.func41, Tryd.ntmps41
    go_wp2_with (go_at_call 67; refine (ContainsFunc_c _ ins before _ _ hI' (by simp [go_sem]) hl).mono ?_; rintro e w1 ⟨rfl, rfl⟩; rw [hb])
    go_ret
    exact ⟨by simp [formed, hb], hB⟩
end Go.Proofs.YtpdbfbjfodckgaaDoor
