/- Walks: variables of literals, forms of nodes; which nets are valid, by the program and by the reference. -/
import Derived.Test.YtpdbfbjfodckgaaDoorIMem
import Derived.Test.YtpdbfbjfodckgaaDoorNPlain
namespace Go.Proofs.YtpdbfbjfodckgaaDoor
open Go.RowKit

theorem ret_bool {a b : Bool} (h : a = b) : Ending.returned (.bool a) = .returned (.bool b) := by rw [h]
theorem litVar_c (l : Int) (w : World) : Calls Tryd.prog 56 #[.int .i64 l] w fun e w' => e = .returned (.int .i64 (litVar l)) ∧ w = w' := by
  by_cases h1 : 1 ≤ l
  · by_cases h2 : l ≤ 128
    · have e : litVar l = l := by unfold litVar; simp [h1, h2]
      go_enter Tryd.func56, Tryd.ntmps56
      go_wp2
      go_ret
      exact ⟨ret_int e.symm, rfl⟩
    · have e : litVar l = 0 := by unfold litVar; rw [if_neg (by omega), if_neg (by omega)]
      have h3 : ¬ l ≤ -1 := by omega
      go_enter Tryd.func56, Tryd.ntmps56
      go_wp2
      go_ret
      exact ⟨rfl, rfl⟩
  · by_cases h2 : l ≤ -1
    · by_cases h3 : -128 ≤ l
      · have e : litVar l = -l := by unfold litVar; rw [if_neg (by omega), if_pos ⟨h2, h3⟩]
        go_enter Tryd.func56, Tryd.ntmps56
        go_wp2
        go_ret
        exact ⟨rfl, rfl⟩
      · have e : litVar l = 0 := by unfold litVar; rw [if_neg (by omega), if_neg (by omega)]
        go_enter Tryd.func56, Tryd.ntmps56
        go_wp2
        go_ret
        exact ⟨rfl, rfl⟩
    · have e : litVar l = 0 := by unfold litVar; rw [if_neg (by omega), if_neg (by omega)]
      go_enter Tryd.func56, Tryd.ntmps56
      go_wp2
      go_ret
      exact ⟨rfl, rfl⟩
theorem litValid_c (l n : Int) (w : World) : Calls Tryd.prog 72 #[.int .i64 l, .int .i64 n] w fun e w' => e = .returned (.bool (litValid l n)) ∧ w = w' := by
  by_cases h : litVar l = 0
  · have hb : (litVar l != 0) = false := by simp [h]
    go_enter Tryd.func72, Tryd.ntmps72
    go_wp2_with (go_at_call 56; refine (litVar_c _ _).mono ?_; rintro e w1 ⟨rfl, rfl⟩)
    go_ret
    exact ⟨by unfold litValid; simp [h], rfl⟩
  · have hb : (litVar l != 0) = true := by simp [h]
    go_enter Tryd.func72, Tryd.ntmps72
    go_wp2_with (go_at_call 56; refine (litVar_c _ _).mono ?_; rintro e w1 ⟨rfl, rfl⟩)
    go_ret
    exact ⟨by unfold litValid; simp [h], rfl⟩
end Go.Proofs.YtpdbfbjfodckgaaDoor
