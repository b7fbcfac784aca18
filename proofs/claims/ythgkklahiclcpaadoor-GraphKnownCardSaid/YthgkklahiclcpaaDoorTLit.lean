/- Literals and theories: plain forms, memory, the walks of Var and Valid. -/
import Derived.Test.YthgkklahiclcpaaDoorSLaw3
namespace Go.Proofs.YthgkklahiclcpaaDoor
open Go.RowKit

/-- The variable of a literal, or 0. -/
def litV (l : Int) : Int := if 1 ≤ l ∧ l ≤ 128 then l else if l ≤ -1 ∧ -128 ≤ l then -l else 0
theorem litV_range (l : Int) : 0 ≤ litV l ∧ litV l ≤ 128 := by unfold litV; split <;> (try split) <;> omega
def litOK (n l : Int) : Bool := litV l != 0 && decide (litV l ≤ n)
def litOK2 (n l : Int) : Bool := l != 0 && (decide (-n ≤ l) && decide (l ≤ n))
theorem litOK_eq {n : Int} (h : 0 ≤ n) (h2 : n ≤ 128) (l : Int) : litOK2 n l = litOK n l := by
  rw [Bool.eq_iff_iff]
  unfold litOK litOK2 litV
  simp only [Bool.and_eq_true, bne_iff_ne, ne_eq, decide_eq_true_eq]
  split
  · omega
  · split <;> omega
def clauseP (n : Int) (c : List Int) : Int := if 128 < c.length then 2 else if c.all (litOK n) = true then 0 else 1
def checkL (n : Int) : List (List Int) → Int
  | [] => 0
  | c :: L => if clauseP n c = 0 then checkL n L else clauseP n c
def checkP (n : Int) (L : List (List Int)) : Int := if n < 0 ∨ 128 < n then 6 else if 4096 < L.length then 2 else checkL n L
/-- A slice of slices of ints. -/
def LitsAt (w : World) (v : Value) (L : List (List Int)) : Prop :=
  ∃ p c, v = .slice p L.length c ∧ (L = [] ∨ ∃ b off, p = some ⟨b, off, none⟩ ∧ ∀ i (h : i < L.length), ∃ u, w.cell? ⟨b, off + i, none⟩ = some u ∧ IntsAt w u L[i])
theorem LitsAt.below {w w' : World} {v : Value} {L : List (List Int)} (h : LitsAt w v L) (hb : Below w.heap.size w w') : LitsAt w' v L := by
  obtain ⟨p, c, rfl, h0⟩ := h
  refine ⟨p, c, rfl, h0.imp id ?_⟩
  rintro ⟨b, off, rfl, hh⟩
  refine ⟨b, off, rfl, fun i hi => ?_⟩
  obtain ⟨u, h1, h2⟩ := hh i hi
  exact ⟨u, (hb.cell (cell_lt h1)).trans h1, h2.below hb⟩
set_option maxHeartbeats 1000000 in
theorem litVar_c (l : Int) (w : World) : Calls Tryd.prog 58 #[.int .i64 l] w fun e w' => e = .returned (.int .i64 (litV l)) ∧ Below w.heap.size w w' := by
  by_cases h1 : 1 ≤ l
  · by_cases h2 : l ≤ 128
    · have e : litV l = l := by unfold litV; rw [if_pos ⟨h1, h2⟩]
      rw [e]
      clear e
      go_enter Tryd.func58, Tryd.ntmps58
      go_wp2
      go_ret
      exact ⟨rfl, Below.refl _ _⟩
    · have e : litV l = 0 := by unfold litV; rw [if_neg (by omega), if_neg (by omega)]
      rw [e]
      have h3 : ¬ l ≤ -1 := by omega
      clear e
      go_enter Tryd.func58, Tryd.ntmps58
      go_wp2
      go_ret
      exact ⟨rfl, Below.refl _ _⟩
  · by_cases h2 : l ≤ -1
    · by_cases h3 : -128 ≤ l
      · have e : litV l = -l := by unfold litV; rw [if_neg (by omega), if_pos ⟨h2, h3⟩]
        rw [e]
        clear e
        go_enter Tryd.func58, Tryd.ntmps58
        go_wp2
        go_ret
        exact ⟨rfl, Below.refl _ _⟩
      · have e : litV l = 0 := by unfold litV; rw [if_neg (by omega), if_neg (by omega)]
        rw [e]
        clear e
        go_enter Tryd.func58, Tryd.ntmps58
        go_wp2
        go_ret
        exact ⟨rfl, Below.refl _ _⟩
    · have e : litV l = 0 := by unfold litV; rw [if_neg (by omega), if_neg (by omega)]
      rw [e]
      clear e
      go_enter Tryd.func58, Tryd.ntmps58
      go_wp2
      go_ret
      exact ⟨rfl, Below.refl _ _⟩
set_option maxHeartbeats 1000000 in
theorem rVar_c (l : Int) (w : World) : Calls Tryd.prog 62 #[.int .i64 l] w fun e w' => e = .returned (.int .i64 (litV l)) ∧ Below w.heap.size w w' := by
  by_cases h1 : 1 ≤ l
  · by_cases h2 : l ≤ 128
    · have e : litV l = l := by unfold litV; rw [if_pos ⟨h1, h2⟩]
      rw [e]
      clear e
      go_enter Tryd.func62, Tryd.ntmps62
      go_wp2
      go_ret
      exact ⟨rfl, Below.refl _ _⟩
    · have e : litV l = 0 := by unfold litV; rw [if_neg (by omega), if_neg (by omega)]
      rw [e]
      have h3 : ¬ l ≤ -1 := by omega
      have h4 : -128 ≤ l := by omega
      clear e
      go_enter Tryd.func62, Tryd.ntmps62
      go_wp2
      go_ret
      exact ⟨rfl, Below.refl _ _⟩
  · by_cases h2 : l ≤ -1
    · by_cases h3 : -128 ≤ l
      · have e : litV l = -l := by unfold litV; rw [if_neg (by omega), if_pos ⟨h2, h3⟩]
        rw [e]
        clear e
        go_enter Tryd.func62, Tryd.ntmps62
        go_wp2
        go_ret
        exact ⟨rfl, Below.refl _ _⟩
      · have e : litV l = 0 := by unfold litV; rw [if_neg (by omega), if_neg (by omega)]
        rw [e]
        clear e
        go_enter Tryd.func62, Tryd.ntmps62
        go_wp2
        go_ret
        exact ⟨rfl, Below.refl _ _⟩
    · have e : litV l = 0 := by unfold litV; rw [if_neg (by omega), if_neg (by omega)]
      rw [e]
      have h3 : -128 ≤ l := by omega
      clear e
      go_enter Tryd.func62, Tryd.ntmps62
      go_wp2
      go_ret
      exact ⟨rfl, Below.refl _ _⟩
set_option maxHeartbeats 1000000 in
theorem litValid_c (l n : Int) (w : World) : Calls Tryd.prog 70 #[.int .i64 l, .int .i64 n] w fun e w' => e = .returned (.bool (litOK n l)) ∧ Below w.heap.size w w' := by
  have HV := hid (fun w' => litVar_c l w')
  have hr := litV_range l
  unfold litOK
  generalize litV l = x at *
  cases h0 : x != 0 with
  | false =>
    go_enter Tryd.func70, Tryd.ntmps70
    go_wp2_with fail
    refine (HV.out w).mono ?_
    rintro e w1 ⟨rfl, hb1⟩
    go_wp2_with fail
    go_ret
    exact ⟨rfl, hb1⟩
  | true =>
    go_enter Tryd.func70, Tryd.ntmps70
    go_wp2_with fail
    refine (HV.out w).mono ?_
    rintro e w1 ⟨rfl, hb1⟩
    go_wp2_with fail
    refine (HV.out w1).mono ?_
    rintro e w2 ⟨rfl, hb2⟩
    have hB := hb1.trans (hb2.mono hb1.size)
    go_wp2_with fail
    go_ret
    exact ⟨by simp, hB⟩
set_option maxHeartbeats 1000000 in
theorem rLitValid_c (l n : Int) (w : World) (hn : 0 ≤ n ∧ n ≤ 128) : Calls Tryd.prog 72 #[.int .i64 l, .int .i64 n] w fun e w' => e = .returned (.bool (litOK n l)) ∧ Below w.heap.size w w' := by
  rw [← litOK_eq hn.1 hn.2]
  unfold litOK2
  go_enter Tryd.func72, Tryd.ntmps72
  go_wp2_with fail
  all_goals
    go_ret
    refine ⟨?_, Below.refl _ _⟩
    first | (simp_all; done) | (simp_all; intro _; omega)
end Go.Proofs.YthgkklahiclcpaaDoor
