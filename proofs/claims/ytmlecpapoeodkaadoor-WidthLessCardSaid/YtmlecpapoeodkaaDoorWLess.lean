/- Plain mathematics: an edge less. No program in sight. -/
import Derived.Test.YtmlecpapoeodkaaDoorWDec
namespace Go.Proofs.YtmlecpapoeodkaaDoor

theorem gOf_set' (L : List VS) {a : Int} (h0 : 0 ≤ a) (h : a < (L.length : Int)) (s : VS) (v : Int) : gOf (L.set a.toNat s) v = if v = a then s else gOf L v := by
  rw [gOf_set L _ (by omega) s v, show ((a.toNat : Nat) : Int) = a by omega]
def lessL (L : List VS) (a b : Int) : List VS := (L.set a.toNat (withoutV (gOf L a) b)).set b.toNat (withoutV (gOf (L.set a.toNat (withoutV (gOf L a) b)) b) a)
theorem lessL_length (L : List VS) (a b : Int) : (lessL L a b).length = L.length := by simp [lessL]
theorem has_less {L : List VS} {a b : Int} (ha : 1 ≤ a ∧ a < (L.length : Int)) (hb : 1 ≤ b ∧ b < (L.length : Int)) (u x : Int) : has (gOf (lessL L a b) u) x = true ↔ has (gOf L u) x = true ∧ ¬ (u = a ∧ x = b) ∧ ¬ (u = b ∧ x = a) := by
  unfold lessL
  rw [gOf_set' _ (by omega) (by rw [List.length_set]; omega)]
  rw [gOf_set' L (by omega) (by omega), gOf_set' L (by omega) (by omega)]
  by_cases h1 : u = b
  · subst h1
    rw [if_pos rfl, has_withoutV]
    by_cases h2 : u = a
    · subst h2
      rw [if_pos rfl, has_withoutV]
      generalize has (gOf L u) x = t
      cases t <;> simp
    · rw [if_neg h2]
      generalize has (gOf L u) x = t
      cases t <;> simp <;> omega
  · rw [if_neg h1]
    by_cases h2 : u = a
    · subst h2
      rw [if_pos rfl, has_withoutV]
      generalize has (gOf L u) x = t
      cases t <;> simp <;> omega
    · rw [if_neg h2]; simp [h1, h2]
theorem less_valid {L : List VS} (h : ValidG L) {a b : Int} (ha : 1 ≤ a ∧ a < (L.length : Int)) (hb : 1 ≤ b ∧ b < (L.length : Int)) : ValidG (lessL L a b) := by
  have hl := has_less ha hb
  have hs := h.sym
  refine ⟨by rw [lessL_length]; exact h.pos, by rw [lessL_length]; exact h.le, ?_, fun k _ _ => ⟨?_, fun w hw => ?_, fun w hw => ?_⟩⟩
  · apply zero_of_none
    intro w
    cases e : has (gOf (lessL L a b) 0) w with
    | false => rfl
    | true =>
      have := ((hl _ _).1 e).1
      rw [h.zero, has_zero] at this; cases this
  · cases e : has (gOf (lessL L a b) (k : Int)) (k : Int) with
    | false => rfl
    | true => exact absurd rfl (hs.ne ((hl _ _).1 e).1)
  · rw [lessL_length]; exact (h.range ((hl _ _).1 hw).1).2
  · obtain ⟨h1, h2, h3⟩ := (hl _ _).1 hw
    exact (hl _ _).2 ⟨hs.sym _ _ h1, fun e => h3 ⟨e.2, e.1⟩, fun e => h2 ⟨e.2, e.1⟩⟩
theorem cov_less {L B : List VS} {a b : Int} (ha : 1 ≤ a ∧ a < (L.length : Int)) (hb : 1 ≤ b ∧ b < (L.length : Int)) (h : Cov L B) : Cov (lessL L a b) B := by
  intro v w h1 h2 h3
  rw [lessL_length] at h2
  refine h v w h1 h2 ?_
  rcases h3 with h3 | h3
  · exact .inl h3
  · exact .inr ((has_less ha hb v w).1 h3).1
theorem lower_less {L : List VS} (h : ValidG L) {a b : Int} (ha : 1 ≤ a ∧ a < (L.length : Int)) (hb : 1 ≤ b ∧ b < (L.length : Int)) : lowerP (lessL L a b) ≤ lowerP L := by
  rcases lowerP_at (less_valid h ha hb) with h1 | ⟨c, h1, h2, h3⟩
  · rw [h1]; exact lowerP_pos
  · refine lowerP_ge h h1 (fun v hv => by have := h2 v hv; rwa [lessL_length] at this) fun v hv => ?_
    refine Int.le_trans (h3 v hv) ?_
    unfold degIn
    apply len_mono
    intro u hu
    rw [has_and, Bool.and_eq_true] at hu ⊢
    exact ⟨((has_less ha hb v u).1 hu.1).1, hu.2⟩
theorem check_less {L B : List VS} {U : List Int} (h : ValidG L) {a b : Int} (ha : 1 ≤ a ∧ a < (L.length : Int)) (hb : 1 ≤ b ∧ b < (L.length : Int)) :
    checkW (lessL L a b) B U = checkW L B U ∨ (checkW L B U = 3 ∧ (checkW (lessL L a b) B U = 0 ∨ checkW (lessL L a b) B U = 210)) := by
  have h1 := validG_yes h
  have h2 := validG_yes (less_valid h ha hb)
  unfold checkW
  rw [h1, h2, lessL_length]
  cases formedB B.length U
  · simp
  · cases inAll ((L.length : Int) - 1) B
    · simp
    · cases hc : covB L B
      · cases hd : covB (lessL L a b) B
        · simp
        · cases connB B U <;> simp
      · have : covB (lessL L a b) B = true := (covB_iff (less_valid h ha hb).zero).2 (cov_less ha hb ((covB_iff h.zero).1 hc))
        rw [this]; simp
end Go.Proofs.YtmlecpapoeodkaaDoor
