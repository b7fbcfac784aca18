/- Plain: which lists are orders; what widths and orders of lists of sets are. -/
import Derived.Test.YthgkklahiclcpaaDoorSPlain
namespace Go.Proofs.YthgkklahiclcpaaDoor

theorem len_with_le (s : VS) (v : Int) : len (withV s v) ≤ len s + (if 1 ≤ v ∧ v ≤ 128 then 1 else 0) := by
  by_cases hr : 1 ≤ v ∧ v ≤ 128
  · rw [if_pos hr]
    cases h : has s v with
    | true =>
      have e : withV s v = s := by
        apply ext_has; intro u _ _; rw [has_withV]
        by_cases e : u = v
        · subst e; simp [h]
        · simp [e]
      rw [e]; omega
    | false => rw [len_with h hr.1 hr.2]; omega
  · rw [if_neg hr, withV_no (by omega)]; omega
def inR (v : Int) : Bool := decide (1 ≤ v ∧ v ≤ 128)
theorem len_fold_le : ∀ (l : List Int) (s : VS), len (l.foldl withV s) ≤ len s + ((l.filter inR).length : Int)
  | [], s => by simp
  | v :: l, s => by
    have h1 := len_fold_le l (withV s v)
    have h2 := len_with_le s v
    rw [List.foldl_cons, List.filter_cons]
    unfold inR at *
    by_cases hr : 1 ≤ v ∧ v ≤ 128
    · rw [if_pos hr] at h2
      simp only [hr, and_self, decide_true, if_true, List.length_cons]
      push_cast; omega
    · rw [if_neg hr] at h2
      simp only [hr, decide_false, Bool.false_eq_true, if_false]
      omega
theorem allV_next {n : Int} (_h : 0 ≤ n) (_h2 : n < 128) : allV (n + 1) = withV (allV n) (n + 1) := by
  apply ext_has; intro v h1 h3
  rw [has_withV, has_allV, has_allV, Bool.eq_iff_iff]
  simp only [Bool.and_eq_true, Bool.or_eq_true, decide_eq_true_eq]
  omega
theorem len_allV : ∀ n : Nat, n ≤ 128 → len (allV (n : Int)) = (n : Int)
  | 0, _ => by
    have : allV ((0 : Nat) : Int) = 0 := zero_of_none fun v => by rw [has_allV]; simp; omega
    rw [this, len_zero]; rfl
  | n + 1, h => by
    push_cast
    rw [allV_next (by omega) (by omega), len_with ?_ (by omega) (by omega), len_allV n (by omega)]
    rw [has_allV]; simp; omega
/-- A list has each vertex of n once. -/
structure IsOrd (l : List Int) (n : Nat) : Prop where
  len : l.length = n
  mem : ∀ v, v ∈ l ↔ 1 ≤ v ∧ v ≤ (n : Int)
theorem isOrd_of {l : List Int} {n : Nat} (hn : n ≤ 128) (hl : l.length = n) (h : ofL l = allV (n : Int)) : IsOrd l n := by
  have h1 := len_fold_le l 0
  have h2 : len (ofL l) = (n : Int) := by rw [h, len_allV n hn]
  unfold ofL at h2
  rw [h2, len_zero] at h1
  have h3 := List.length_filter_le inR l
  have h4 : (l.filter inR).length = l.length := by omega
  have h5 : ∀ v ∈ l, inR v = true := List.length_filter_eq_length_iff.1 h4
  refine ⟨hl, fun v => ⟨fun hv => ?_, fun hv => ?_⟩⟩
  · have h6 : has (ofL l) v = true := by rw [has_ofL]; have := h5 v hv; unfold inR at this; simp at this; simp [hv, this]
    rw [h, has_allV] at h6; simp at h6; omega
  · have h6 : has (allV (n : Int)) v = true := by rw [has_allV]; simp; omega
    rw [← h, has_ofL] at h6; simp at h6; exact h6.1.1
theorem isOrd_iff {l : List Int} {n : Nat} (hn : n ≤ 128) : (l.length = n ∧ ofL l = allV (n : Int)) ↔ IsOrd l n := by
  refine ⟨fun h => isOrd_of hn h.1 h.2, fun h => ⟨h.len, ?_⟩⟩
  apply ext_has; intro v h1 h2
  rw [has_ofL, has_allV, Bool.eq_iff_iff]
  simp only [Bool.and_eq_true, decide_eq_true_eq, h.mem]
  omega
/-- A graph's width in an order, or -1. -/
def widthP (L : List VS) (l : List Int) : Int := if validG L = true ∧ l.length + 1 = L.length ∧ ofL l = allV (l.length : Int) then widthF (gOf L) l else -1
theorem widthP_no1 {L : List VS} {l : List Int} (h : validG L = false) : widthP L l = -1 := by unfold widthP; rw [if_neg (by simp [h])]
theorem widthP_no2 {L : List VS} {l : List Int} (h : l.length + 1 ≠ L.length) : widthP L l = -1 := by unfold widthP; rw [if_neg (by simp [h])]
theorem widthP_no3 {L : List VS} {l : List Int} (h : ofL l ≠ allV (l.length : Int)) : widthP L l = -1 := by unfold widthP; rw [if_neg (by simp [h])]
theorem widthP_yes {L : List VS} {l : List Int} (h1 : validG L = true) (h2 : l.length + 1 = L.length) (h3 : ofL l = allV (l.length : Int)) : widthP L l = widthF (gOf L) l := by unfold widthP; rw [if_pos ⟨h1, h2, h3⟩]
theorem widthF_le : ∀ (l : List Int) (g : Gr), widthF g l ≤ 128
  | [], _ => by simp [widthF]
  | v :: l, g => by
    have h1 := widthF_le l (el g v)
    have h2 : len (g v) ≤ 128 := by have := mems_length (g v); unfold len; omega
    simp only [widthF]; omega
/-- The order that a cost gives, or none. -/
def orderP (cost : Gr → Int → Int) (L : List VS) : List Int := if validG L = true then orderF cost 129 (gOf L) (allV ((L.length : Int) - 1)) else []
theorem orderP_no {cost : Gr → Int → Int} {L : List VS} (h : validG L = false) : orderP cost L = [] := by unfold orderP; rw [if_neg (by simp [h])]
theorem orderP_yes {cost : Gr → Int → Int} {L : List VS} (h : validG L = true) : orderP cost L = orderF cost 129 (gOf L) (allV ((L.length : Int) - 1)) := by unfold orderP; rw [if_pos h]
theorem len_allL {L : List VS} (h : ValidG L) : len (allV ((L.length : Int) - 1)) = (L.length : Int) - 1 := by
  have h1 := h.pos
  have h2 := h.le
  have := len_allV (L.length - 1) (by omega)
  rwa [show ((L.length - 1 : Nat) : Int) = (L.length : Int) - 1 by omega] at this
theorem orderP_ord {cost : Gr → Int → Int} {L : List VS} (h : ValidG L) : IsOrd (orderP cost L) (L.length - 1) := by
  rw [orderP_yes (validG_yes h)]
  have h1 := h.pos
  have h2 := h.le
  have hl := len_allL h
  obtain ⟨i1, i2⟩ := orderF_all cost 129 (gOf L) (allV ((L.length : Int) - 1)) (by omega)
  refine ⟨by omega, fun v => ?_⟩
  rw [i1, has_allV]
  simp only [Bool.and_eq_true, decide_eq_true_eq]
  omega
end Go.Proofs.YthgkklahiclcpaaDoor
