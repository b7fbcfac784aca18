/- Plain mathematics: the order of sets is a strict total order; the laws of sets; boxes of sets in memory. -/
import Derived.Test.YthckmpdnkinmlaaDoorLawA
namespace Go.Proofs.YthckmpdnkinmlaaDoor
open Go.RowKit

/-- What 'less' says. -/
def LessAt (a b : VS) (v : Int) : Prop := 1 ≤ v ∧ v ≤ 128 ∧ (∀ u, u < v → has a u = has b u) ∧ has a v = false ∧ has b v = true
theorem less_of_at {a b : VS} {v : Int} (h : LessAt a b v) : less a b = true := by
  obtain ⟨h1, h2, h3, h4, h5⟩ := h
  have e : v = (((v - 1).toNat : Nat) : Int) + 1 := by omega
  have hs : SameTo a b (v - 1).toNat := fun u hu => h3 u (by omega)
  have := less_at hs (by rw [← e, h4, h5]; simp)
  rw [this, ← e, h5]
/-- Two sets agree, or there is a first place where they part. -/
theorem part (a b : VS) : ∀ n : Nat, SameTo a b n ∨ ∃ k : Nat, k < n ∧ SameTo a b k ∧ has a ((k : Int) + 1) ≠ has b ((k : Int) + 1)
  | 0 => .inl fun u hu => by rw [has_le0 hu, has_le0 hu]
  | n + 1 => by
    rcases part a b n with h | ⟨k, h1, h2, h3⟩
    · by_cases e : has a ((n : Int) + 1) = has b ((n : Int) + 1)
      · exact .inl (h.succ e)
      · exact .inr ⟨n, by omega, h, e⟩
    · exact .inr ⟨k, by omega, h2, h3⟩
theorem trich (a b : VS) : a = b ∨ (∃ v, LessAt a b v) ∨ ∃ v, LessAt b a v := by
  rcases part a b 128 with h | ⟨k, h1, h2, h3⟩
  · exact .inl (ext_has fun v _ hv => h v (by omega))
  · right
    have hr : ∀ u, u < (k : Int) + 1 → has a u = has b u := fun u hu => h2 u (by omega)
    cases ha : has a ((k : Int) + 1) <;> cases hb : has b ((k : Int) + 1)
    · rw [ha, hb] at h3; exact absurd rfl h3
    · exact .inl ⟨_, by omega, by omega, hr, ha, hb⟩
    · exact .inr ⟨_, by omega, by omega, fun u hu => (hr u hu).symm, hb, ha⟩
    · rw [ha, hb] at h3; exact absurd rfl h3
theorem at_not {a b : VS} {v u : Int} (h : LessAt a b v) (h' : LessAt b a u) : False := by
  obtain ⟨_, _, h3, h4, h5⟩ := h
  obtain ⟨_, _, k3, k4, k5⟩ := h'
  by_cases e : v = u
  · subst e; rw [h4] at k5; cases k5
  · by_cases e2 : v < u
    · have := k3 v e2; rw [h4, h5] at this; cases this
    · have := h3 u (by omega); rw [k4, k5] at this; cases this
theorem less_irr (a : VS) : less a a = false := less_same fun _ _ => rfl
theorem at_of_less {a b : VS} (h : less a b = true) : ∃ v, LessAt a b v := by
  rcases trich a b with rfl | h1 | ⟨v, hv⟩
  · rw [less_irr] at h; cases h
  · exact h1
  · obtain ⟨_, h2, h3, h4, h5⟩ := hv
    have e : v = (((v - 1).toNat : Nat) : Int) + 1 := by omega
    have hs : SameTo a b (v - 1).toNat := fun u hu => (h3 u (by omega)).symm
    have := less_at hs (by rw [← e, h4, h5]; simp)
    rw [this, ← e, h4] at h; cases h
theorem less_trans {a b c : VS} (h1 : less a b = true) (h2 : less b c = true) : less a c = true := by
  obtain ⟨v, _, _, h3, h4, h5⟩ := at_of_less h1
  obtain ⟨u, _, _, k3, k4, k5⟩ := at_of_less h2
  by_cases e : v < u
  · exact less_of_at ⟨by assumption, by assumption, fun x hx => (h3 x hx).trans (k3 x (by omega)), h4, by rw [← k3 v e]; exact h5⟩
  · by_cases e2 : u < v
    · exact less_of_at ⟨by assumption, by assumption, fun x hx => (h3 x (by omega)).trans (k3 x hx), by rw [h3 u e2]; exact k4, k5⟩
    · have : u = v := by omega
      subst this; rw [k4] at h5; cases h5
theorem less_total {a b : VS} (h : a ≠ b) : less b a = !less a b := by
  rcases trich a b with e | ⟨v, hv⟩ | ⟨v, hv⟩
  · exact absurd e h
  · rw [less_of_at hv]
    cases hb : less b a
    · rfl
    · obtain ⟨u, hu⟩ := at_of_less hb; exact (at_not hv hu).elim
  · rw [less_of_at hv]
    cases hb : less a b
    · rfl
    · obtain ⟨u, hu⟩ := at_of_less hb; exact (at_not hv hu).elim
theorem less_cut {a b : VS} (h : ((a &&& b) == a) = false) : less (a &&& b) a = true := by
  rcases trich (a &&& b) a with e | ⟨v, hv⟩ | ⟨v, _, _, h3, h4, h5⟩
  · rw [e] at h; simp at h
  · exact less_of_at hv
  · rw [has_and, h4] at h5; simp at h5

/-! ### boxes -/
theorem box1 (a : VS) (w : World) : Below w.heap.size w (w.alloc (.cells #[.int .u64 ((lw a).toNat : Int), .int .u64 ((hw a).toNat : Int)] 26)) ∧ SetVar (w.alloc (.cells #[.int .u64 ((lw a).toNat : Int), .int .u64 ((hw a).toNat : Int)] 26)) w.heap.size a :=
  ⟨(Below.refl _ w).alloc (Nat.le_refl _) _, SetVar.new _ _ _⟩
theorem box2 (a b : VS) (w : World) : Below w.heap.size w ((w.alloc (.cells #[.int .u64 ((lw a).toNat : Int), .int .u64 ((hw a).toNat : Int)] 26)).alloc (.cells #[.int .u64 ((lw b).toNat : Int), .int .u64 ((hw b).toNat : Int)] 26)) ∧
    SetVar ((w.alloc (.cells #[.int .u64 ((lw a).toNat : Int), .int .u64 ((hw a).toNat : Int)] 26)).alloc (.cells #[.int .u64 ((lw b).toNat : Int), .int .u64 ((hw b).toNat : Int)] 26)) w.heap.size a ∧
    SetVar ((w.alloc (.cells #[.int .u64 ((lw a).toNat : Int), .int .u64 ((hw a).toNat : Int)] 26)).alloc (.cells #[.int .u64 ((lw b).toNat : Int), .int .u64 ((hw b).toNat : Int)] 26)) (w.heap.size + 1) b := by
  obtain ⟨h1, h2⟩ := box1 a w
  obtain ⟨h3, h4⟩ := box1 b (w.alloc (.cells #[.int .u64 ((lw a).toNat : Int), .int .u64 ((hw a).toNat : Int)] 26))
  rw [World.size_alloc] at h3 h4
  exact ⟨h1.trans (h3.mono (by omega)), h2.alloc _, h4⟩
theorem box3 (a b c : VS) (w : World) : Below w.heap.size w (((w.alloc (.cells #[.int .u64 ((lw a).toNat : Int), .int .u64 ((hw a).toNat : Int)] 26)).alloc (.cells #[.int .u64 ((lw b).toNat : Int), .int .u64 ((hw b).toNat : Int)] 26)).alloc (.cells #[.int .u64 ((lw c).toNat : Int), .int .u64 ((hw c).toNat : Int)] 26)) ∧
    SetVar (((w.alloc (.cells #[.int .u64 ((lw a).toNat : Int), .int .u64 ((hw a).toNat : Int)] 26)).alloc (.cells #[.int .u64 ((lw b).toNat : Int), .int .u64 ((hw b).toNat : Int)] 26)).alloc (.cells #[.int .u64 ((lw c).toNat : Int), .int .u64 ((hw c).toNat : Int)] 26)) w.heap.size a ∧
    SetVar (((w.alloc (.cells #[.int .u64 ((lw a).toNat : Int), .int .u64 ((hw a).toNat : Int)] 26)).alloc (.cells #[.int .u64 ((lw b).toNat : Int), .int .u64 ((hw b).toNat : Int)] 26)).alloc (.cells #[.int .u64 ((lw c).toNat : Int), .int .u64 ((hw c).toNat : Int)] 26)) (w.heap.size + 1) b ∧
    SetVar (((w.alloc (.cells #[.int .u64 ((lw a).toNat : Int), .int .u64 ((hw a).toNat : Int)] 26)).alloc (.cells #[.int .u64 ((lw b).toNat : Int), .int .u64 ((hw b).toNat : Int)] 26)).alloc (.cells #[.int .u64 ((lw c).toNat : Int), .int .u64 ((hw c).toNat : Int)] 26)) (w.heap.size + 1 + 1) c := by
  obtain ⟨h1, h2, h3⟩ := box2 a b w
  obtain ⟨h4, h5⟩ := box1 c ((w.alloc (.cells #[.int .u64 ((lw a).toNat : Int), .int .u64 ((hw a).toNat : Int)] 26)).alloc (.cells #[.int .u64 ((lw b).toNat : Int), .int .u64 ((hw b).toNat : Int)] 26))
  simp only [World.size_alloc] at h4 h5
  exact ⟨h1.trans (h4.mono (by omega)), h2.alloc _, h3.alloc _, h5⟩
end Go.Proofs.YthckmpdnkinmlaaDoor
