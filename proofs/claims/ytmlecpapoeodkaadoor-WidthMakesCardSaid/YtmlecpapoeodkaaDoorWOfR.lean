/- Plain mathematics: the steps of the reference's Of against those of the program. No program in sight. -/
import Derived.Test.YtmlecpapoeodkaaDoorWRef7
namespace Go.Proofs.YtmlecpapoeodkaaDoor

/-- A set with so many numbers of a list, but the one at a place. -/
def rowTo (s : VS) (l : List Int) (a : Nat) : Nat → VS
  | 0 => s
  | k + 1 => if a = k then rowTo s l a k else withV (rowTo s l a k) (l.getD k 0)
theorem has_rowTo (s : VS) (l : List Int) (a : Nat) (hl : ∀ x ∈ l, 1 ≤ x ∧ x ≤ 128) (x : Int) : ∀ k, k ≤ l.length → (has (rowTo s l a k) x = true ↔ has s x = true ∨ ∃ b, b < k ∧ a ≠ b ∧ l.getD b 0 = x)
  | 0, _ => by
    rw [rowTo]
    constructor
    · exact .inl
    · rintro (h | ⟨b, h, _⟩)
      · exact h
      · omega
  | k + 1, hk => by
    have ih := has_rowTo s l a hl x k (by omega)
    rw [rowTo]
    by_cases e : a = k
    · rw [if_pos e, ih]
      constructor
      · rintro (h | ⟨b, h1, h2, h3⟩)
        · exact .inl h
        · exact .inr ⟨b, by omega, h2, h3⟩
      · rintro (h | ⟨b, h1, h2, h3⟩)
        · exact .inl h
        · exact .inr ⟨b, by omega, h2, h3⟩
    · rw [if_neg e, has_withV]
      have hin := hl (l.getD k 0) (by rw [getD_at l k (by omega)]; exact List.getElem_mem _)
      simp only [Bool.or_eq_true, Bool.and_eq_true, decide_eq_true_eq]
      rw [ih]
      constructor
      · rintro ((h | ⟨b, h1, h2, h3⟩) | ⟨⟨h, _⟩, _⟩)
        · exact .inl h
        · exact .inr ⟨b, by omega, h2, h3⟩
        · exact .inr ⟨k, by omega, e, h.symm⟩
      · rintro (h | ⟨b, h1, h2, h3⟩)
        · exact .inl (.inl h)
        · by_cases e2 : b = k
          · subst e2
            exact .inr ⟨⟨h3.symm, by omega⟩, by omega⟩
          · exact .inl (.inr ⟨b, by omega, h2, h3⟩)
/-- One vertex's row behind the inner loop of the reference is that of the program's step. -/
theorem rowTo_step {t s : VS} {a : Nat} {v u : Int} (ha : a < (mems s).length) (hu : (mems s)[a] = u) (ht : has t u = false) : withoutV (rowTo t (mems s) a (mems s).length) v = withoutV (withoutV (t ||| s) u) v := by
  apply ext_has
  intro x _ _
  have hl : ∀ x ∈ mems s, 1 ≤ x ∧ x ≤ 128 := fun x hx => has_range ((mem_mems _ _).1 hx)
  have h := has_rowTo t (mems s) a hl x (mems s).length (Nat.le_refl _)
  have h2 : has (rowTo t (mems s) a (mems s).length) x = has (withoutV (t ||| s) u) x := by
    rw [Bool.eq_iff_iff, h, has_withoutV, has_or]
    simp only [Bool.and_eq_true, Bool.or_eq_true, Bool.not_eq_true', decide_eq_false_iff_not]
    constructor
    · rintro (h1 | ⟨b, hb, hne, e⟩)
      · exact ⟨.inl h1, fun e => by rw [e, ht] at h1; cases h1⟩
      · rw [getD_at _ b hb] at e
        refine ⟨.inr ((mem_mems _ _).1 (by rw [← e]; exact List.getElem_mem hb)), fun e2 => hne ?_⟩
        rw [e2, ← hu] at e
        have hs := List.pairwise_iff_getElem.1 (mems_sorted s)
        rcases Nat.lt_trichotomy a b with h5 | h5 | h5
        · have := hs a b ha hb h5; omega
        · exact h5
        · have := hs b a hb ha h5; omega
    · rintro ⟨h1 | h1, hne⟩
      · exact .inl h1
      · obtain ⟨b, hb, e⟩ := List.getElem_of_mem ((mem_mems _ _).2 h1)
        refine .inr ⟨b, hb, fun e2 => hne ?_, by rw [getD_at _ b hb]; exact e⟩
        subst e2
        rw [← e, hu]
  rw [has_withoutV, has_withoutV, h2]
/-- The least place of so many numbers. -/
def upMin (l ws : List Int) (n : Int) : Nat → Int
  | 0 => n
  | k + 1 => min (upMin l ws n k) (posR l (ws.getD k 0))
theorem upMin_le (l ws : List Int) (n : Int) : ∀ k, upMin l ws n k ≤ n ∧ ∀ b, b < k → upMin l ws n k ≤ posR l (ws.getD b 0)
  | 0 => ⟨Int.le_refl _, fun b h => by omega⟩
  | k + 1 => by
    obtain ⟨h1, h2⟩ := upMin_le l ws n k
    rw [upMin]
    refine ⟨by omega, fun b hb => ?_⟩
    by_cases e : b = k
    · subst e; omega
    · have := h2 b (by omega); omega
theorem upMin_at (l ws : List Int) (n : Int) : ∀ k, upMin l ws n k = n ∨ ∃ b, b < k ∧ upMin l ws n k = posR l (ws.getD b 0)
  | 0 => .inl rfl
  | k + 1 => by
    rw [upMin]
    rcases Int.le_total (upMin l ws n k) (posR l (ws.getD k 0)) with h | h
    · rw [Int.min_eq_left h]
      rcases upMin_at l ws n k with h2 | ⟨b, h2, h3⟩
      · exact .inl h2
      · exact .inr ⟨b, by omega, h3⟩
    · rw [Int.min_eq_right h]
      exact .inr ⟨k, by omega, rfl⟩
theorem posR_in {l : List Int} {x : Int} (h : x ∈ l) : posR l x = posL l x := by unfold posR; rw [if_pos h]
theorem posL_lt {l : List Int} {x : Int} (h : x ∈ l) : 0 ≤ posL l x ∧ posL l x < (l.length : Int) := by
  have := List.idxOf_lt_length_of_mem h
  unfold posL
  omega
/-- The least place is the place of the one that the program picks. -/
theorem upMin_pick {l ws : List Int} (hne : ws ≠ []) (hw : ∀ x ∈ ws, 1 ≤ x ∧ x ∈ l) : upMin l ws (l.length : Int) ws.length = posL l (pick (posL l) ws).1 := by
  obtain ⟨h1, _, h3⟩ := pick_spec (cost := posL l) hne fun u hu => (hw u hu).1
  obtain ⟨_, hall⟩ := upMin_le l ws (l.length : Int) ws.length
  have hle : upMin l ws (l.length : Int) ws.length ≤ posL l (pick (posL l) ws).1 := by
    obtain ⟨b, hb, e⟩ := List.getElem_of_mem h1
    have := hall b hb
    rw [getD_at ws b hb, e, posR_in (hw _ h1).2] at this
    exact this
  have hlt := posL_lt (hw _ h1).2
  rcases upMin_at l ws (l.length : Int) ws.length with h | ⟨b, hb, h⟩
  · omega
  · have hm : ws[b] ∈ ws := List.getElem_mem hb
    rw [getD_at ws b hb, posR_in (hw _ hm).2] at h
    have := h3 _ hm
    omega
end Go.Proofs.YtmlecpapoeodkaaDoor
