/- Plain mathematics: a flood through the bags of a vertex, as often as there are bags: it reaches all of them just if they hang together. No program in sight. -/
import Derived.Test.YtmlecpapoeodkaaDoorWDec
namespace Go.Proofs.YtmlecpapoeodkaaDoor

/-- Whether a place is reached. -/
def wet (F : List Bool) (k : Nat) : Bool := F.getD k false
/-- One step: if one end of the edge above is reached, then both are. -/
def stepAt (B : List VS) (U : List Int) (v : Int) (F : List Bool) (k : Nat) : List Bool :=
  if (0 ≤ upF U (k : Int) ∧ has (gOf B (k : Int)) v = true ∧ has (gOf B (upF U (k : Int))) v = true) ∧ wet F k ≠ wet F (upF U (k : Int)).toNat then (F.set k true).set (upF U (k : Int)).toNat true else F
def floodTo (B : List VS) (U : List Int) (v : Int) (F : List Bool) : Nat → List Bool
  | 0 => F
  | k + 1 => stepAt B U v (floodTo B U v F k) k
def startTo (B : List VS) (v : Int) : Nat → List Bool × Bool
  | 0 => (List.replicate B.length false, true)
  | k + 1 => if (startTo B v k).2 = true ∧ has (gOf B (k : Int)) v = true then ((startTo B v k).1.set k true, false) else startTo B v k
def runs (B : List VS) (U : List Int) (v : Int) : Nat → List Bool
  | 0 => (startTo B v B.length).1
  | r + 1 => floodTo B U v (runs B U v r) B.length
def dryTo (B : List VS) (v : Int) (F : List Bool) (k : Nat) : Prop := ∀ i : Nat, i < k → has (gOf B (i : Int)) v = true → wet F i = true

theorem wet_set (F : List Bool) (i k : Nat) : wet (F.set i true) k = true ↔ wet F k = true ∨ (i = k ∧ k < F.length) := by
  unfold wet
  rw [List.getD_eq_getElem?_getD, List.getD_eq_getElem?_getD, List.getElem?_set]
  by_cases e : i = k
  · subst e
    by_cases h : i < F.length
    · simp [h]
    · simp [h]
  · simp [e]
theorem wet_lt {F : List Bool} {k : Nat} (h : wet F k = true) : k < F.length := by
  apply Classical.byContradiction
  intro hc
  unfold wet at h
  rw [List.getD_eq_getElem?_getD, List.getElem?_eq_none (by omega)] at h
  cases h
def wets : List Bool → Nat
  | [] => 0
  | b :: F => wets F + if b = true then 1 else 0
theorem wets_le : ∀ F : List Bool, wets F ≤ F.length
  | [] => Nat.le_refl _
  | b :: F => by have := wets_le F; rw [wets, List.length_cons]; split <;> omega
theorem wets_set : ∀ (F : List Bool) (i : Nat), i < F.length → wets (F.set i true) = wets F + if wet F i = true then 0 else 1
  | [], i, h => by simp at h
  | b :: F, 0, _ => by cases b <;> simp [wets, wet]
  | b :: F, i + 1, h => by
    have ih := wets_set F i (by simpa using h)
    rw [List.set_cons_succ, wets, wets, ih, show wet (b :: F) (i + 1) = wet F i from by simp [wet]]
    omega
theorem wets_none : ∀ (F : List Bool), wets F = 0 → ∀ i, wet F i = false
  | [], _, i => by simp [wet]
  | b :: F, h, i => by
    rw [wets] at h
    have hb : b = false := by cases b; rfl; simp at h
    have ih := wets_none F (by omega)
    cases i with
    | zero => subst hb; simp [wet]
    | succ i => have := ih i; simpa [wet] using this
section
variable {B : List VS} {U : List Int} {v : Int}
theorem step_length (F : List Bool) (k : Nat) : (stepAt B U v F k).length = F.length := by
  unfold stepAt; split <;> simp
theorem step_keep {F : List Bool} {k i : Nat} (h : wet F i = true) : wet (stepAt B U v F k) i = true := by
  unfold stepAt
  split
  · rw [wet_set, wet_set]; exact .inl (.inl h)
  · exact h
theorem up_lt (hf : Formed B.length U) {k : Nat} (hk : k < B.length) (h : 0 ≤ upF U (k : Int)) : (upF U (k : Int)).toNat < B.length := by
  have := (hf.range (k : Int) (by omega) (by omega)).2
  omega
theorem step_grow (hf : Formed B.length U) {F : List Bool} (hl : F.length = B.length) {k : Nat} (hk : k < B.length) : stepAt B U v F k = F ∨ wets F < wets (stepAt B U v F k) := by
  unfold stepAt
  split
  next h =>
    right
    have hj := up_lt hf hk h.1.1
    have h2 := h.2
    rw [wets_set _ _ (by rw [List.length_set]; omega), wets_set _ _ (by omega)]
    cases e1 : wet F k
    · simp only [Bool.false_eq_true, if_false]
      split <;> omega
    · have e2 : wet F (upF U (k : Int)).toNat = false := by
        cases e : wet F (upF U (k : Int)).toNat
        · rfl
        · exact absurd (e1.trans e.symm) h2
      have hne : ¬ k = (upF U (k : Int)).toNat := fun e => by rw [← e, e1] at e2; cases e2
      have e3 : ¬ wet (F.set k true) (upF U (k : Int)).toNat = true := by
        rw [wet_set]
        rintro (h' | h')
        · rw [e2] at h'; cases h'
        · exact hne h'.1
      rw [if_neg e3]
      simp
  next => exact .inl rfl
theorem flood_length (F : List Bool) : ∀ k, (floodTo B U v F k).length = F.length
  | 0 => rfl
  | k + 1 => by rw [floodTo, step_length, flood_length F k]
theorem flood_keep {F : List Bool} {i : Nat} (h : wet F i = true) : ∀ k, wet (floodTo B U v F k) i = true
  | 0 => h
  | k + 1 => step_keep (flood_keep h k)
/-- Nothing more is reached. -/
def Still (B : List VS) (U : List Int) (v : Int) (F : List Bool) : Prop := ∀ k, k < B.length → stepAt B U v F k = F
theorem flood_grow (hf : Formed B.length U) {F : List Bool} (hl : F.length = B.length) : ∀ k, k ≤ B.length → ((∀ i, i < k → stepAt B U v F i = F) ∧ floodTo B U v F k = F) ∨ wets F < wets (floodTo B U v F k)
  | 0, _ => .inl ⟨fun i h => by omega, rfl⟩
  | k + 1, hk => by
    have hl2 : (floodTo B U v F k).length = B.length := (flood_length F k).trans hl
    rcases flood_grow hf hl k (by omega) with ⟨h1, h2⟩ | h1
    · rw [floodTo, h2]
      rcases step_grow (v := v) hf hl (k := k) (by omega) with h3 | h3
      · refine .inl ⟨fun i hi => ?_, h3⟩
        by_cases e : i = k
        · subst e; exact h3
        · exact h1 i (by omega)
      · exact .inr h3
    · right
      rw [floodTo]
      rcases step_grow (v := v) hf hl2 (k := k) (by omega) with h3 | h3
      · rw [h3]; exact h1
      · omega
theorem still_flood {F : List Bool} (h : Still B U v F) : ∀ k, k ≤ B.length → floodTo B U v F k = F
  | 0, _ => rfl
  | k + 1, hk => by rw [floodTo, still_flood h k (by omega)]; exact h k (by omega)
theorem start_spec : ∀ k, (startTo B v k).1.length = B.length ∧ (((startTo B v k).2 = true ∧ (∀ i : Nat, i < k → has (gOf B (i : Int)) v = false) ∧ (startTo B v k).1 = List.replicate B.length false) ∨
    ((startTo B v k).2 = false ∧ ∃ f : Nat, f < k ∧ has (gOf B (f : Int)) v = true ∧ (startTo B v k).1 = (List.replicate B.length false).set f true))
  | 0 => ⟨by simp [startTo], .inl ⟨rfl, fun i h => by omega, rfl⟩⟩
  | k + 1 => by
    obtain ⟨ih1, ih2⟩ := start_spec k
    rw [startTo]
    split
    next h =>
      rcases ih2 with ⟨_, h2, h3⟩ | ⟨h2, _⟩
      · exact ⟨by rw [List.length_set]; exact ih1, .inr ⟨rfl, k, by omega, h.2, by rw [h3]⟩⟩
      · rw [h2] at h; cases h.1
    next h =>
      refine ⟨ih1, ?_⟩
      rcases ih2 with ⟨h1, h2, h3⟩ | ⟨h1, f, h2, h3, h4⟩
      · refine .inl ⟨h1, fun i hi => ?_, h3⟩
        by_cases e : i = k
        · subst e
          cases e2 : has (gOf B (i : Int)) v
          · rfl
          · exact absurd ⟨h1, e2⟩ h
        · exact h2 i (by omega)
      · exact .inr ⟨h1, f, by omega, h3, h4⟩
theorem runs_length : ∀ r, (runs B U v r).length = B.length
  | 0 => (start_spec B.length).1
  | r + 1 => by rw [runs, flood_length, runs_length r]
theorem runs_still (hf : Formed B.length U) : ∀ r, Still B U v (runs B U v r) ∨ wets (runs B U v 0) + r ≤ wets (runs B U v r)
  | 0 => .inr (by omega)
  | r + 1 => by
    show Still B U v (floodTo B U v (runs B U v r) B.length) ∨ wets (runs B U v 0) + (r + 1) ≤ wets (floodTo B U v (runs B U v r) B.length)
    rcases runs_still hf r with h | h
    · left; rw [still_flood h _ (Nat.le_refl _)]; exact h
    · rcases flood_grow (v := v) hf (runs_length r) B.length (Nat.le_refl _) with ⟨h1, h2⟩ | h1
      · left; rw [h2]; exact h1
      · right; omega
theorem still_dry {F : List Bool} (h : ∀ i, wet F i = false) : Still B U v F := fun k _ => by
  unfold stepAt
  rw [if_neg (fun hc => hc.2 (by rw [h, h]))]
theorem still_stays (h : Still B U v (runs B U v 0)) : ∀ r, Still B U v (runs B U v r)
  | 0 => h
  | r + 1 => by rw [runs, still_flood (still_stays h r) _ (Nat.le_refl _)]; exact still_stays h r
theorem runs_end (hf : Formed B.length U) : Still B U v (runs B U v B.length) := by
  rcases runs_still (v := v) hf B.length with h | h
  · exact h
  · have h2 := wets_le (runs B U v B.length)
    rw [runs_length] at h2
    exact still_stays (still_dry (wets_none _ (by omega))) _
theorem still_edge (hf : Formed B.length U) {F : List Bool} (hs : Still B U v F) (hl : F.length = B.length) {k : Nat} (hk : k < B.length) (hu : 0 ≤ upF U (k : Int)) (h1 : has (gOf B (k : Int)) v = true) (h2 : has (gOf B (upF U (k : Int))) v = true) :
    wet F k = wet F (upF U (k : Int)).toNat := by
  apply Classical.byContradiction
  intro hne
  have h := hs k hk
  unfold stepAt at h
  rw [if_pos ⟨⟨hu, h1, h2⟩, hne⟩] at h
  have hj := up_lt hf hk hu
  have e1 : wet F k = true := by rw [← h, wet_set, wet_set]; exact .inl (.inr ⟨rfl, by omega⟩)
  have e2 : wet F (upF U (k : Int)).toNat = true := by rw [← h, wet_set]; exact .inr ⟨rfl, by rw [List.length_set]; omega⟩
  exact hne (e1.trans e2.symm)
theorem still_cl (hf : Formed B.length U) {F : List Bool} (hs : Still B U v F) (hl : F.length = B.length) {i t : Int} (h : Cl B U v i t) : wet F i.toNat = wet F t.toNat := by
  induction h with
  | refl h => rfl
  | @step i t h hu hc ih =>
    obtain ⟨h0, h1⟩ := bag_range h
    obtain ⟨k, rfl⟩ : ∃ k : Nat, i = (k : Int) := ⟨i.toNat, by omega⟩
    rw [← ih, Int.toNat_natCast]
    exact still_edge hf hs hl (by omega) hu h hc.first
/-- What is reached hangs together with a top. -/
def Near (B : List VS) (U : List Int) (v t : Int) (F : List Bool) : Prop := ∀ k : Nat, wet F k = true → Cl B U v (k : Int) t
theorem step_near {t : Int} (ht : Top B U v t) {F : List Bool} (h : Near B U v t F) (k : Nat) : Near B U v t (stepAt B U v F k) := by
  unfold stepAt
  split
  next hc =>
    obtain ⟨⟨hu, h1, h2⟩, hne⟩ := hc
    obtain ⟨j, hj⟩ : ∃ j : Nat, upF U (k : Int) = (j : Int) := ⟨(upF U (k : Int)).toNat, by omega⟩
    rw [hj, Int.toNat_natCast] at hne ⊢
    rw [hj] at h2
    have both : Cl B U v (k : Int) t ∧ Cl B U v (j : Int) t := by
      cases e1 : wet F k
      · have e2 : wet F j = true := by
          cases e : wet F j
          · rw [e1, e] at hne; exact absurd rfl hne
          · rfl
        have hc := h j e2
        exact ⟨.step h1 hu (by rw [hj]; exact hc), hc⟩
      · have hc := h k e1
        refine ⟨hc, ?_⟩
        cases hc with
        | refl _ =>
          have := ht.2
          rw [aboveB, if_pos hu, hj, h2] at this
          cases this
        | step _ _ hc => rw [hj] at hc; exact hc
    intro i hi
    rw [wet_set, wet_set] at hi
    rcases hi with (hi | ⟨rfl, _⟩) | ⟨rfl, _⟩
    · exact h i hi
    · exact both.1
    · exact both.2
  next => exact h
theorem flood_near {t : Int} (ht : Top B U v t) {F : List Bool} (h : Near B U v t F) : ∀ k, Near B U v t (floodTo B U v F k)
  | 0 => h
  | k + 1 => step_near ht (flood_near ht h k) k
theorem runs_near {t : Int} (ht : Top B U v t) (h : Near B U v t (runs B U v 0)) : ∀ r, Near B U v t (runs B U v r)
  | 0 => h
  | r + 1 => flood_near ht (runs_near ht h r) _
theorem runs_keep {i : Nat} (h : wet (runs B U v 0) i = true) : ∀ r, wet (runs B U v r) i = true
  | 0 => h
  | r + 1 => flood_keep (runs_keep h r) _
theorem top_end {i t : Int} (ht : Top B U v i) (h : Cl B U v i t) : i = t := by
  cases h with
  | refl _ => rfl
  | step _ hu hc =>
    have := ht.2
    rw [aboveB, if_pos hu, hc.first] at this
    cases this
/-- The flood reaches all bags of a vertex just if they hang together. -/
theorem dry_iff (hf : Formed B.length U) : dryTo B v (runs B U v B.length) B.length ↔ Uniq B U v := by
  obtain ⟨_, h⟩ := start_spec (B := B) (v := v) B.length
  rcases h with ⟨_, h1, _⟩ | ⟨_, f, h1, h2, h3⟩
  · constructor
    · intro _ i j hi _
      obtain ⟨h0, h2⟩ := bag_range hi.1
      have := h1 i.toNat (by omega)
      rw [Int.toNat_of_nonneg h0, hi.1] at this
      cases this
    · intro _ i hi h2
      rw [h1 i hi] at h2; cases h2
  · obtain ⟨t, hc, ht⟩ := climb_top hf v h2
    have hst : ∀ i, wet (runs B U v 0) i = true ↔ i = f := fun i => by
      rw [runs, h3, wet_set]
      constructor
      · rintro (h | h)
        · simp [wet, List.getD_eq_getElem?_getD, List.getElem?_replicate] at h
          split at h <;> simp at h
        · exact h.1.symm
      · rintro rfl
        exact .inr ⟨rfl, by simpa using h1⟩
    have hn0 : Near B U v t (runs B U v 0) := fun k hk => by rw [(hst k).1 hk]; exact hc
    have hn := runs_near ht hn0 B.length
    have hw := runs_keep ((hst f).2 rfl) B.length
    have hs := runs_end (v := v) hf
    have hl := runs_length (B := B) (U := U) (v := v) B.length
    constructor
    · intro hd i j hi hj
      have key : ∀ i, Top B U v i → i = t := fun i hi => by
        obtain ⟨h0, h4⟩ := bag_range hi.1
        obtain ⟨k, rfl⟩ : ∃ k : Nat, i = (k : Int) := ⟨i.toNat, by omega⟩
        exact top_end hi (hn k (hd k (by omega) hi.1))
      rw [key i hi, key j hj]
    · intro hu i hi h4
      obtain ⟨t', hc', ht'⟩ := climb_top hf v h4
      have e1 := still_cl hf hs hl hc'
      rw [hu t' t ht' ht, Int.toNat_natCast] at e1
      have e2 := still_cl hf hs hl hc
      rw [Int.toNat_natCast, hw] at e2
      rw [e1, ← e2]
end
end Go.Proofs.YtmlecpapoeodkaaDoor
