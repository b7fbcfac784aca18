/- Plain: fewer edges and cliques; fans; no order of least degree is wide where one is not. -/
import Derived.Test.YthgkklahiclcpaaDoorSMoreP
namespace Go.Proofs.YthgkklahiclcpaaDoor

/-! ### fewer edges, cliques -/
def lessL (L : List VS) (a b : Int) : List VS := (L.set a.toNat (withoutV (gOf L a) b)).set b.toNat (withoutV (gOf (L.set a.toNat (withoutV (gOf L a) b)) b) a)
theorem lessL_length (L : List VS) (a b : Int) : (lessL L a b).length = L.length := by simp [lessL]
theorem has_less {L : List VS} {a b : Int} (ha : 1 ≤ a ∧ a < (L.length : Int)) (hb : 1 ≤ b ∧ b < (L.length : Int)) (u x : Int) : has (gOf (lessL L a b) u) x = true ↔ has (gOf L u) x = true ∧ ¬ (u = a ∧ x = b) ∧ ¬ (u = b ∧ x = a) := by
  unfold lessL
  rw [gOf_set' _ (by omega) (by rw [List.length_set]; omega)]
  rw [gOf_set' L (by omega) (by omega), gOf_set' L (by omega) (by omega)]
  by_cases h1 : u = b
  · subst h1
    rw [if_pos rfl, has_withoutV]
    by_cases h2 : u = a
    · subst h2
      rw [if_pos rfl, has_withoutV]
      generalize has (gOf L u) x = t
      cases t <;> simp
    · rw [if_neg h2]
      generalize has (gOf L u) x = t
      cases t <;> simp <;> omega
  · rw [if_neg h1]
    by_cases h2 : u = a
    · subst h2
      rw [if_pos rfl, has_withoutV]
      generalize has (gOf L u) x = t
      cases t <;> simp <;> omega
    · rw [if_neg h2]; simp [h1, h2]
theorem less_valid {L : List VS} (h : ValidG L) {a b : Int} (ha : 1 ≤ a ∧ a < (L.length : Int)) (hb : 1 ≤ b ∧ b < (L.length : Int)) : ValidG (lessL L a b) := by
  have hl := has_less ha hb
  have hs := h.sym
  refine ⟨by rw [lessL_length]; exact h.pos, by rw [lessL_length]; exact h.le, ?_, fun k _ _ => ⟨?_, fun w hw => ?_, fun w hw => ?_⟩⟩
  · apply zero_of_none
    intro w
    cases e : has (gOf (lessL L a b) 0) w with
    | false => rfl
    | true =>
      have := ((hl _ _).1 e).1
      rw [h.zero, has_zero] at this; cases this
  · cases e : has (gOf (lessL L a b) (k : Int)) (k : Int) with
    | false => rfl
    | true => exact absurd rfl (hs.ne ((hl _ _).1 e).1)
  · rw [lessL_length]; exact (h.range ((hl _ _).1 hw).1).2
  · obtain ⟨h1, h2, h3⟩ := (hl _ _).1 hw
    exact (hl _ _).2 ⟨hs.sym _ _ h1, fun e => h3 ⟨e.2, e.1⟩, fun e => h2 ⟨e.2, e.1⟩⟩
theorem less_width {L : List VS} (h : ValidG L) {a b : Int} (ha : 1 ≤ a ∧ a < (L.length : Int)) (hb : 1 ≤ b ∧ b < (L.length : Int)) {l : List Int} (hl : IsOrd l (L.length - 1)) : widthP (lessL L a b) l ≤ widthP L l := by
  have hv := less_valid h ha hb
  rw [widthP_ord h hl, widthP_ord hv (by rw [lessL_length]; exact hl)]
  exact widthF_mono hv.sym h.sym (fun u x e => ((has_less ha hb u x).1 e).1) l
/-- All pairs of a list, each with those before it. -/
def pairsTo (c : List Int) (i : Nat) : List (Int × Int) := missTo (fun _ => 0) c i
theorem mem_pairs {c : List Int} {x y : Int} {i : Nat} (hi : i ≤ c.length) : (x, y) ∈ pairsTo c i ↔ ∃ a, a < i ∧ x = c.getD a 0 ∧ y ∈ c.take a := by
  unfold pairsTo
  rw [mem_missTo hi]
  constructor
  · rintro ⟨a, h1, h2, h3, _⟩; exact ⟨a, h1, h2, h3⟩
  · rintro ⟨a, h1, h2, h3⟩; exact ⟨a, h1, h2, h3, has_zero _⟩
theorem pairs_mem {s : VS} {x y : Int} (h : (x, y) ∈ pairsTo (mems s) (mems s).length) : has s x = true ∧ has s y = true ∧ x ≠ y := by
  obtain ⟨a, h1, h2, h3⟩ := (mem_pairs (Nat.le_refl _)).1 h
  rw [List.getD_eq_getElem?_getD, List.getElem?_eq_getElem h1, Option.getD_some] at h2
  obtain ⟨b, hb, hb2, e⟩ := take_index h3
  refine ⟨(mem_mems _ _).1 (h2 ▸ List.getElem_mem h1), (mem_mems _ _).1 (e ▸ List.getElem_mem hb2), ?_⟩
  intro exy
  have hs := List.pairwise_iff_getElem.1 (mems_sorted s) b a hb2 h1 hb
  rw [e, ← h2, exy] at hs
  omega
theorem pairs_all {s : VS} {x y : Int} (hx : has s x = true) (hy : has s y = true) (hne : x ≠ y) : (x, y) ∈ pairsTo (mems s) (mems s).length ∨ (y, x) ∈ pairsTo (mems s) (mems s).length := by
  obtain ⟨a, ha, ea⟩ := List.getElem_of_mem ((mem_mems _ _).2 hx)
  obtain ⟨b, hb, eb⟩ := List.getElem_of_mem ((mem_mems _ _).2 hy)
  have hab : a ≠ b := fun e => by subst e; exact hne (ea.symm.trans eb)
  have hin : ∀ {i j : Nat} (hi : i < (mems s).length) (hj : j < (mems s).length), j < i → (mems s)[j] ∈ (mems s).take i := fun {i j} hi hj hlt => by
    rw [List.mem_iff_getElem]
    exact ⟨j, by rw [List.length_take]; omega, List.getElem_take⟩
  rcases Nat.lt_or_gt_of_ne hab with h | h
  · right
    exact (mem_pairs (Nat.le_refl _)).2 ⟨b, hb, by rw [List.getD_eq_getElem?_getD, List.getElem?_eq_getElem hb]; exact eb.symm, by rw [← ea]; exact hin hb ha h⟩
  · left
    exact (mem_pairs (Nat.le_refl _)).2 ⟨a, ha, by rw [List.getD_eq_getElem?_getD, List.getElem?_eq_getElem ha]; exact ea.symm, by rw [← eb]; exact hin ha hb h⟩
theorem in_pairs {L : List VS} {s : VS} (hs : ∀ v, has s v = true → v < (L.length : Int)) : InP L.length (pairsTo (mems s) (mems s).length) := fun p hp => by
  obtain ⟨h1, h2, _⟩ := pairs_mem hp
  exact ⟨⟨(has_range h1).1, hs _ h1⟩, (has_range h2).1, hs _ h2⟩
theorem more_width {L : List VS} (h : ValidG L) {s : VS} (hs : ∀ v, has s v = true → v < (L.length : Int)) {l : List Int} (hl : IsOrd l (L.length - 1)) :
    widthP L l ≤ widthP (joinAll L (pairsTo (mems s) (mems s).length)) l ∧ len s - 1 ≤ widthP (joinAll L (pairsTo (mems s) (mems s).length)) l := by
  have hj := has_joinAll _ L (in_pairs hs) h.le
  have hg := h.sym
  have hv : ValidG (joinAll L (pairsTo (mems s) (mems s).length)) := by
    refine ⟨by rw [joinAll_length]; exact h.pos, by rw [joinAll_length]; exact h.le, ?_, fun k _ _ => ⟨?_, fun w hw => ?_, fun w hw => ?_⟩⟩
    · apply zero_of_none
      intro w
      cases e : has (gOf (joinAll L (pairsTo (mems s) (mems s).length)) 0) w with
      | false => rfl
      | true =>
        rcases (hj _ _).1 e with e | e | e
        · rw [h.zero, has_zero] at e; cases e
        · have := has_range (pairs_mem e).1; omega
        · have := has_range (pairs_mem e).2.1; omega
    · cases e : has (gOf (joinAll L (pairsTo (mems s) (mems s).length)) (k : Int)) (k : Int) with
      | false => rfl
      | true =>
        rcases (hj _ _).1 e with e | e | e
        · exact absurd rfl (hg.ne e)
        · exact absurd rfl (pairs_mem e).2.2
        · exact absurd rfl (pairs_mem e).2.2
    · rw [joinAll_length]
      rcases (hj _ _).1 hw with e | e | e
      · exact (h.range e).2
      · have := hs _ (pairs_mem e).2.1; omega
      · have := hs _ (pairs_mem e).1; omega
    · rcases (hj _ _).1 hw with e | e | e
      · exact (hj _ _).2 (.inl (hg.sym _ _ e))
      · exact (hj _ _).2 (.inr (.inr e))
      · exact (hj _ _).2 (.inr (.inl e))
  rw [widthP_ord h hl, widthP_ord hv (by rw [joinAll_length]; exact hl)]
  refine ⟨widthF_mono hg hv.sym (fun u x e => (hj u x).2 (.inl e)) l, ?_⟩
  by_cases h0 : s = 0
  · have := widthF_pos (gOf (joinAll L (pairsTo (mems s) (mems s).length))) l
    rw [h0, len_zero] at *; omega
  · refine clique_bound hv.sym (k := s) (fun u w hu hw hne => (hj u w).2 (.inr (pairs_all hu hw hne))) l ⟨first s, first_mem h0, (hl.mem _).2 ?_⟩
    have h1 := hs _ (first_mem h0)
    have h2 := has_range (first_mem h0)
    omega
/-! ### elimination in another order -/
theorem el_comm {g : Gr} (hg : SymG g) {a b : Int} (hab : a ≠ b) : el (el g a) b = el (el g b) a := by
  have key : ∀ {a b : Int}, a ≠ b → ∀ w u, has (el (el g a) b w) u = true → has (el (el g b) a w) u = true := by
    intro a b hab w u h
    obtain ⟨h1, h2, h3⟩ := (has_el (el_sym hg a) b w u).1 h
    refine (has_el (el_sym hg b) a w u).2 ?_
    have hwu : ∀ x y, has (el g a x) y = true → x ≠ a ∧ y ≠ a := fun x y e => ⟨((has_el hg a x y).1 e).1, ((has_el hg a x y).1 e).2.1⟩
    have wa : w ≠ a ∧ u ≠ a := by
      rcases h3 with h3 | ⟨h3, h4, _⟩
      · exact hwu _ _ h3
      · exact ⟨(hwu _ _ h3).2, (hwu _ _ h4).2⟩
    refine ⟨wa.1, wa.2, ?_⟩
    have E := fun x y => has_el hg b x y
    have A := fun x y => has_el hg a x y
    -- neighbours of b behind a
    rcases h3 with h3 | ⟨h3, h4, h5⟩
    · obtain ⟨_, _, h6 | ⟨h6, h7, h8⟩⟩ := (A w u).1 h3
      · exact .inl ((E w u).2 ⟨h1, h2, .inl h6⟩)
      · exact .inr ⟨(E a w).2 ⟨hab, h1, .inl h6⟩, (E a u).2 ⟨hab, h2, .inl h7⟩, h8⟩
    · obtain ⟨_, _, h6⟩ := (A b w).1 h3
      obtain ⟨_, _, h7⟩ := (A b u).1 h4
      rcases h6 with h6 | ⟨h6, h6', _⟩
      · rcases h7 with h7 | ⟨h7, h7', _⟩
        · exact .inl ((E w u).2 ⟨h1, h2, .inr ⟨h6, h7, h5⟩⟩)
        · exact .inr ⟨(E a w).2 ⟨hab, h1, .inr ⟨hg.sym _ _ h7, h6, wa.1⟩⟩, (E a u).2 ⟨hab, h2, .inl h7'⟩, h5⟩
      · rcases h7 with h7 | ⟨h7, h7', _⟩
        · exact .inr ⟨(E a w).2 ⟨hab, h1, .inl h6'⟩, (E a u).2 ⟨hab, h2, .inr ⟨hg.sym _ _ h6, h7, wa.2⟩⟩, h5⟩
        · exact .inr ⟨(E a w).2 ⟨hab, h1, .inl h6'⟩, (E a u).2 ⟨hab, h2, .inl h7'⟩, h5⟩
  apply gr_ext
  intro w u
  exact ⟨key hab w u, key (Ne.symm hab) w u⟩
theorem len_or_le (a b : VS) : len (a ||| b) ≤ len a + len b := by
  have h : ∀ (n : Nat) (a b : VS), len b ≤ n → len (a ||| b) ≤ len a + len b := by
    intro n
    induction n with
    | zero =>
      intro a b h
      rw [len_none (s := b) (by omega), len_zero]
      have : a ||| (0 : VS) = a := by apply ext_has; intro v _ _; rw [has_or, has_zero]; simp
      rw [this]; omega
    | succ n ih =>
      intro a b h
      by_cases h0 : b = 0
      · subst h0
        rw [len_zero]
        have : a ||| (0 : VS) = a := by apply ext_has; intro v _ _; rw [has_or, has_zero]; simp
        rw [this]; omega
      · have hf := first_mem h0
        have h1 := len_without hf
        have h2 := ih (withV a (first b)) (withoutV b (first b)) (by omega)
        have h3 := len_with_le a (first b)
        have hr := has_range hf
        rw [if_pos hr] at h3
        have : withV a (first b) ||| withoutV b (first b) = a ||| b := by
          apply ext_has; intro v _ _
          rw [has_or, has_or, has_withV, has_withoutV]
          by_cases e : v = first b
          · subst e; simp [hf, hr.1, hr.2]
          · simp [e]
        rw [this] at h2
        omega
  exact h (len b).toNat a b (by have := len_pos (s := b); omega)
/-- A vertex with two neighbours at most may be taken first. -/
theorem first_two {g : Gr} (_hg : SymG g) {b : Int} : ∀ (l : List Int) (g : Gr), SymG g → widthF g l ≤ 2 → len (g b) ≤ 2 → widthF (el g b) (l.erase b) ≤ 2
  | [], _, _, _, _ => by simp [widthF]
  | v :: l, g, hg, hw, hb => by
    simp only [widthF] at hw
    by_cases e : v = b
    · subst e
      rw [List.erase_cons_head]; omega
    · rw [List.erase_cons_tail (by simpa using e)]
      simp only [widthF]
      have hvb : ∀ {x y : Int}, len (g x) ≤ 2 → len (g y) ≤ 2 → x ≠ y → len (el g x y) ≤ 2 := by
        intro x y hx hy hxy
        cases h1 : has (g x) y with
        | false =>
          have : el g x y = g y := by
            unfold el
            rw [if_neg (Ne.symm hxy), if_neg (by simp [h1])]
          rw [this]; exact hy
        | true =>
          have h2 := hg.sym _ _ h1
          have h3 : len (el g x y) ≤ len (withoutV (g y) x ||| withoutV (g x) y) := len_mono fun u hu => by
            obtain ⟨_, h5, h6⟩ := (has_el hg x y u).1 hu
            rw [has_or, has_withoutV, has_withoutV]
            rcases h6 with h6 | ⟨_, h6, h7⟩
            · simp [h6, h5]
            · simp [h6, h7]
          have h4 := len_or_le (withoutV (g y) x) (withoutV (g x) y)
          rw [len_without h2, len_without h1] at h4
          omega
      have h1 : len (el g b v) ≤ 2 := hvb hb (by omega) (Ne.symm e)
      have h2 := first_two (el_sym hg v) l (el g v) (el_sym hg v) (by omega) (hvb (by omega) hb e)
      rw [el_comm hg (Ne.symm e)]
      omega
/-- Least degree: not wider than two, where an order is not. -/
theorem minDeg_two : ∀ (k : Nat) (g : Gr) (left : VS), SymG g → len left ≤ k → (∀ v, has left v = false → g v = 0) → ∀ l : List Int, l.Nodup → (∀ v, v ∈ l ↔ has left v = true) → widthF g l ≤ 2 → widthF g (orderF degC k g left) ≤ 2
  | 0, g, left, _, _, _, _, _, _, _ => by simp [orderF, widthF]
  | k + 1, g, left, hg, hk, hd, l, hn, hl, hw => by
    unfold orderF
    by_cases h0 : left = 0
    · rw [if_pos h0]; simp [widthF]
    · rw [if_neg h0]
      obtain ⟨h1, h2⟩ := best_spec (cost := degC) (g := g) h0
      generalize best degC g left = b at *
      have hb : len (g b) ≤ 2 := by
        cases l with
        | nil => have := (hl _).2 (first_mem h0); cases this
        | cons v l =>
          have := h2 v ((hl v).1 (by simp))
          simp only [widthF] at hw
          unfold degC at this
          omega
      simp only [widthF]
      have h3 := first_two hg l g hg hw hb
      have h4 := len_without h1
      have := minDeg_two k (el g b) (withoutV left b) (el_sym hg b) (by omega) (fun v hv => by
        by_cases e : v = b
        · rw [e]; exact el_self g b
        · rw [has_withoutV] at hv
          exact el_zero hg (hd v (by simpa [e] using hv))) (l.erase b) (hn.erase b) (fun v => by
        rw [hn.mem_erase_iff, hl, has_withoutV]
        simp [and_comm]) h3
      omega
/-- A set in which each vertex has two neighbours makes each order two wide. -/
theorem core_width {d : Int} {c : VS} : ∀ (l : List Int) (g : Gr), SymG g → (∀ v, has c v = true → d ≤ len (g v &&& c)) → (∃ v, has c v = true ∧ v ∈ l) → d ≤ widthF g l
  | [], _, _, _, h => by obtain ⟨v, _, h⟩ := h; cases h
  | v :: l, g, hg, hc, h => by
    simp only [widthF]
    by_cases hv : has c v = true
    · have h1 := hc v hv
      have h2 := len_mono (a := g v &&& c) (b := g v) (fun u hu => by rw [has_and] at hu; simp at hu; exact hu.1)
      omega
    · have := core_width (d := d) (c := c) l (el g v) (el_sym hg v) (fun u hu => by
        have h1 := hc u hu
        have h2 := len_mono (a := g u &&& c) (b := el g v u &&& c) (fun x hx => by
          rw [has_and] at hx ⊢
          simp only [Bool.and_eq_true] at hx ⊢
          refine ⟨(has_el hg v u x).2 ⟨fun e => hv (e ▸ hu), fun e => hv (e ▸ hx.2), .inl hx.1⟩, hx.2⟩)
        omega) (by
        obtain ⟨u, h2, h3⟩ := h
        refine ⟨u, h2, ?_⟩
        rcases List.mem_cons.1 h3 with h3 | h3
        · exact absurd (h3 ▸ h2) hv
        · exact h3)
      omega
end Go.Proofs.YthgkklahiclcpaaDoor
