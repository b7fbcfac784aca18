/- Plain: forests, cliques, fewer edges, fans. -/
import Derived.Test.YthgkklahiclcpaaDoorSFillP
namespace Go.Proofs.YthgkklahiclcpaaDoor

/-! ### joins, whatever the length -/
theorem has_join1 {L : List VS} {a b : Int} (ha : 1 ≤ a ∧ a < (L.length : Int)) (hb : 1 ≤ b ∧ b < (L.length : Int)) (ha2 : a ≤ 128) (hb2 : b ≤ 128) (u x : Int) : has (gOf (joinL L a b) u) x = true ↔ has (gOf L u) x = true ∨ (u = a ∧ x = b) ∨ (u = b ∧ x = a) := by
  unfold joinL
  rw [gOf_set' _ (by omega) (by rw [List.length_set]; omega)]
  rw [gOf_set' L (by omega) (by omega), gOf_set' L (by omega) (by omega)]
  by_cases h1 : u = b
  · subst h1
    rw [if_pos rfl, has_withV]
    by_cases h2 : u = a
    · subst h2
      rw [if_pos rfl, has_withV]
      generalize has (gOf L u) x = t
      cases t <;> simp <;> omega
    · rw [if_neg h2]
      generalize has (gOf L u) x = t
      cases t <;> simp <;> omega
  · rw [if_neg h1]
    by_cases h2 : u = a
    · subst h2
      rw [if_pos rfl, has_withV]
      generalize has (gOf L u) x = t
      cases t <;> simp <;> omega
    · rw [if_neg h2]; simp [h1, h2]
/-- The law's linked. -/
def linkG (L : List VS) (v w : Int) : List VS := if v = w ∨ 128 < v ∨ 128 < w then L else joinL L v w
theorem linkG_length (L : List VS) (v w : Int) : (linkG L v w).length = L.length := by unfold linkG; split <;> simp [joinL_length]
theorem linkG_no {L : List VS} {v w : Int} (h : v = w ∨ 128 < v ∨ 128 < w) : linkG L v w = L := by unfold linkG; rw [if_pos h]
theorem linkG_yes {L : List VS} {v w : Int} (h : ¬ (v = w ∨ 128 < v ∨ 128 < w)) : linkG L v w = joinL L v w := by unfold linkG; rw [if_neg h]
/-- A list of sets that says a relation. -/
def Says (L : List VS) (R : Int → Int → Prop) : Prop := ∀ u x, has (gOf L u) x = true ↔ R u x
theorem Says.link {L : List VS} {R : Int → Int → Prop} (h : Says L R) {a b : Int} (ha : 1 ≤ a ∧ a < (L.length : Int)) (hb : 1 ≤ b ∧ b < (L.length : Int)) (hne : a ≠ b) (ha2 : a ≤ 128) (hb2 : b ≤ 128) :
    Says (linkG L a b) fun u x => R u x ∨ (u = a ∧ x = b) ∨ (u = b ∧ x = a) := fun u x => by
  rw [linkG_yes (by omega), has_join1 ha hb ha2 hb2, h u x]
theorem says_zero (n : Nat) : Says (List.replicate n (0 : VS)) fun _ _ => False := fun u x => by
  have : gOf (List.replicate n (0 : VS)) u = 0 := by
    unfold gOf
    split
    · rw [List.getD_eq_getElem?_getD, List.getElem?_replicate]; split <;> rfl
    · rfl
  rw [this, has_zero]; simp
theorem says_valid {L : List VS} {R : Int → Int → Prop} (h : Says L R) (h1 : 1 ≤ L.length) (h2 : L.length ≤ 129) (hi : ∀ v, ¬ R v v) (hs : ∀ u x, R u x → R x u) (hr : ∀ u x, R u x → 1 ≤ u ∧ u ≤ (L.length : Int) - 1 ∧ x ≤ (L.length : Int) - 1) : ValidG L := by
  refine ⟨h1, h2, ?_, fun k _ _ => ⟨?_, fun w hw => (hr _ _ ((h _ _).1 hw)).2.2, fun w hw => (h _ _).2 (hs _ _ ((h _ _).1 hw))⟩⟩
  · apply zero_of_none
    intro w
    cases e : has (gOf L 0) w with
    | false => rfl
    | true => have := (hr _ _ ((h _ _).1 e)).1; omega
  · cases e : has (gOf L (k : Int)) (k : Int) with
    | false => rfl
    | true => exact absurd ((h _ _).1 e) (hi _)
/-! ### descending orders, forests -/
def desc : Nat → List Int
  | 0 => []
  | n + 1 => ((n : Int) + 1) :: desc n
theorem desc_length : ∀ n, (desc n).length = n
  | 0 => rfl
  | n + 1 => by simp [desc, desc_length n]
theorem mem_desc : ∀ (n : Nat) (v : Int), v ∈ desc n ↔ 1 ≤ v ∧ v ≤ (n : Int)
  | 0, v => by simp [desc]; omega
  | n + 1, v => by
    rw [desc, List.mem_cons, mem_desc n v]; push_cast; omega
theorem desc_ord (n : Nat) : IsOrd (desc n) n := ⟨desc_length n, mem_desc n⟩
/-- Each vertex has one smaller neighbour at most. -/
structure Fo (g : Gr) (n : Nat) (par : Int → Int) : Prop where
  sg : SymG g
  le : ∀ u x, has (g u) x = true → x ≤ (n : Int)
  par : ∀ u x, has (g u) x = true → x < u → x = par u
theorem Fo.rem {g : Gr} {n : Nat} {par : Int → Int} (h : Fo g (n + 1) par) : Fo (rem g ((n : Int) + 1)) n par := by
  refine ⟨rem_sym h.sg _, fun u x e => ?_, fun u x e => h.par u x ((has_rem g _ u x).1 e).2.2⟩
  obtain ⟨_, h2, h3⟩ := (has_rem g _ u x).1 e
  have := h.le u x h3
  push_cast at this; omega
theorem Fo.top {g : Gr} {n : Nat} {par : Int → Int} (h : Fo g (n + 1) par) : Simp g ((n : Int) + 1) ∧ len (g ((n : Int) + 1)) ≤ 1 := by
  have hp : ∀ x, has (g ((n : Int) + 1)) x = true → x = par ((n : Int) + 1) := fun x e => by
    refine h.par _ _ e ?_
    have h1 := h.le _ _ e
    have h2 := h.sg.ne e
    push_cast at h1; omega
  refine ⟨fun u w hu hw hne => absurd ((hp u hu).trans (hp w hw).symm) hne, ?_⟩
  have := len_mono (a := g ((n : Int) + 1)) (b := one (par ((n : Int) + 1))) (fun v hv => by
    have hr := has_range hv
    have e := hp v hv
    subst e
    rw [has_one]; simp [hr.1, hr.2])
  have h1 : len (one (par ((n : Int) + 1))) ≤ 1 := by
    have e := len_with_le 0 (par ((n : Int) + 1))
    rw [len_zero] at e
    have e2 : withV 0 (par ((n : Int) + 1)) = one (par ((n : Int) + 1)) := by
      apply ext_has; intro u _ _; rw [has_withV, has_zero, has_one]; simp
    rw [e2] at e
    split at e <;> omega
  omega
theorem Fo.perf {par : Int → Int} : ∀ (n : Nat) {g : Gr}, Fo g n par → Perf g (desc n) ∧ widthF g (desc n) ≤ 1
  | 0, g, h => ⟨fun v => zero_of_none fun x => by
      cases e : has (g v) x with
      | false => rfl
      | true => have h1 := h.le _ _ e; have h2 := (has_range e).1; omega, by simp [desc, widthF]⟩
  | n + 1, g, h => by
    obtain ⟨h1, h2⟩ := h.top
    obtain ⟨i1, i2⟩ := Fo.perf n h.rem
    unfold desc
    refine ⟨⟨h1, by rw [el_simp h.sg h1]; exact i1⟩, ?_⟩
    simp only [widthF]
    rw [el_simp h.sg h1]
    omega
/-- An edge makes an order wide. -/
theorem edge_width {g : Gr} (hg : SymG g) {u x : Int} (h : has (g u) x = true) {l : List Int} (hl : u ∈ l) : 1 ≤ widthF g l := by
  have hne := hg.ne h
  have hr := has_range h
  have hr2 := has_range (hg.sym _ _ h)
  have hk : Clq g (withV (one u) x) := by
    intro a b ha hb hab
    rw [has_withV, has_one] at ha hb
    simp only [Bool.or_eq_true, Bool.and_eq_true, decide_eq_true_eq] at ha hb
    rcases ha with ⟨⟨rfl, _⟩, _⟩ | ⟨⟨rfl, _⟩, _⟩ <;> rcases hb with ⟨⟨rfl, _⟩, _⟩ | ⟨⟨rfl, _⟩, _⟩
    · exact absurd rfl hab
    · exact h
    · exact hg.sym _ _ h
    · exact absurd rfl hab
  have h1 := clique_bound hg hk l ⟨u, by rw [has_withV, has_one]; simp [hr2.1, hr2.2], hl⟩
  have h2 : len (withV (one u) x) = 2 := by
    have e1 : len (one u) = 1 := by
      have e := len_with (s := 0) (v := u) (has_zero u) hr2.1 hr2.2
      rw [len_zero] at e
      have e2 : withV 0 u = one u := by apply ext_has; intro w _ _; rw [has_withV, has_zero, has_one]; simp
      rw [e2] at e; exact e
    rw [len_with (by rw [has_one]; simp; omega) hr.1 hr.2, e1]; rfl
  omega
theorem no_edge_width : ∀ (l : List Int) (g : Gr), SymG g → (∀ v, g v = 0) → widthF g l = 0
  | [], g, _, _ => rfl
  | v :: l, g, hg, h => by
    simp only [widthF]
    rw [h v, len_zero, no_edge_width l (el g v) (el_sym hg v) (fun u => el_zero hg (h u))]
    rfl
/-- Widths of a forest. -/
theorem forest_widths {L : List VS} {par : Int → Int} (hV : ValidG L) (hF : Fo (gOf L) (L.length - 1) par) :
    widthP L (orderP fillC L) = widthF (gOf L) (desc (L.length - 1)) ∧ widthP L (orderP degC L) = widthF (gOf L) (desc (L.length - 1)) := by
  obtain ⟨hp, hw⟩ := hF.perf
  have hle := hV.le
  have hall := ord_all hV (desc_ord (L.length - 1))
  rw [widthP_ord hV (orderP_ord hV), widthP_ord hV (orderP_ord hV), orderP_yes (validG_yes hV), orderP_yes (validG_yes hV)]
  exact ⟨minFill_perf hV.sym (by rw [len_allL hV]; omega) (gOf_dead hV) hp hall, minDeg_perf hV.sym (by rw [len_allL hV]; omega) (gOf_dead hV) hp hw hall⟩
end Go.Proofs.YthgkklahiclcpaaDoor
