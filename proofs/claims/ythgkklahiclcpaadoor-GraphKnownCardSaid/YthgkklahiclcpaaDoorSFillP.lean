/- Plain: the graph with the edges that an order brings about. -/
import Derived.Test.YthgkklahiclcpaaDoorSRefP
namespace Go.Proofs.YthgkklahiclcpaaDoor

def fillSt (st : List VS × List VS) (v : Int) : List VS × List VS := (elR st.1 v, joinAll st.2 (missP (gOf st.1) v))
def filledR (L : List VS) (l : List Int) : List VS := (l.foldl fillSt (L, L)).2
theorem fillSt_length : ∀ (l : List Int) (st : List VS × List VS), (l.foldl fillSt st).1.length = st.1.length ∧ (l.foldl fillSt st).2.length = st.2.length
  | [], st => ⟨rfl, rfl⟩
  | v :: l, st => by
    obtain ⟨h1, h2⟩ := fillSt_length l (fillSt st v)
    rw [List.foldl_cons]
    exact ⟨h1.trans (elR_length _ _), h2.trans (joinAll_length _ _)⟩
theorem has_filled : ∀ (l : List Int) (M N : List VS), ValidG M → N.length = M.length → subG (gOf M) (gOf N) → (∀ v ∈ l, 1 ≤ v ∧ v < (M.length : Int)) → ∀ u w, has (gOf (l.foldl fillSt (M, N)).2 u) w = true ↔ has (gOf N u) w = true ∨ addE (gOf M) l u w
  | [], M, N, _, _, _, _, u, w => by simp [addE]
  | v :: l, M, N, hM, hl, hs, hr, u, w => by
    have hv := hr v (by simp)
    have hg := hM.sym
    have hel := gOf_elR hM (v := v) (by omega) hv.2
    have hj := has_joinAll (missP (gOf M) v) N (by rw [hl]; exact inP_miss hM v) (by rw [hl]; exact hM.le)
    have key : ∀ x y, has (gOf M v) x = true → has (gOf M v) y = true → x ≠ y → has (gOf N x) y = true ∨ (x, y) ∈ missP (gOf M) v ∨ (y, x) ∈ missP (gOf M) v := by
      intro x y hx hy hne
      cases h1 : has (gOf M x) y with
      | true => exact .inl (hs _ _ h1)
      | false =>
        have h2 : has (gOf M y) x = false := by
          cases h3 : has (gOf M y) x with
          | false => rfl
          | true => rw [hg.sym _ _ h3] at h1; cases h1
        exact .inr (missP_all v hx hy hne h1 h2)
    have ih := has_filled l (elR M v) (joinAll N (missP (gOf M) v)) (by rw [elR_eq hM (by omega) hv.2]; exact elL_valid hM (by omega) hv.2) (by rw [joinAll_length, elR_length, hl]) (by
      intro x y hxy
      rw [hel] at hxy
      obtain ⟨_, _, h3 | ⟨h3, h4, h5⟩⟩ := (has_el hg v x y).1 hxy
      · exact (hj x y).2 (.inl (hs _ _ h3))
      · exact (hj x y).2 (key x y h3 h4 (Ne.symm h5))) (fun x hx => by rw [elR_length]; exact hr x (by simp [hx])) u w
    rw [List.foldl_cons]
    refine ih.trans ?_
    rw [hel, hj]
    simp only [addE]
    constructor
    · rintro ((h | h | h) | h)
      · exact .inl h
      · obtain ⟨a1, a2, a3, _⟩ := mem_missP v h
        exact .inr (.inl ⟨a1, a2, a3⟩)
      · obtain ⟨a1, a2, a3, _⟩ := mem_missP v h
        exact .inr (.inl ⟨a2, a1, Ne.symm a3⟩)
      · exact .inr (.inr h)
    · rintro (h | ⟨a1, a2, a3⟩ | h)
      · exact .inl (.inl h)
      · exact .inl (key u w a1 a2 a3)
      · exact .inr h
theorem addE_range {n : Int} : ∀ (l : List Int) (g : Gr), SymG g → (∀ u w, has (g u) w = true → w ≤ n) → ∀ u w, addE g l u w → w ≤ n
  | [], _, _, _, _, _, h => h.elim
  | v :: l, g, hg, hr, u, w, h => by
    rcases h with ⟨_, h2, _⟩ | h
    · exact hr _ _ h2
    · refine addE_range l (el g v) (el_sym hg v) (fun x y hxy => ?_) u w h
      obtain ⟨_, _, h3 | ⟨_, h3, _⟩⟩ := (has_el hg v x y).1 hxy
      · exact hr _ _ h3
      · exact hr _ _ h3
theorem el_zero {g : Gr} (hg : SymG g) {a v : Int} (h : g v = 0) : el g a v = 0 := by
  apply zero_of_none
  intro x
  cases e : has (el g a v) x with
  | false => rfl
  | true =>
    obtain ⟨_, _, e1 | ⟨e1, _⟩⟩ := (has_el hg a v x).1 e
    · rw [h, has_zero] at e1; cases e1
    · have := hg.sym _ _ e1; rw [h, has_zero] at this; cases this
theorem leaves_zero : ∀ (l : List Int) (g : Gr), SymG g → ∀ v, (v ∈ l ∨ g v = 0) → leaves g l v = 0
  | [], g, _, v, h => h.resolve_left (by simp)
  | a :: l, g, hg, v, h => by
    refine leaves_zero l (el g a) (el_sym hg a) v ?_
    rcases h with h | h
    · rcases List.mem_cons.1 h with rfl | h
      · exact .inr (el_self g v)
      · exact .inl h
    · exact .inr (el_zero hg h)
/-- An order of a valid graph. -/
theorem ord_all {L : List VS} (h : ValidG L) {l : List Int} (hl : IsOrd l (L.length - 1)) : ∀ v, v ∈ l ↔ has (allV ((L.length : Int) - 1)) v = true := by
  intro v
  have h1 := h.pos
  have h2 := h.le
  rw [hl.mem, has_allV]
  simp only [Bool.and_eq_true, decide_eq_true_eq]
  omega
theorem leaves_ord {L : List VS} (h : ValidG L) {l : List Int} (hl : IsOrd l (L.length - 1)) : ∀ v, leaves (gOf L) l v = 0 := by
  intro v
  refine leaves_zero l (gOf L) h.sym v ?_
  cases hv : has (allV ((L.length : Int) - 1)) v with
  | true => exact .inl ((ord_all h hl v).2 hv)
  | false => exact .inr (gOf_dead h v hv)
theorem filled_fill {L : List VS} (h : ValidG L) {l : List Int} (hl : IsOrd l (L.length - 1)) : Fill (gOf L) (gOf (filledR L l)) l := fun u w =>
  has_filled l L L h rfl (fun _ _ e => e) (fun v hv => by have := (hl.mem v).1 hv; have := h.pos; omega) u w
theorem filled_length (L : List VS) (l : List Int) : (filledR L l).length = L.length := (fillSt_length l (L, L)).2
theorem filled_valid {L : List VS} (h : ValidG L) {l : List Int} (hl : IsOrd l (L.length - 1)) : ValidG (filledR L l) := by
  have hf := filled_fill h hl
  have hs := fill_sym h.sym hf
  refine ⟨by rw [filled_length]; exact h.pos, by rw [filled_length]; exact h.le, ?_, fun k _ _ => ⟨hs.irr _, fun w hw => ?_, fun w hw => hs.sym _ _ hw⟩⟩
  · apply zero_of_none
    intro w
    cases e : has (gOf (filledR L l) 0) w with
    | false => rfl
    | true => have := has_range (hs.sym _ _ e); omega
  · rw [filled_length]
    rcases (hf _ _).1 hw with e | e
    · exact (h.range e).2
    · exact addE_range l (gOf L) h.sym (fun u w e => (h.range e).2) _ _ e
/-- The stage's theorem. -/
theorem chordal {L : List VS} (h : ValidG L) {l : List Int} (hl : IsOrd l (L.length - 1)) :
    widthF (gOf (filledR L l)) l = widthF (gOf L) l ∧ widthF (gOf (filledR L l)) (orderP fillC (filledR L l)) = widthF (gOf L) l := by
  have hV := filled_valid h hl
  obtain ⟨h1, h2⟩ := fill_perf h.sym (filled_fill h hl) (leaves_ord h hl)
  refine ⟨h2, ?_⟩
  have hle := hV.le
  have hpos := hV.pos
  rw [orderP_yes (validG_yes hV), ← h2]
  refine minFill_perf hV.sym ?_ (gOf_dead hV) h1 ?_
  · rw [len_allL hV]; omega
  · have := ord_all hV (l := l) (by rw [filled_length]; exact hl)
    exact this
/-- What Width says of an order. -/
theorem widthP_ord {L : List VS} (h : ValidG L) {l : List Int} (hl : IsOrd l (L.length - 1)) : widthP L l = widthF (gOf L) l := by
  have h1 := h.pos
  have h2 := h.le
  have h3 := hl.len
  obtain ⟨_, h4⟩ := (isOrd_iff (l := l) (n := L.length - 1) (by omega)).2 hl
  exact widthP_yes (validG_yes h) (by omega) (by rw [h4, h3])
end Go.Proofs.YthgkklahiclcpaaDoor
