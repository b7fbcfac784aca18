/- Plain mathematics of graphs: elimination, widths, orders; no program in sight. -/
import Derived.Test.YthgkklahiclcpaaDoorVPlain
namespace Go.Proofs.YthgkklahiclcpaaDoor

/-! ### how many a set has -/
theorem len_mono {a b : VS} (h : ∀ v, has a v = true → has b v = true) : len a ≤ len b := by
  have e : mems a = (mems b).filter (has a) := by
    unfold mems
    rw [List.filter_filter]
    apply List.filter_congr
    intro x _
    cases ha : has a x
    · simp
    · simp [h x ha]
  unfold len
  rw [e]
  have := List.length_filter_le (has a) (mems b)
  omega
theorem filter_drop {p : Int → Bool} {v : Int} : ∀ {l : List Int}, l.Nodup → v ∈ l → p v = true → (l.filter fun u => p u && !decide (u = v)).length + 1 = (l.filter p).length
  | [], _, h, _ => by cases h
  | a :: l, hn, h, hp => by
    obtain ⟨hn1, hn2⟩ := List.nodup_cons.1 hn
    by_cases e : a = v
    · subst e
      have e2 : (l.filter fun u => p u && !decide (u = a)) = l.filter p := by
        apply List.filter_congr
        intro x hx
        have : x ≠ a := fun e => hn1 (e ▸ hx)
        simp [this]
      simp only [List.filter_cons, hp, decide_true, Bool.not_true, Bool.and_false, Bool.false_eq_true, if_false, if_true, List.length_cons, e2]
    · have hv : v ∈ l := by
        rcases List.mem_cons.1 h with h | h
        · exact absurd h.symm e
        · exact h
      have ih := filter_drop hn2 hv hp
      simp only [List.filter_cons, decide_eq_false e, Bool.not_false, Bool.and_true]
      cases hpa : p a
      · simpa using ih
      · simp only [if_true, List.length_cons]; omega
theorem range_nodup : ((List.range 128).map fun i : Nat => (i : Int) + 1).Nodup := by
  unfold List.Nodup
  rw [List.pairwise_map]
  exact List.pairwise_lt_range.imp fun h => by omega
theorem len_without {s : VS} {v : Int} (h : has s v = true) : len (withoutV s v) = len s - 1 := by
  have hr := has_range h
  have := filter_drop (p := has s) (v := v) range_nodup (by rw [List.mem_map]; exact ⟨(v - 1).toNat, by simp; omega, by omega⟩) h
  unfold len mems
  have e : (((List.range 128).map fun i : Nat => (i : Int) + 1).filter (has (withoutV s v))) = (((List.range 128).map fun i : Nat => (i : Int) + 1).filter fun u => has s u && !decide (u = v)) := by
    apply List.filter_congr; intro x _; exact has_withoutV s v x
  rw [e]
  omega
theorem len_with {s : VS} {v : Int} (h : has s v = false) (h1 : 1 ≤ v) (h2 : v ≤ 128) : len (withV s v) = len s + 1 := by
  have h3 : has (withV s v) v = true := by rw [has_withV]; simp [h1, h2]
  have := len_without h3
  have e : withoutV (withV s v) v = s := by
    apply ext_has
    intro u _ _
    rw [has_withoutV, has_withV]
    by_cases e : u = v
    · subst e; simp [h]
    · simp [e]
  rw [e] at this
  omega
theorem len_pos {s : VS} : 0 ≤ len s := by unfold len; omega
theorem len_zero : len 0 = 0 := by
  have : mems 0 = [] := by
    rw [List.eq_nil_iff_forall_not_mem]; intro v; rw [mem_mems, has_zero]; simp
  unfold len; rw [this]; rfl
theorem has_zero0 (v : Int) : has (0#128) v = false := has_zero v
theorem len_zero0 : len (0#128) = 0 := len_zero
theorem len_none {s : VS} (h : len s ≤ 0) : s = 0 := by
  have : (mems s).length = 0 := by unfold len at h; omega
  rw [← ofL_mems s, List.eq_nil_of_length_eq_zero this]; rfl
theorem zero_of_none {s : VS} (h : ∀ v, has s v = false) : s = 0 := ext_has fun v _ _ => by rw [h v, has_zero]
theorem len_one {s : VS} (h : len s ≤ 1) {u w : Int} (hu : has s u = true) (hw : has s w = true) : u = w := by
  apply Classical.byContradiction
  intro hne
  have h1 := len_without hu
  have h2 : has (withoutV s u) w = true := by rw [has_withoutV, hw]; simp; exact fun e => hne e.symm
  have h3 := len_none (s := withoutV s u) (by omega)
  rw [h3, has_zero] at h2
  cases h2
theorem mems_nodup (s : VS) : (mems s).Nodup := (mems_sorted s).imp fun h => by omega

/-! ### graphs -/
abbrev Gr := Int → VS
/-- The graph without v, in which its neighbours are neighbours of each other. -/
def el (g : Gr) (v : Int) : Gr := fun w => if w = v then 0 else if has (g v) w = true then withoutV (withoutV (g w ||| g v) w) v else g w
structure SymG (g : Gr) : Prop where
  irr : ∀ v, has (g v) v = false
  sym : ∀ v w, has (g v) w = true → has (g w) v = true
theorem SymG.ne {g : Gr} (h : SymG g) {v w : Int} (e : has (g v) w = true) : v ≠ w := by
  rintro rfl; rw [h.irr] at e; cases e
theorem has_el {g : Gr} (hg : SymG g) (v w u : Int) : has (el g v w) u = true ↔ w ≠ v ∧ u ≠ v ∧ (has (g w) u = true ∨ (has (g v) w = true ∧ has (g v) u = true ∧ u ≠ w)) := by
  unfold el
  by_cases h1 : w = v
  · subst h1; rw [if_pos rfl, has_zero]; simp
  · rw [if_neg h1]
    by_cases h2 : has (g v) w = true
    · rw [if_pos h2, has_withoutV, has_withoutV, has_or]
      simp only [Bool.and_eq_true, Bool.or_eq_true, Bool.not_eq_true', decide_eq_false_iff_not, h2, true_and]
      constructor
      · rintro ⟨⟨h3 | h3, h4⟩, h5⟩
        · exact ⟨h1, h5, .inl h3⟩
        · exact ⟨h1, h5, .inr ⟨h3, h4⟩⟩
      · rintro ⟨_, h5, h3 | ⟨h3, h4⟩⟩
        · exact ⟨⟨.inl h3, (hg.ne h3).symm⟩, h5⟩
        · exact ⟨⟨.inr h3, h4⟩, h5⟩
    · rw [if_neg h2]
      constructor
      · intro h3
        refine ⟨h1, ?_, .inl h3⟩
        rintro rfl
        exact h2 (hg.sym _ _ h3)
      · rintro ⟨_, _, h3 | h3⟩
        · exact h3
        · exact absurd h3.1 h2
theorem el_sym {g : Gr} (hg : SymG g) (v : Int) : SymG (el g v) := by
  constructor
  · intro w
    cases h : has (el g v w) w with
    | false => rfl
    | true =>
      obtain ⟨_, _, h3 | ⟨_, _, h3⟩⟩ := (has_el hg v w w).1 h
      · exact absurd rfl (hg.ne h3)
      · exact absurd rfl h3
  · intro w u h
    obtain ⟨h1, h2, h3⟩ := (has_el hg v w u).1 h
    refine (has_el hg v u w).2 ⟨h2, h1, ?_⟩
    rcases h3 with h3 | ⟨h3, h4, h5⟩
    · exact .inl (hg.sym _ _ h3)
    · exact .inr ⟨h4, h3, Ne.symm h5⟩
theorem gr_ext {g h : Gr} (e : ∀ v w, has (g v) w = true ↔ has (h v) w = true) : g = h := by
  funext v
  apply ext_has
  intro w _ _
  rw [Bool.eq_iff_iff]; exact e v w
/-- An order's width. -/
def widthF (g : Gr) : List Int → Int
  | [] => 0
  | v :: l => max (len (g v)) (widthF (el g v) l)
theorem widthF_pos (g : Gr) (l : List Int) : 0 ≤ widthF g l := by
  induction l generalizing g with
  | nil => exact Int.le_refl _
  | cons v l ih => have := ih (el g v); simp only [widthF]; omega
def subG (g h : Gr) : Prop := ∀ v w, has (g v) w = true → has (h v) w = true
theorem el_mono {g h : Gr} (hg : SymG g) (hh : SymG h) (s : subG g h) (v : Int) : subG (el g v) (el h v) := by
  intro w u e
  obtain ⟨h1, h2, h3⟩ := (has_el hg v w u).1 e
  refine (has_el hh v w u).2 ⟨h1, h2, ?_⟩
  rcases h3 with h3 | ⟨h3, h4, h5⟩
  · exact .inl (s _ _ h3)
  · exact .inr ⟨s _ _ h3, s _ _ h4, h5⟩
/-- Fewer edges: no greater width. -/
theorem widthF_mono {g h : Gr} (hg : SymG g) (hh : SymG h) (s : subG g h) (l : List Int) : widthF g l ≤ widthF h l := by
  induction l generalizing g h with
  | nil => exact Int.le_refl _
  | cons v l ih =>
    have h1 := ih (el_sym hg v) (el_sym hh v) (el_mono hg hh s v)
    have h2 := len_mono (s v)
    simp only [widthF]; omega
/-- Any two of these are neighbours. -/
def Clq (g : Gr) (k : VS) : Prop := ∀ u w, has k u = true → has k w = true → u ≠ w → has (g u) w = true
/-- A clique makes each order wide. -/
theorem clique_bound {g : Gr} (hg : SymG g) {k : VS} (hk : Clq g k) (l : List Int) (hl : ∃ v, has k v = true ∧ v ∈ l) : len k - 1 ≤ widthF g l := by
  induction l generalizing g with
  | nil => obtain ⟨v, _, h⟩ := hl; cases h
  | cons v l ih =>
    simp only [widthF]
    by_cases hv : has k v = true
    · have h1 : len (withoutV k v) ≤ len (g v) := len_mono fun w hw => by
        rw [has_withoutV] at hw
        simp only [Bool.and_eq_true, Bool.not_eq_true', decide_eq_false_iff_not] at hw
        exact hk v w hv hw.1 (Ne.symm hw.2)
      rw [len_without hv] at h1
      omega
    · have h1 : Clq (el g v) k := fun u w hu hw hne => (has_el hg v u w).2 ⟨fun e => hv (e ▸ hu), fun e => hv (e ▸ hw), .inl (hk u w hu hw hne)⟩
      have := ih (el_sym hg v) h1 (by
        obtain ⟨u, h2, h3⟩ := hl
        refine ⟨u, h2, ?_⟩
        rcases List.mem_cons.1 h3 with h3 | h3
        · exact absurd (h3 ▸ h2) hv
        · exact h3)
      omega
/-! ### orders without fill -/
def Simp (g : Gr) (v : Int) : Prop := ∀ u w, has (g v) u = true → has (g v) w = true → u ≠ w → has (g u) w = true
/-- Each is simplicial when it is taken, and all are taken. -/
def Perf (g : Gr) : List Int → Prop
  | [] => ∀ v, g v = 0
  | v :: l => Simp g v ∧ Perf (el g v) l
def rem (g : Gr) (b : Int) : Gr := fun w => if w = b then 0 else withoutV (g w) b
theorem has_rem (g : Gr) (b w u : Int) : has (rem g b w) u = true ↔ w ≠ b ∧ u ≠ b ∧ has (g w) u = true := by
  unfold rem
  by_cases h : w = b
  · rw [if_pos h, has_zero]; simp [h]
  · rw [if_neg h, has_withoutV]; simp [h, and_comm]
theorem rem_sym {g : Gr} (hg : SymG g) (b : Int) : SymG (rem g b) := by
  constructor
  · intro v
    cases h : has (rem g b v) v with
    | false => rfl
    | true => exact absurd rfl (hg.ne ((has_rem g b v v).1 h).2.2)
  · intro v w h
    obtain ⟨h1, h2, h3⟩ := (has_rem g b v w).1 h
    exact (has_rem g b w v).2 ⟨h2, h1, hg.sym _ _ h3⟩
theorem el_simp {g : Gr} (hg : SymG g) {v : Int} (h : Simp g v) : el g v = rem g v := by
  apply gr_ext
  intro w u
  rw [has_el hg, has_rem]
  constructor
  · rintro ⟨h1, h2, h3 | ⟨h3, h4, h5⟩⟩
    · exact ⟨h1, h2, h3⟩
    · exact ⟨h1, h2, h w u h3 h4 (Ne.symm h5)⟩
  · rintro ⟨h1, h2, h3⟩; exact ⟨h1, h2, .inl h3⟩
theorem el_none {g : Gr} (hg : SymG g) {v : Int} (h : g v = 0) : el g v = g := by
  apply gr_ext
  intro w u
  rw [has_el hg]
  constructor
  · rintro ⟨_, _, h3 | ⟨h3, _⟩⟩
    · exact h3
    · rw [h, has_zero] at h3; cases h3
  · intro h3
    refine ⟨?_, ?_, .inl h3⟩
    · rintro rfl; rw [h, has_zero] at h3; cases h3
    · rintro rfl; have := hg.sym _ _ h3; rw [h, has_zero] at this; cases this
theorem perf_rem {g : Gr} (hg : SymG g) (b : Int) {l : List Int} (h : Perf g l) : Perf (rem g b) l := by
  induction l generalizing g with
  | nil =>
    intro v
    have := h v
    unfold rem
    by_cases e : v = b
    · rw [if_pos e]
    · rw [if_neg e, this]; apply zero_of_none; intro u; rw [has_withoutV, has_zero]; rfl
  | cons v l ih =>
    obtain ⟨h1, h2⟩ := h
    have h3 : Simp (rem g b) v := by
      intro u w hu hw hne
      obtain ⟨_, e2, e3⟩ := (has_rem g b v u).1 hu
      obtain ⟨_, f2, f3⟩ := (has_rem g b v w).1 hw
      exact (has_rem g b u w).2 ⟨e2, f2, h1 u w e3 f3 hne⟩
    refine ⟨h3, ?_⟩
    have e : el (rem g b) v = rem (el g v) b := by
      rw [el_simp (rem_sym hg b) h3, el_simp hg h1]
      apply gr_ext
      intro w u
      rw [has_rem, has_rem, has_rem, has_rem]
      constructor
      · rintro ⟨a1, a2, a3, a4, a5⟩; exact ⟨a3, a4, a1, a2, a5⟩
      · rintro ⟨a1, a2, a3, a4, a5⟩; exact ⟨a3, a4, a1, a2, a5⟩
    rw [e]
    exact ih (el_sym hg v) h2
theorem perf_clique {g : Gr} (hg : SymG g) {l : List Int} (h : Perf g l) : widthF g l = 0 ∨ ∃ k, Clq g k ∧ len k - 1 = widthF g l ∧ ∃ v, has k v = true ∧ v ∈ l := by
  induction l generalizing g with
  | nil => exact .inl rfl
  | cons v l ih =>
    obtain ⟨h1, h2⟩ := h
    have hp := widthF_pos (el g v) l
    simp only [widthF]
    by_cases hc : widthF (el g v) l ≤ len (g v)
    · by_cases h0 : len (g v) = 0
      · left; omega
      · right
        have hv : 1 ≤ v ∧ v ≤ 128 := by
          have : g v ≠ 0 := fun e => h0 (by rw [e, len_zero])
          exact has_range (hg.sym _ _ (first_mem this))
        refine ⟨withV (g v) v, ?_, ?_, v, ?_, by simp⟩
        · intro u w hu hw hne
          rw [has_withV] at hu hw
          simp only [Bool.or_eq_true, Bool.and_eq_true, decide_eq_true_eq] at hu hw
          rcases hu with hu | ⟨⟨rfl, _⟩, _⟩
          · rcases hw with hw | ⟨⟨rfl, _⟩, _⟩
            · exact h1 u w hu hw hne
            · exact hg.sym _ _ hu
          · rcases hw with hw | ⟨⟨rfl, _⟩, _⟩
            · exact hw
            · exact absurd rfl hne
        · rw [len_with (hg.irr v) hv.1 hv.2]; omega
        · rw [has_withV]; simp [hv.1, hv.2]
    · rcases ih (el_sym hg v) h2 with h3 | ⟨k, h3, h4, u, h5, h6⟩
      · have := len_pos (s := g v); omega
      · right
        refine ⟨k, ?_, by omega, u, h5, by simp [h6]⟩
        intro a c ha hc' hne
        have := h3 a c ha hc' hne
        rw [el_simp hg h1] at this
        exact ((has_rem _ _ _ _).1 this).2.2
/-- Orders without fill have the same width. -/
theorem perf_same {g : Gr} (hg : SymG g) {l m : List Int} (hl : Perf g l) (hm : Perf g m) (hlm : ∀ v, v ∈ l ↔ v ∈ m) : widthF g l = widthF g m := by
  have key : ∀ {l m : List Int}, Perf g l → Perf g m → (∀ v, v ∈ l ↔ v ∈ m) → widthF g l ≤ widthF g m := by
    intro l m hl hm hlm
    rcases perf_clique hg hl with h | ⟨k, h1, h2, v, h3, h4⟩
    · rw [h]; exact widthF_pos g m
    · rw [← h2]; exact clique_bound hg h1 m ⟨v, h3, (hlm v).1 h4⟩
  have h1 := key hl hm hlm
  have h2 := key hm hl (fun v => (hlm v).symm)
  omega
/-! ### the edges that an order brings about -/
def addE (g : Gr) : List Int → Int → Int → Prop
  | [], _, _ => False
  | v :: l, u, w => (has (g v) u = true ∧ has (g v) w = true ∧ u ≠ w) ∨ addE (el g v) l u w
/-- h is g with the edges that l brings about. -/
def Fill (g h : Gr) (l : List Int) : Prop := ∀ u w, has (h u) w = true ↔ has (g u) w = true ∨ addE g l u w
theorem addE_sym {g : Gr} {l : List Int} {u w : Int} (h : addE g l u w) : addE g l w u := by
  induction l generalizing g with
  | nil => exact h
  | cons v l ih =>
    rcases h with ⟨h1, h2, h3⟩ | h
    · exact .inl ⟨h2, h1, Ne.symm h3⟩
    · exact .inr (ih h)
theorem addE_ne {g : Gr} {l : List Int} {u w : Int} (h : addE g l u w) : u ≠ w := by
  induction l generalizing g with
  | nil => exact absurd h id
  | cons v l ih =>
    rcases h with ⟨h1, h2, h3⟩ | h
    · exact h3
    · exact ih h
theorem fill_sym {g h : Gr} (hg : SymG g) {l : List Int} (hf : Fill g h l) : SymG h := by
  constructor
  · intro v
    cases e : has (h v) v with
    | false => rfl
    | true =>
      rcases (hf v v).1 e with e | e
      · exact absurd rfl (hg.ne e)
      · exact absurd rfl (addE_ne e)
  · intro v w e
    refine (hf w v).2 ?_
    rcases (hf v w).1 e with e | e
    · exact .inl (hg.sym _ _ e)
    · exact .inr (addE_sym e)
theorem addE_dead {g : Gr} (hg : SymG g) {l : List Int} {v w : Int} (h0 : g v = 0) : ¬ addE g l v w := by
  induction l generalizing g with
  | nil => exact id
  | cons u l ih =>
    rintro (⟨h1, _⟩ | h)
    · have := hg.sym _ _ h1; rw [h0, has_zero] at this; cases this
    · refine ih (el_sym hg u) ?_ h
      apply zero_of_none
      intro x
      cases e : has (el g u v) x with
      | false => rfl
      | true =>
        obtain ⟨_, _, e1 | ⟨e1, _⟩⟩ := (has_el hg u v x).1 e
        · rw [h0, has_zero] at e1; cases e1
        · have := hg.sym _ _ e1; rw [h0, has_zero] at this; cases this
theorem el_self (g : Gr) (v : Int) : el g v v = 0 := by unfold el; rw [if_pos rfl]
/-- What an order leaves. -/
def leaves (g : Gr) : List Int → Gr
  | [] => g
  | v :: l => leaves (el g v) l
theorem fill_perf {g h : Gr} (hg : SymG g) {l : List Int} (hf : Fill g h l) (hz : ∀ v, leaves g l v = 0) : Perf h l ∧ widthF h l = widthF g l := by
  induction l generalizing g h with
  | nil =>
    refine ⟨fun v => ?_, rfl⟩
    apply zero_of_none
    intro w
    cases e : has (h v) w with
    | false => rfl
    | true =>
      rcases (hf v w).1 e with e | e
      · have := hz v; change g v = 0 at this; rw [this, has_zero] at e; cases e
      · exact absurd e id
  | cons v l ih =>
    have hh := fill_sym hg hf
    have hv : ∀ w, has (h v) w = true ↔ has (g v) w = true := by
      intro w
      rw [hf]
      constructor
      · rintro (e | ⟨e, _⟩ | e)
        · exact e
        · rw [hg.irr] at e; cases e
        · exact absurd e (addE_dead (el_sym hg v) (el_self g v))
      · exact .inl
    have hs : Simp h v := fun u w hu hw hne => (hf u w).2 (.inr (.inl ⟨(hv u).1 hu, (hv w).1 hw, hne⟩))
    have hf' : Fill (el g v) (el h v) l := by
      intro u w
      rw [el_simp hh hs, has_rem, hf, has_el hg]
      constructor
      · rintro ⟨h1, h2, h3 | ⟨h3, h4, h5⟩ | h3⟩
        · exact .inl ⟨h1, h2, .inl h3⟩
        · exact .inl ⟨h1, h2, .inr ⟨h3, h4, Ne.symm h5⟩⟩
        · exact .inr h3
      · rintro (⟨h1, h2, h3 | ⟨h3, h4, h5⟩⟩ | h3)
        · exact ⟨h1, h2, .inl h3⟩
        · exact ⟨h1, h2, .inr (.inl ⟨h3, h4, Ne.symm h5⟩)⟩
        · refine ⟨?_, ?_, .inr (.inr h3)⟩
          · rintro rfl; exact addE_dead (el_sym hg u) (el_self g u) h3
          · rintro rfl; exact addE_dead (el_sym hg w) (el_self g w) (addE_sym h3)
    obtain ⟨i1, i2⟩ := ih (el_sym hg v) hf' hz
    refine ⟨⟨hs, i1⟩, ?_⟩
    simp only [widthF]
    rw [i2]
    have : len (h v) = len (g v) := by
      have : h v = g v := ext_has fun w _ _ => by rw [Bool.eq_iff_iff]; exact hv w
      rw [this]
    rw [this]
end Go.Proofs.YthgkklahiclcpaaDoor
