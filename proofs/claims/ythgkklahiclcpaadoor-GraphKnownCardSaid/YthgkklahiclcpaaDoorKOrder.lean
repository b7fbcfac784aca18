/- Plain mathematics of graphs: orders with a least cost. -/
import Derived.Test.YthgkklahiclcpaaDoorKGraph
namespace Go.Proofs.YthgkklahiclcpaaDoor

/-! ### the first with the least cost -/
def pickStep (cost : Int → Int) (b : Int × Int) (v : Int) : Int × Int := if b.1 = 0 ∨ cost v < b.2 then (v, cost v) else b
def pick (cost : Int → Int) (l : List Int) : Int × Int := l.foldl (pickStep cost) (0, 0)
def PickOk (cost : Int → Int) (l : List Int) (b : Int × Int) : Prop := (l = [] ∧ b = (0, 0)) ∨ (b.1 ∈ l ∧ b.2 = cost b.1 ∧ ∀ v ∈ l, cost b.1 ≤ cost v)
theorem pickOk_step {cost : Int → Int} {l : List Int} {b : Int × Int} {v : Int} (h : PickOk cost l b) (hl : ∀ u ∈ l, 1 ≤ u) : PickOk cost (l ++ [v]) (pickStep cost b v) := by
  unfold pickStep
  rcases h with ⟨rfl, rfl⟩ | ⟨h1, h2, h3⟩
  · right; simp
  · have h0 : b.1 ≠ 0 := by have := hl _ h1; omega
    by_cases hc : cost v < b.2
    · rw [if_pos (.inr hc)]
      right
      refine ⟨by simp, rfl, fun u hu => ?_⟩
      rcases List.mem_append.1 hu with hu | hu
      · have := h3 u hu; show cost v ≤ cost u; omega
      · have : u = v := by simpa using hu
        subst this; exact Int.le_refl _
    · rw [if_neg (by simp [h0]; omega)]
      right
      refine ⟨by simp [h1], h2, fun u hu => ?_⟩
      rcases List.mem_append.1 hu with hu | hu
      · exact h3 u hu
      · have : u = v := by simpa using hu
        subst this; omega
theorem pickOk_fold {cost : Int → Int} : ∀ (l pre : List Int) (b : Int × Int), PickOk cost pre b → (∀ u ∈ pre ++ l, 1 ≤ u) → PickOk cost (pre ++ l) (l.foldl (pickStep cost) b)
  | [], pre, b, h, _ => by simpa using h
  | v :: l, pre, b, h, hl => by
    have := pickOk_fold l (pre ++ [v]) (pickStep cost b v) (pickOk_step h fun u hu => hl u (by simp [hu])) (by simpa using hl)
    simpa using this
theorem pick_spec {cost : Int → Int} {l : List Int} (hne : l ≠ []) (hl : ∀ u ∈ l, 1 ≤ u) : (pick cost l).1 ∈ l ∧ (pick cost l).2 = cost (pick cost l).1 ∧ ∀ v ∈ l, cost (pick cost l).1 ≤ cost v := by
  rcases pickOk_fold (cost := cost) l [] (0, 0) (.inl ⟨rfl, rfl⟩) (by simpa using hl) with ⟨h, _⟩ | h
  · exact absurd h (by simpa using hne)
  · simp only [List.nil_append] at h; exact h
theorem mems_ne {s : VS} (h : s ≠ 0) : mems s ≠ [] := by
  intro e
  apply h
  rw [← ofL_mems s, e]; rfl
theorem mems_pos (s : VS) : ∀ u ∈ mems s, 1 ≤ u := fun u hu => (has_range ((mem_mems s u).1 hu)).1
def best (cost : Gr → Int → Int) (g : Gr) (left : VS) : Int := (pick (cost g) (mems left)).1
theorem best_spec {cost : Gr → Int → Int} {g : Gr} {left : VS} (h : left ≠ 0) : has left (best cost g left) = true ∧ ∀ v, has left v = true → cost g (best cost g left) ≤ cost g v := by
  obtain ⟨h1, _, h3⟩ := pick_spec (cost := cost g) (mems_ne h) (mems_pos left)
  exact ⟨(mem_mems _ _).1 h1, fun v hv => h3 v ((mem_mems _ _).2 hv)⟩
/-- The order in which the first with the least cost is eliminated. -/
def orderF (cost : Gr → Int → Int) : Nat → Gr → VS → List Int
  | 0, _, _ => []
  | k + 1, g, left => if left = 0 then [] else best cost g left :: orderF cost k (el g (best cost g left)) (withoutV left (best cost g left))
theorem orderF_all (cost : Gr → Int → Int) : ∀ (k : Nat) (g : Gr) (left : VS), len left ≤ k → (∀ v, v ∈ orderF cost k g left ↔ has left v = true) ∧ ((orderF cost k g left).length : Int) = len left
  | 0, g, left, h => by
    have : left = 0 := len_none (by omega)
    subst this
    exact ⟨fun v => by simp [orderF, has_zero0], by simp [orderF, len_zero0]⟩
  | k + 1, g, left, h => by
    unfold orderF
    by_cases h0 : left = 0
    · subst h0
      rw [if_pos rfl]
      exact ⟨fun v => by simp [has_zero0], by simp [len_zero0]⟩
    · rw [if_neg h0]
      obtain ⟨h1, _⟩ := best_spec (cost := cost) (g := g) h0
      have h2 := len_without h1
      obtain ⟨i1, i2⟩ := orderF_all cost k (el g (best cost g left)) (withoutV left (best cost g left)) (by omega)
      refine ⟨fun v => ?_, ?_⟩
      · rw [List.mem_cons, i1, has_withoutV]
        by_cases e : v = best cost g left
        · subst e; simp [h1]
        · simp [e]
      · rw [List.length_cons]; push_cast; omega
theorem exists_simp {g : Gr} (hg : SymG g) {left : VS} (h0 : left ≠ 0) (hd : ∀ v, has left v = false → g v = 0) : ∀ {l : List Int}, Perf g l → ∃ v, has left v = true ∧ Simp g v ∧ len (g v) ≤ widthF g l
  | [], h => ⟨first left, first_mem h0, fun u w hu => (by rw [h, has_zero] at hu; cases hu), by rw [h, len_zero]; exact Int.le_refl _⟩
  | v :: l, h => by
    cases hv : has left v
    · have e := el_none hg (hd v hv)
      obtain ⟨_, h2⟩ := h
      rw [e] at h2
      obtain ⟨u, h3, h4, h5⟩ := exists_simp hg h0 hd h2
      refine ⟨u, h3, h4, ?_⟩
      simp only [widthF]
      rw [e]; omega
    · exact ⟨v, hv, h.1, by simp only [widthF]; omega⟩
/-- The costs that tell a vertex without fill. -/
def Tells (cost : Gr → Int → Int) (d : Int) : Prop := ∀ g, SymG g → ∀ v b, Simp g v → len (g v) ≤ d → cost g b ≤ cost g v → Simp g b
theorem orderF_perf {cost : Gr → Int → Int} {d : Int} (hc : Tells cost d) : ∀ (k : Nat) {g : Gr} (_ : SymG g) (left : VS), len left ≤ k → (∀ v, has left v = false → g v = 0) → ∀ {l : List Int}, Perf g l → widthF g l ≤ d → Perf g (orderF cost k g left)
  | 0, g, hg, left, h, hd, l, _, _ => by
    have : left = 0 := len_none (by omega)
    subst this
    intro v; exact hd v (has_zero v)
  | k + 1, g, hg, left, h, hd, l, hp, hw => by
    unfold orderF
    by_cases h0 : left = 0
    · rw [if_pos h0]; subst h0; intro v; exact hd v (has_zero v)
    · rw [if_neg h0]
      obtain ⟨h1, h1'⟩ := best_spec (cost := cost) (g := g) h0
      generalize best cost g left = b at *
      obtain ⟨v, v1, v2, v3⟩ := exists_simp hg h0 hd hp
      have hs := hc g hg v b v2 (by omega) (h1' v v1)
      have h2 := len_without h1
      refine ⟨hs, ?_⟩
      rw [el_simp hg hs]
      refine orderF_perf hc k (rem_sym hg b) (withoutV left b) (by omega) (fun u hu => ?_) (perf_rem hg b hp) ?_
      · unfold rem
        by_cases e : u = b
        · rw [if_pos e]
        · rw [if_neg e]
          rw [has_withoutV] at hu
          have : has left u = false := by simpa [e] using hu
          rw [hd u this]
          apply zero_of_none; intro x; rw [has_withoutV, has_zero]; rfl
      · have := widthF_mono (rem_sym hg b) hg (fun x y e => ((has_rem g b x y).1 e).2.2) l
        omega
/-- The fill. -/
def fillC (g : Gr) (v : Int) : Int := ((mems (g v)).map fun w => len (minus (g v) (g w)) - 1).sum
def degC (g : Gr) (v : Int) : Int := len (g v)
theorem sum_pos : ∀ {l : List Int}, (∀ x ∈ l, 0 ≤ x) → 0 ≤ l.sum
  | [], _ => by simp
  | a :: l, h => by
    have h1 := sum_pos (l := l) (fun x hx => h x (by simp [hx]))
    have h2 := h a (by simp)
    simp only [List.sum_cons]; omega
theorem sum_zero : ∀ {l : List Int}, (∀ x ∈ l, 0 ≤ x) → l.sum ≤ 0 → ∀ x ∈ l, x = 0
  | [], _, _, x, hx => by cases hx
  | a :: l, h, h0, x, hx => by
    have h1 := sum_pos (l := l) (fun x hx => h x (by simp [hx]))
    have h2 := h a (by simp)
    simp only [List.sum_cons] at h0
    rcases List.mem_cons.1 hx with rfl | hx
    · omega
    · exact sum_zero (l := l) (fun x hx => h x (by simp [hx])) (by omega) x hx
theorem fill_part {g : Gr} (hg : SymG g) {v w : Int} (hw : has (g v) w = true) : has (minus (g v) (g w)) w = true := by
  rw [has_minus, hw, hg.irr]; rfl
theorem fill_ge {g : Gr} (hg : SymG g) {v w : Int} (hw : has (g v) w = true) : 0 ≤ len (minus (g v) (g w)) - 1 := by
  have := len_without (fill_part hg hw)
  have := len_pos (s := withoutV (minus (g v) (g w)) w)
  omega
theorem fillC_pos {g : Gr} (hg : SymG g) (v : Int) : 0 ≤ fillC g v := by
  unfold fillC
  apply sum_pos
  intro x hx
  obtain ⟨w, hw, rfl⟩ := List.mem_map.1 hx
  exact fill_ge hg ((mem_mems _ _).1 hw)
theorem fillC_zero {g : Gr} (hg : SymG g) {v : Int} : fillC g v ≤ 0 ↔ Simp g v := by
  unfold fillC
  constructor
  · intro h u w hu hw hne
    have hp : ∀ x ∈ (mems (g v)).map fun w => len (minus (g v) (g w)) - 1, 0 ≤ x := by
      intro x hx
      obtain ⟨w, hw, rfl⟩ := List.mem_map.1 hx
      exact fill_ge hg ((mem_mems _ _).1 hw)
    have h1 := sum_zero hp h _ (List.mem_map.2 ⟨u, (mem_mems _ _).2 hu, rfl⟩)
    cases e : has (g u) w with
    | true => rfl
    | false =>
      have h2 : has (minus (g v) (g u)) w = true := by rw [has_minus, hw, e]; rfl
      exact absurd (len_one (by omega) (fill_part hg hu) h2) hne
  · intro h
    have : ∀ x ∈ (mems (g v)).map fun w => len (minus (g v) (g w)) - 1, x = 0 := by
      intro x hx
      obtain ⟨w, hw, rfl⟩ := List.mem_map.1 hx
      have hw := (mem_mems _ _).1 hw
      have e : minus (g v) (g w) = one w := by
        apply ext_has
        intro u _ _
        have hr := has_range hw
        rw [has_minus, has_one]
        by_cases e : u = w
        · subst e; simp [hw, hg.irr, hr.1, hr.2]
        · cases hu : has (g v) u
          · simp [e]
          · rw [h w u hw hu (Ne.symm e)]; simp [e]
      have hr := has_range hw
      have h3 := len_with (s := 0) (v := w) (has_zero w) hr.1 hr.2
      rw [len_zero] at h3
      have h4 : withV 0 w = one w := by
        apply ext_has; intro u _ _; rw [has_withV, has_zero, has_one]; simp
      rw [h4] at h3
      rw [e, h3]; rfl
    have h2 : ∀ {l : List Int}, (∀ x ∈ l, x = 0) → l.sum = 0 := by
      intro l
      induction l with
      | nil => intro _; rfl
      | cons a l ih => intro h; rw [List.sum_cons, ih fun x hx => h x (by simp [hx]), h a (by simp)]; rfl
    rw [h2 this]; exact Int.le_refl _
theorem fill_tells (d : Int) : Tells fillC d := fun g hg v b hv _ hc => (fillC_zero hg).1 (by have := (fillC_zero hg).2 hv; omega)
theorem deg_tells : Tells degC 1 := fun g _ v b _ hd hc u w hu hw hne => absurd (len_one (by unfold degC at hc; omega) hu hw) hne
/-- On a graph that has an order without fill, the least fill gives such an order, which is as wide. -/
theorem minFill_perf {g : Gr} (hg : SymG g) {left : VS} {k : Nat} (hk : len left ≤ k) (hd : ∀ v, has left v = false → g v = 0) {l : List Int} (hp : Perf g l) (hl : ∀ v, v ∈ l ↔ has left v = true) : widthF g (orderF fillC k g left) = widthF g l :=
  perf_same hg (orderF_perf (fill_tells (widthF g l)) k hg left hk hd hp (Int.le_refl _)) hp fun v => by rw [(orderF_all fillC k g left hk).1, hl]
theorem minDeg_perf {g : Gr} (hg : SymG g) {left : VS} {k : Nat} (hk : len left ≤ k) (hd : ∀ v, has left v = false → g v = 0) {l : List Int} (hp : Perf g l) (hw : widthF g l ≤ 1) (hl : ∀ v, v ∈ l ↔ has left v = true) : widthF g (orderF degC k g left) = widthF g l :=
  perf_same hg (orderF_perf deg_tells k hg left hk hd hp hw) hp fun v => by rw [(orderF_all degC k g left hk).1, hl]
end Go.Proofs.YthgkklahiclcpaaDoor
