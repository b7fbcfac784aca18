/- Plain: what the reference of the layer graph computes. -/
import Derived.Test.YthgkklahiclcpaaDoorSOrder
namespace Go.Proofs.YthgkklahiclcpaaDoor

/-! ### pairs that are missing -/
def cellP (g : Gr) (a b : Int) : List (Int × Int) := if has (g a) b = true then [] else [(a, b)]
def rowTo (g : Gr) (l : List Int) (a : Int) (k : Nat) : List (Int × Int) := (l.take k).flatMap (cellP g a)
theorem rowTo_succ (g : Gr) (l : List Int) (a : Int) (k : Nat) (h : k < l.length) : rowTo g l a (k + 1) = rowTo g l a k ++ cellP g a l[k] := by
  unfold rowTo
  rw [List.take_succ_eq_append_getElem h, List.flatMap_append]
  simp
def missTo (g : Gr) (l : List Int) : Nat → List (Int × Int)
  | 0 => []
  | i + 1 => missTo g l i ++ rowTo g l (l.getD i 0) i
def missP (g : Gr) (v : Int) : List (Int × Int) := missTo g (mems (g v)) (mems (g v)).length
theorem mem_cellP {g : Gr} {a b x y : Int} : (x, y) ∈ cellP g a b ↔ x = a ∧ y = b ∧ has (g a) b = false := by
  unfold cellP
  cases h : has (g a) b <;> simp
theorem mem_rowTo {g : Gr} {l : List Int} {a x y : Int} {k : Nat} : (x, y) ∈ rowTo g l a k ↔ x = a ∧ y ∈ l.take k ∧ has (g a) y = false := by
  unfold rowTo
  rw [List.mem_flatMap]
  constructor
  · rintro ⟨b, hb, h⟩
    obtain ⟨h1, h2, h3⟩ := mem_cellP.1 h
    exact ⟨h1, h2 ▸ hb, h2 ▸ h3⟩
  · rintro ⟨h1, h2, h3⟩
    exact ⟨y, h2, mem_cellP.2 ⟨h1, rfl, h3⟩⟩
theorem mem_missTo {g : Gr} {l : List Int} {x y : Int} : ∀ {i : Nat}, i ≤ l.length → ((x, y) ∈ missTo g l i ↔ ∃ a, a < i ∧ x = l.getD a 0 ∧ y ∈ l.take a ∧ has (g x) y = false)
  | 0, _ => by simp [missTo]
  | i + 1, h => by
    rw [missTo, List.mem_append, mem_missTo (by omega), mem_rowTo]
    constructor
    · rintro (⟨a, h1, h2⟩ | ⟨h1, h2, h3⟩)
      · exact ⟨a, by omega, h2⟩
      · exact ⟨i, by omega, h1, h2, h1 ▸ h3⟩
    · rintro ⟨a, h1, h2, h3, h4⟩
      by_cases e : a = i
      · subst e; exact .inr ⟨h2, h3, h2 ▸ h4⟩
      · exact .inl ⟨a, by omega, h2, h3, h4⟩
theorem take_index {l : List Int} {a : Nat} {y : Int} (h : y ∈ l.take a) : ∃ b, b < a ∧ ∃ hb : b < l.length, l[b] = y := by
  obtain ⟨b, hb, e⟩ := List.getElem_of_mem h
  rw [List.length_take] at hb
  rw [List.getElem_take] at e
  exact ⟨b, by omega, by omega, e⟩
theorem mem_missP {g : Gr} (v : Int) {x y : Int} (h : (x, y) ∈ missP g v) : has (g v) x = true ∧ has (g v) y = true ∧ x ≠ y ∧ has (g x) y = false := by
  obtain ⟨a, h1, h2, h3, h4⟩ := (mem_missTo (Nat.le_refl _)).1 h
  rw [List.getD_eq_getElem?_getD, List.getElem?_eq_getElem h1, Option.getD_some] at h2
  obtain ⟨b, hb, hb2, e⟩ := take_index h3
  refine ⟨(mem_mems _ _).1 (h2 ▸ List.getElem_mem h1), (mem_mems _ _).1 (e ▸ List.getElem_mem hb2), ?_, h4⟩
  intro exy
  have hs := List.pairwise_iff_getElem.1 (mems_sorted (g v)) b a hb2 h1 hb
  rw [e, ← h2, exy] at hs
  omega
theorem missP_all {g : Gr} (v : Int) {x y : Int} (hx : has (g v) x = true) (hy : has (g v) y = true) (hne : x ≠ y) (h1 : has (g x) y = false) (h2 : has (g y) x = false) : (x, y) ∈ missP g v ∨ (y, x) ∈ missP g v := by
  obtain ⟨a, ha, ea⟩ := List.getElem_of_mem ((mem_mems _ _).2 hx)
  obtain ⟨b, hb, eb⟩ := List.getElem_of_mem ((mem_mems _ _).2 hy)
  have hab : a ≠ b := fun e => by subst e; exact hne (ea.symm.trans eb)
  have hin : ∀ {i j : Nat} (hi : i < (mems (g v)).length) (hj : j < (mems (g v)).length), j < i → (mems (g v))[j] ∈ (mems (g v)).take i := fun {i j} hi hj hlt => by
    rw [List.mem_iff_getElem]
    exact ⟨j, by rw [List.length_take]; omega, List.getElem_take⟩
  rcases Nat.lt_or_gt_of_ne hab with h | h
  · right
    exact (mem_missTo (Nat.le_refl _)).2 ⟨b, hb, by rw [List.getD_eq_getElem?_getD, List.getElem?_eq_getElem hb]; exact eb.symm, by rw [← ea]; exact hin hb ha h, h2⟩
  · left
    exact (mem_missTo (Nat.le_refl _)).2 ⟨a, ha, by rw [List.getD_eq_getElem?_getD, List.getElem?_eq_getElem ha]; exact ea.symm, by rw [← eb]; exact hin ha hb h, h1⟩
/-! ### their number is the fill -/
theorem mems_minus (a b : VS) : mems (minus a b) = (mems a).filter fun x => !has b x := by
  unfold mems
  rw [List.filter_filter]
  apply List.filter_congr
  intro x _
  rw [has_minus, Bool.and_comm]
def cntN (g : Gr) (w : Int) (l : List Int) : Int := ((l.filter fun x => !has (g w) x).length : Int)
theorem cellP_length (g : Gr) (a : Int) : ∀ l : List Int, ((l.flatMap (cellP g a)).length : Int) = cntN g a l
  | [] => rfl
  | b :: l => by
    rw [List.flatMap_cons, List.length_append]
    push_cast
    rw [cellP_length g a l]
    unfold cntN cellP
    rw [List.filter_cons]
    cases h : has (g a) b <;> simp <;> omega
theorem cntN_snoc (g : Gr) (w a : Int) (l : List Int) : cntN g w (l ++ [a]) = cntN g w l + (if has (g w) a = true then 0 else 1) := by
  unfold cntN
  rw [List.filter_append, List.length_append]
  cases h : has (g w) a <;> simp [h]
theorem sum_map_add {f k : Int → Int} : ∀ l : List Int, (l.map fun x => f x + k x).sum = (l.map f).sum + (l.map k).sum
  | [] => rfl
  | a :: l => by simp only [List.map_cons, List.sum_cons, sum_map_add l]; omega
theorem cntN_sum {g : Gr} (hg : SymG g) (a : Int) : ∀ l : List Int, (l.map fun w => if has (g w) a = true then (0 : Int) else 1).sum = cntN g a l
  | [] => rfl
  | b :: l => by
    rw [List.map_cons, List.sum_cons, cntN_sum hg a l]
    have e : has (g b) a = has (g a) b := by
      rw [Bool.eq_iff_iff]; exact ⟨hg.sym _ _, hg.sym _ _⟩
    unfold cntN
    rw [List.filter_cons, e]
    cases h : has (g a) b <;> simp <;> omega
theorem fill_miss {g : Gr} (hg : SymG g) {l : List Int} : ∀ {i : Nat}, i ≤ l.length → (((l.take i).map fun w => cntN g w (l.take i) - 1)).sum = 2 * ((missTo g l i).length : Int)
  | 0, _ => by simp [missTo]
  | i + 1, h => by
    have ih := fill_miss hg (l := l) (i := i) (by omega)
    rw [List.take_succ_eq_append_getElem (by omega : i < l.length), missTo, List.getD_eq_getElem?_getD, List.getElem?_eq_getElem (by omega : i < l.length), Option.getD_some, List.length_append]
    have hrow : ((rowTo g l l[i] i).length : Int) = cntN g l[i] (l.take i) := cellP_length g l[i] (l.take i)
    push_cast
    rw [hrow]
    generalize l[i] = a at *
    generalize l.take i = m at *
    rw [List.map_append, List.sum_append]
    have e2 : (m.map fun w => cntN g w (m ++ [a]) - 1) = m.map fun w => (cntN g w m - 1) + (if has (g w) a = true then (0 : Int) else 1) := by
      apply List.map_congr_left; intro w _; rw [cntN_snoc]; omega
    rw [e2, sum_map_add, ih, cntN_sum hg a m]
    have e3 : (([a].map fun w => cntN g w (m ++ [a]) - 1)).sum = cntN g a m := by
      simp only [List.map_cons, List.map_nil, List.sum_cons, List.sum_nil]
      rw [cntN_snoc, hg.irr]; simp
    rw [e3]
    omega
theorem fillC_miss {g : Gr} (hg : SymG g) (v : Int) : fillC g v = 2 * ((missP g v).length : Int) := by
  have h := fill_miss hg (l := mems (g v)) (Nat.le_refl _)
  rw [List.take_length] at h
  unfold missP
  rw [← h]
  unfold fillC
  congr 1
  apply List.map_congr_left
  intro w _
  unfold len cntN
  rw [mems_minus]
/-! ### elimination on lists -/
theorem gOf_set' (L : List VS) {a : Int} (h0 : 0 ≤ a) (h : a < (L.length : Int)) (s : VS) (v : Int) : gOf (L.set a.toNat s) v = if v = a then s else gOf L v := by
  rw [gOf_set L _ (by omega) s v, show ((a.toNat : Nat) : Int) = a by omega]
def joinL (L : List VS) (a b : Int) : List VS := (L.set a.toNat (withV (gOf L a) b)).set b.toNat (withV (gOf (L.set a.toNat (withV (gOf L a) b)) b) a)
theorem joinL_length (L : List VS) (a b : Int) : (joinL L a b).length = L.length := by simp [joinL]
theorem has_joinL {L : List VS} {a b : Int} (ha : 1 ≤ a ∧ a < (L.length : Int)) (hb : 1 ≤ b ∧ b < (L.length : Int)) (hl : L.length ≤ 129) (u x : Int) : has (gOf (joinL L a b) u) x = true ↔ has (gOf L u) x = true ∨ (u = a ∧ x = b) ∨ (u = b ∧ x = a) := by
  unfold joinL
  rw [gOf_set' _ (by omega) (by rw [List.length_set]; omega)]
  rw [gOf_set' L (by omega) (by omega), gOf_set' L (by omega) (by omega)]
  by_cases h1 : u = b
  · subst h1
    rw [if_pos rfl, has_withV]
    by_cases h2 : u = a
    · subst h2
      rw [if_pos rfl, has_withV]
      generalize has (gOf L u) x = t
      cases t <;> simp <;> omega
    · rw [if_neg h2]
      generalize has (gOf L u) x = t
      cases t <;> simp <;> omega
  · rw [if_neg h1]
    by_cases h2 : u = a
    · subst h2
      rw [if_pos rfl, has_withV]
      generalize has (gOf L u) x = t
      cases t <;> simp <;> omega
    · rw [if_neg h2]; simp [h1, h2]
def joinAll (L : List VS) (ps : List (Int × Int)) : List VS := ps.foldl (fun M p => joinL M p.1 p.2) L
theorem joinAll_length : ∀ (ps : List (Int × Int)) (L : List VS), (joinAll L ps).length = L.length
  | [], _ => rfl
  | p :: ps, L => by
    unfold joinAll
    rw [List.foldl_cons]
    exact (joinAll_length ps _).trans (joinL_length L p.1 p.2)
def InP (n : Nat) (ps : List (Int × Int)) : Prop := ∀ p ∈ ps, (1 ≤ p.1 ∧ p.1 < (n : Int)) ∧ (1 ≤ p.2 ∧ p.2 < (n : Int))
theorem has_joinAll : ∀ (ps : List (Int × Int)) (L : List VS), InP L.length ps → L.length ≤ 129 → ∀ u x, has (gOf (joinAll L ps) u) x = true ↔ has (gOf L u) x = true ∨ (u, x) ∈ ps ∨ (x, u) ∈ ps
  | [], L, _, _, u, x => by simp [joinAll]
  | p :: ps, L, h, hl, u, x => by
    have hp := h p (by simp)
    have ih := has_joinAll ps (joinL L p.1 p.2) (fun q hq => by rw [joinL_length]; exact h q (by simp [hq])) (by rw [joinL_length]; exact hl) u x
    unfold joinAll at ih ⊢
    rw [List.foldl_cons, ih, has_joinL hp.1 hp.2 hl]
    obtain ⟨a, b⟩ := p
    simp only [List.mem_cons, Prod.mk.injEq]
    constructor
    · rintro ((h | h | h) | h | h)
      · exact .inl h
      · exact .inr (.inl (.inl h))
      · exact .inr (.inr (.inl ⟨h.2, h.1⟩))
      · exact .inr (.inl (.inr h))
      · exact .inr (.inr (.inr h))
    · rintro (h | (h | h) | h | h)
      · exact .inl (.inl h)
      · exact .inl (.inr (.inl h))
      · exact .inr (.inl h)
      · exact .inl (.inr (.inr ⟨h.2, h.1⟩))
      · exact .inr (.inr h)
/-- v taken out of the first k. -/
def outTo (v : Int) (L : List VS) : Nat → List VS
  | 0 => L
  | k + 1 => (outTo v L k).set k (withoutV (gOf (outTo v L k) (k : Int)) v)
theorem outTo_length (v : Int) (L : List VS) : ∀ k, (outTo v L k).length = L.length
  | 0 => rfl
  | k + 1 => by rw [outTo, List.length_set, outTo_length v L k]
theorem outTo_get (v : Int) (L : List VS) : ∀ k, k ≤ L.length → ∀ u, gOf (outTo v L k) u = if 0 ≤ u ∧ u < (k : Int) then withoutV (gOf L u) v else gOf L u
  | 0, _, u => by rw [outTo, if_neg (by omega)]
  | k + 1, h, u => by
    have ih := outTo_get v L k (by omega)
    rw [outTo, gOf_set _ _ (by rw [outTo_length]; omega), ih, ih]
    by_cases e : u = (k : Int)
    · subst e
      rw [if_pos rfl, if_neg (by omega), if_pos (by omega)]
    · rw [if_neg e]
      by_cases e2 : 0 ≤ u ∧ u < (k : Int)
      · rw [if_pos e2, if_pos (by omega)]
      · rw [if_neg e2, if_neg (by omega)]
def elR (L : List VS) (v : Int) : List VS := (outTo v (joinAll L (missP (gOf L) v)) L.length).set v.toNat 0
theorem elR_length (L : List VS) (v : Int) : (elR L v).length = L.length := by unfold elR; rw [List.length_set, outTo_length, joinAll_length]
theorem inP_miss {L : List VS} (h : ValidG L) (v : Int) : InP L.length (missP (gOf L) v) := fun p hp => by
  obtain ⟨h1, h2, _, _⟩ := mem_missP v hp
  have h3 := h.range h1
  have h4 := h.range h2
  omega
theorem gOf_elR {L : List VS} (h : ValidG L) {v : Int} (h1 : 0 ≤ v) (h2 : v < (L.length : Int)) : gOf (elR L v) = el (gOf L) v := by
  apply gr_ext
  intro w u
  have hg := h.sym
  unfold elR
  rw [gOf_set' _ h1 (by rw [outTo_length, joinAll_length]; exact h2), has_el hg]
  by_cases e : w = v
  · rw [if_pos e, has_zero]; simp [e]
  · rw [if_neg e, outTo_get _ _ _ (by rw [joinAll_length]; exact Nat.le_refl _)]
    have key : has (gOf (joinAll L (missP (gOf L) v)) w) u = true ↔ has (gOf L w) u = true ∨ (has (gOf L v) w = true ∧ has (gOf L v) u = true ∧ u ≠ w) := by
      rw [has_joinAll _ _ (inP_miss h v) h.le]
      constructor
      · rintro (h3 | h3 | h3)
        · exact .inl h3
        · obtain ⟨a1, a2, a3, _⟩ := mem_missP v h3
          exact .inr ⟨a1, a2, Ne.symm a3⟩
        · obtain ⟨a1, a2, a3, _⟩ := mem_missP v h3
          exact .inr ⟨a2, a1, a3⟩
      · rintro (h3 | ⟨a1, a2, a3⟩)
        · exact .inl h3
        · cases h4 : has (gOf L w) u with
          | true => exact .inl rfl
          | false =>
            have h5 : has (gOf L u) w = false := by
              cases h6 : has (gOf L u) w with
              | false => rfl
              | true => rw [hg.sym _ _ h6] at h4; cases h4
            rcases missP_all v a1 a2 (Ne.symm a3) h4 h5 with h7 | h7
            · exact .inr (.inl h7)
            · exact .inr (.inr h7)
    by_cases e2 : 0 ≤ w ∧ w < (L.length : Int)
    · rw [if_pos e2, has_withoutV]
      simp only [Bool.and_eq_true, Bool.not_eq_true', decide_eq_false_iff_not, key]
      constructor
      · rintro ⟨h3, h4⟩; exact ⟨e, h4, h3⟩
      · rintro ⟨_, h4, h3⟩; exact ⟨h3, h4⟩
    · rw [if_neg e2, key]
      have hz : gOf L w = 0 := gOf_out L w (by omega)
      constructor
      · rintro (h3 | ⟨a1, _⟩)
        · rw [hz, has_zero] at h3; cases h3
        · have := h.range a1; omega
      · rintro ⟨_, _, h3 | ⟨a1, _⟩⟩
        · exact .inl h3
        · have := h.range a1; omega
theorem elR_eq {L : List VS} (h : ValidG L) {v : Int} (h1 : 0 ≤ v) (h2 : v < (L.length : Int)) : elR L v = elL L v := by
  apply List.ext_getElem (by rw [elR_length, elL_length])
  intro i hi hi2
  have := congrFun ((gOf_elR h h1 h2).trans (gOf_elL h h1 h2).symm) (i : Int)
  rwa [gOf_nat _ i hi, gOf_nat _ i hi2] at this
end Go.Proofs.YthgkklahiclcpaaDoor
