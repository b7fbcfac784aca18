/- Plain mathematics: the decomposition of an order. No program in sight. -/
import Derived.Test.YtmlecpapoeodkaaDoorWDec
namespace Go.Proofs.YtmlecpapoeodkaaDoor

theorem nodup_of_len : ∀ {l a : List Int}, a.Nodup → (∀ x ∈ a, x ∈ l) → l.length ≤ a.length → l.Nodup
  | [], _, _, _, _ => List.nodup_nil
  | x :: l, a, hn, hs, hl => by
    have hx : x ∉ l := fun hx => by
      have := nodup_sub_length hn (b := l) (fun y hy => by
        rcases List.mem_cons.1 (hs y hy) with rfl | h
        · exact hx
        · exact h)
      simp only [List.length_cons] at hl; omega
    refine List.nodup_cons.2 ⟨hx, ?_⟩
    by_cases ha : x ∈ a
    · refine nodup_of_len (a := a.erase x) (hn.erase x) (fun y hy => ?_) ?_
      · have h1 := (List.Nodup.mem_erase_iff hn).1 hy
        rcases List.mem_cons.1 (hs y h1.2) with e | h
        · exact absurd e h1.1
        · exact h
      · rw [List.length_erase_of_mem ha]
        simp only [List.length_cons] at hl; omega
    · have := nodup_sub_length hn (b := l) (fun y hy => by
        rcases List.mem_cons.1 (hs y hy) with rfl | h
        · exact absurd hy ha
        · exact h)
      simp only [List.length_cons] at hl; omega
theorem IsOrd.nodup {l : List Int} {n : Nat} (h : IsOrd l n) : l.Nodup := by
  refine nodup_of_len (a := (nums n).map (· + 1)) ?_ (fun x hx => ?_) ?_
  · rw [List.Nodup, List.pairwise_map]
    exact (nums_nodup n).imp fun h => by omega
  · rw [List.mem_map] at hx
    obtain ⟨y, hy, rfl⟩ := hx
    rw [mem_nums] at hy
    exact (h.mem _).2 (by omega)
  · rw [List.length_map, nums_length, h.len]; exact Nat.le_refl _
/-- The graph behind so many steps. -/
def elS (g : Gr) (l : List Int) (i : Nat) : Gr := (l.take i).foldl el g
def bagAt (g : Gr) (l : List Int) (i : Nat) : VS := withV (elS g l i (l.getD i 0)) (l.getD i 0)
def bagsP (g : Gr) (l : List Int) : List VS := (List.range l.length).map (bagAt g l)
def posL (l : List Int) (v : Int) : Int := (l.idxOf v : Nat)
def upAt (g : Gr) (l : List Int) (i : Nat) : Int :=
  if i + 1 = l.length then -1 else if mems (elS g l i (l.getD i 0)) = [] then (i : Int) + 1 else posL l (pick (posL l) (mems (elS g l i (l.getD i 0)))).1
def upsP (g : Gr) (l : List Int) : List Int := (List.range l.length).map (upAt g l)
theorem bagsP_length (g : Gr) (l : List Int) : (bagsP g l).length = l.length := by simp [bagsP]
theorem upsP_length (g : Gr) (l : List Int) : (upsP g l).length = l.length := by simp [upsP]
theorem bagsP_get (g : Gr) (l : List Int) (i : Nat) (h : i < l.length) : gOf (bagsP g l) (i : Int) = bagAt g l i := by
  rw [gOf_nat _ i (by rw [bagsP_length]; exact h)]; simp [bagsP]
theorem upsP_get (g : Gr) (l : List Int) (i : Nat) (h : i < l.length) : upF (upsP g l) (i : Int) = upAt g l i := by
  rw [upF_nat _ i (by rw [upsP_length]; exact h)]; simp [upsP]
theorem elS_zero (g : Gr) (l : List Int) : elS g l 0 = g := rfl
theorem elS_succ (g : Gr) (l : List Int) (i : Nat) (h : i < l.length) : elS g l (i + 1) = el (elS g l i) (l.getD i 0) := by
  unfold elS
  rw [List.take_succ_eq_append_getElem h, List.foldl_append, List.getD_eq_getElem?_getD, List.getElem?_eq_getElem h, Option.getD_some]; rfl
theorem elS_sym {g : Gr} (hg : SymG g) (l : List Int) : ∀ i, i ≤ l.length → SymG (elS g l i)
  | 0, _ => hg
  | i + 1, h => by rw [elS_succ g l i (by omega)]; exact el_sym (elS_sym hg l i (by omega)) _
theorem getD_at (l : List Int) (i : Nat) (h : i < l.length) : l.getD i 0 = l[i] := by rw [List.getD_eq_getElem?_getD, List.getElem?_eq_getElem h, Option.getD_some]
theorem mem_take_succ {l : List Int} {i : Nat} (h : i < l.length) {x : Int} : x ∈ l.take (i + 1) ↔ x ∈ l.take i ∨ x = l.getD i 0 := by
  rw [List.take_succ_eq_append_getElem h, List.mem_append, List.mem_singleton, getD_at l i h]
theorem elS_dead {g : Gr} (hg : SymG g) (l : List Int) : ∀ i, i ≤ l.length → ∀ {u w : Int}, has (elS g l i u) w = true → u ∉ l.take i ∧ w ∉ l.take i
  | 0, _, u, w, _ => by simp
  | i + 1, h, u, w, e => by
    rw [elS_succ g l i (by omega), has_el (elS_sym hg l i (by omega))] at e
    obtain ⟨h1, h2, h3⟩ := e
    have key : u ∉ l.take i ∧ w ∉ l.take i := by
      rcases h3 with h3 | ⟨h3, h4, _⟩
      · exact elS_dead hg l i (by omega) h3
      · exact ⟨(elS_dead hg l i (by omega) h3).2, (elS_dead hg l i (by omega) h4).2⟩
    rw [mem_take_succ (by omega), mem_take_succ (by omega)]
    exact ⟨by rintro (h | h); exact key.1 h; exact h1 h, by rintro (h | h); exact key.2 h; exact h2 h⟩
theorem elS_keep {g : Gr} (hg : SymG g) (l : List Int) {i : Nat} : ∀ j, i ≤ j → j ≤ l.length → ∀ {u w : Int}, u ∉ l.take j → w ∉ l.take j → has (elS g l i u) w = true → has (elS g l j u) w = true
  | 0, h, _, u, w, _, _, e => by obtain rfl : i = 0 := by omega
                                 exact e
  | j + 1, h, hl, u, w, hu, hw, e => by
    by_cases he : i = j + 1
    · subst he; exact e
    · rw [mem_take_succ (by omega)] at hu hw
      have ih := elS_keep hg l j (by omega) (by omega) (fun h => hu (.inl h)) (fun h => hw (.inl h)) e
      rw [elS_succ g l j (by omega), has_el (elS_sym hg l j (by omega))]
      exact ⟨fun h => hu (.inr h), fun h => hw (.inr h), .inl ih⟩
theorem elS_from {g : Gr} (hg : SymG g) (l : List Int) : ∀ i, i ≤ l.length → ∀ {u w : Int}, has (elS g l i u) w = true → ∃ u', has (g u') w = true
  | 0, _, u, w, e => ⟨u, e⟩
  | i + 1, h, u, w, e => by
    rw [elS_succ g l i (by omega), has_el (elS_sym hg l i (by omega))] at e
    rcases e.2.2 with h3 | ⟨_, h4, _⟩
    · exact elS_from hg l i (by omega) h3
    · exact elS_from hg l i (by omega) h4
theorem not_mem_take {l : List Int} {v : Int} {i : Nat} (h : v ∉ l.take i) : i ≤ l.idxOf v ∨ v ∉ l := by
  by_cases hv : v ∈ l
  · left
    apply Classical.byContradiction
    intro hc
    have h1 := List.idxOf_lt_length_of_mem hv
    have h2 : l[l.idxOf v] = v := List.getElem_idxOf h1
    apply h
    rw [List.mem_iff_getElem]
    exact ⟨l.idxOf v, by rw [List.length_take]; omega, by rw [List.getElem_take, h2]⟩
  · exact .inr hv
theorem not_take_of {l : List Int} {v : Int} {i : Nat} (h : i ≤ l.idxOf v) : v ∉ l.take i := by
  intro hv
  obtain ⟨j, hj, e⟩ := List.mem_iff_getElem.1 hv
  rw [List.length_take] at hj
  rw [List.getElem_take] at e
  have h1 : ¬ j < l.idxOf v → False := fun h' => by omega
  have := List.not_of_lt_findIdx (p := (· == v)) (xs := l) (i := j) (by have : j < l.idxOf v := by omega
                                                                        simpa [List.idxOf] using this)
  rw [e] at this
  simp at this
section
variable {L : List VS} {l : List Int} (hV : ValidG L) (hl : IsOrd l (L.length - 1))
include hV hl
theorem ord_len : l.length + 1 = L.length := by have := hV.pos; have := hl.len; omega
theorem elS_in {i : Nat} (hi : i ≤ l.length) {u w : Int} (e : has (elS (gOf L) l i u) w = true) : w ∈ l ∧ u ∈ l := by
  have key : ∀ {u w : Int}, has (elS (gOf L) l i u) w = true → w ∈ l := fun {u w} e => by
    obtain ⟨u', h⟩ := elS_from hV.sym l i hi e
    have := hV.range h
    exact (hl.mem w).2 (by have := hV.pos; omega)
  exact ⟨key e, key ((elS_sym hV.sym l i hi).sym _ _ e)⟩
theorem later {i : Nat} (hi : i < l.length) {x : Int} (e : has (elS (gOf L) l i (l.getD i 0)) x = true) : i < l.idxOf x ∧ l.idxOf x < l.length := by
  have h1 := (elS_in hV hl (by omega) e).1
  have h2 := List.idxOf_lt_length_of_mem h1
  have h3 := (not_mem_take (elS_dead hV.sym l i (by omega) e).2).resolve_right (fun h => h h1)
  refine ⟨?_, h2⟩
  have hne := (elS_sym hV.sym l i (by omega)).ne e
  have h4 : l[l.idxOf x] = x := List.getElem_idxOf h2
  have : l.idxOf x ≠ i := fun e' => hne (by
    rw [getD_at l i hi]
    rw [← h4]
    exact (getElem_congr_idx e').symm)
  omega
theorem upAt_spec {i : Nat} (hi : i < l.length) : (i + 1 = l.length ∧ upAt (gOf L) l i = -1) ∨ (i + 1 < l.length ∧ (i : Int) < upAt (gOf L) l i ∧ upAt (gOf L) l i < (l.length : Int) ∧
    ((∃ x, has (elS (gOf L) l i (l.getD i 0)) x = true) → ∃ x, has (elS (gOf L) l i (l.getD i 0)) x = true ∧ upAt (gOf L) l i = (l.idxOf x : Int) ∧ ∀ y, has (elS (gOf L) l i (l.getD i 0)) y = true → l.idxOf x ≤ l.idxOf y)) := by
  unfold upAt
  by_cases h1 : i + 1 = l.length
  · rw [if_pos h1]; exact .inl ⟨h1, rfl⟩
  · rw [if_neg h1]
    right
    by_cases h2 : mems (elS (gOf L) l i (l.getD i 0)) = []
    · rw [if_pos h2]
      refine ⟨by omega, by omega, by omega, fun ⟨x, hx⟩ => ?_⟩
      rw [← mem_mems, h2] at hx
      cases hx
    · rw [if_neg h2]
      obtain ⟨h3, _, h5⟩ := pick_spec (cost := posL l) h2 (mems_pos _)
      rw [mem_mems] at h3
      generalize (pick (posL l) (mems (elS (gOf L) l i (l.getD i 0)))).1 = p at *
      have h6 := later hV hl hi h3
      refine ⟨by omega, by unfold posL; omega, by unfold posL; omega, fun _ => ⟨p, h3, rfl, fun y hy => ?_⟩⟩
      have := h5 y ((mem_mems _ _).2 hy)
      unfold posL at this
      omega
theorem bag_iff {i : Nat} (hi : i < l.length) (v : Int) : has (bagAt (gOf L) l i) v = true ↔ v = l.getD i 0 ∨ has (elS (gOf L) l i (l.getD i 0)) v = true := by
  unfold bagAt
  have h1 := (hl.mem (l.getD i 0)).1 (by rw [getD_at l i hi]; exact List.getElem_mem hi)
  have h2 := hV.le
  rw [has_withV]
  simp only [Bool.or_eq_true, Bool.and_eq_true, decide_eq_true_eq]
  constructor
  · rintro (h | h)
    · exact .inr h
    · exact .inl h.1.1
  · rintro (h | h)
    · right; omega
    · exact .inl h
theorem bag_pos {i : Nat} (hi : i < l.length) {v : Int} (h : has (bagAt (gOf L) l i) v = true) : v ∈ l ∧ i ≤ l.idxOf v := by
  rcases (bag_iff hV hl hi v).1 h with rfl | h
  · have : l.getD i 0 ∈ l := by rw [getD_at l i hi]; exact List.getElem_mem hi
    refine ⟨this, ?_⟩
    rw [getD_at l i hi, hl.nodup.idxOf_getElem]
    exact Nat.le_refl _
  · exact ⟨(elS_in hV hl (by omega) h).1, Nat.le_of_lt (later hV hl hi h).1⟩
theorem bag_own {v : Int} (hv : v ∈ l) : has (bagAt (gOf L) l (l.idxOf v)) v = true := by
  have h1 := List.idxOf_lt_length_of_mem hv
  rw [bag_iff hV hl h1, getD_at l _ h1]
  exact .inl (List.getElem_idxOf h1).symm
/-- The only top of a vertex is its own bag. -/
theorem top_own {v : Int} {i : Nat} (hi : i < l.length) (h : has (bagAt (gOf L) l i) v = true) (hne : i ≠ l.idxOf v) : has (aboveB (bagsP (gOf L) l) (upsP (gOf L) l) (i : Int)) v = true := by
  obtain ⟨hv, hp⟩ := bag_pos hV hl hi h
  have hpl := List.idxOf_lt_length_of_mem hv
  have hN : has (elS (gOf L) l i (l.getD i 0)) v = true := by
    rcases (bag_iff hV hl hi v).1 h with rfl | h
    · exact absurd (by rw [getD_at l i hi, hl.nodup.idxOf_getElem]) hne
    · exact h
  rcases upAt_spec hV hl hi with ⟨h1, _⟩ | ⟨h1, h2, h3, h4⟩
  · omega
  · obtain ⟨x, hx, hu, hm⟩ := h4 ⟨v, hN⟩
    have hjl := later hV hl hi hx
    unfold aboveB
    rw [upsP_get _ _ i hi, hu, if_pos (by omega), bagsP_get _ _ _ hjl.2]
    by_cases hxv : x = v
    · subst hxv; exact bag_own hV hl hv
    · have hle := hm v hN
      rw [bag_iff hV hl hjl.2]
      right
      have hxe : l.getD (l.idxOf x) 0 = x := by rw [getD_at l _ hjl.2]; exact List.getElem_idxOf hjl.2
      rw [hxe]
      refine elS_keep hV.sym l (i := i + 1) _ (by omega) (by omega) (not_take_of (Nat.le_refl _)) (not_take_of hle) ?_
      rw [elS_succ _ l i hi, has_el (elS_sym hV.sym l i (by omega))]
      have sy := elS_sym hV.sym l i (by omega)
      exact ⟨(sy.ne hx).symm, (sy.ne hN).symm, .inr ⟨hx, hN, fun e => hxv e.symm⟩⟩
theorem conn_of : Conn (bagsP (gOf L) l) (upsP (gOf L) l) := by
  have key : ∀ v i, Top (bagsP (gOf L) l) (upsP (gOf L) l) v i → i = (l.idxOf v : Int) := fun v i ⟨h1, h2⟩ => by
    obtain ⟨h3, h4⟩ := bag_range h1
    rw [bagsP_length] at h4
    obtain ⟨k, rfl⟩ : ∃ k : Nat, i = (k : Int) := ⟨i.toNat, by omega⟩
    have hk : k < l.length := by omega
    rw [bagsP_get _ _ k hk] at h1
    apply Classical.byContradiction
    intro hc
    rw [top_own hV hl hk h1 (by omega)] at h2
    cases h2
  intro v i j hi hj
  rw [key v i hi, key v j hj]
theorem formed_of : Formed (bagsP (gOf L) l).length (upsP (gOf L) l) := by
  have hlen := ord_len hV hl
  have hle := hV.le
  rw [bagsP_length]
  have nat : ∀ i : Int, 0 ≤ i → i < (l.length : Int) → ∃ k : Nat, i = (k : Int) ∧ k < l.length := fun i h0 h1 => ⟨i.toNat, by omega, by omega⟩
  refine ⟨upsP_length _ _, by omega, fun i h0 h1 => ?_, fun i j h0 h1 h2 h3 h4 h5 => ?_, fun hn => ?_, ⟨fun i => l.length - i.toNat, fun i h0 h1 h2 => ?_⟩⟩
  · obtain ⟨k, rfl, hk⟩ := nat i h0 h1
    rw [upsP_get _ _ k hk]
    rcases upAt_spec hV hl hk with ⟨_, e⟩ | ⟨_, e1, e2, _⟩ <;> omega
  · obtain ⟨k, rfl, hk⟩ := nat i h0 h1
    obtain ⟨m, rfl, hm⟩ := nat j h2 h3
    rw [upsP_get _ _ k hk] at h4
    rw [upsP_get _ _ m hm] at h5
    rcases upAt_spec hV hl hk with ⟨_, _⟩ | ⟨_, e1, e2, _⟩ <;> rcases upAt_spec hV hl hm with ⟨_, _⟩ | ⟨_, e3, e4, _⟩ <;> omega
  · refine ⟨((l.length - 1 : Nat) : Int), by omega, by omega, ?_⟩
    rw [upsP_get _ _ _ (by omega)]
    rcases upAt_spec hV hl (i := l.length - 1) (by omega) with ⟨_, e⟩ | ⟨_, e1, e2, _⟩ <;> omega
  · obtain ⟨k, rfl, hk⟩ := nat i h0 h1
    rw [upsP_get _ _ k hk] at h2 ⊢
    show l.length - (upAt (gOf L) l k).toNat < l.length - (k : Int).toNat
    rcases upAt_spec hV hl hk with ⟨_, e⟩ | ⟨_, e1, e2, _⟩ <;> omega
theorem cov_of : Cov L (bagsP (gOf L) l) := by
  have hlen := ord_len hV hl
  have key : ∀ v w, v ∈ l → w ∈ l → has (gOf L v) w = true → l.idxOf v ≤ l.idxOf w → Tog (bagsP (gOf L) l) v w := fun v w hv hw e hle => by
    have h1 := List.idxOf_lt_length_of_mem hv
    refine ⟨(l.idxOf v : Int), ?_, ?_⟩
    · rw [bagsP_get _ _ _ h1]; exact bag_own hV hl hv
    · rw [bagsP_get _ _ _ h1, bag_iff hV hl h1]
      right
      have hxe : l.getD (l.idxOf v) 0 = v := by rw [getD_at l _ h1]; exact List.getElem_idxOf h1
      rw [hxe]
      exact elS_keep hV.sym l (i := 0) _ (Nat.zero_le _) (by omega) (not_take_of (Nat.le_refl _)) (not_take_of hle) e
  intro v w h1 h2 h3
  have hv : v ∈ l := (hl.mem v).2 (by omega)
  rcases h3 with rfl | h3
  · have h4 := List.idxOf_lt_length_of_mem hv
    exact ⟨(l.idxOf v : Int), by rw [bagsP_get _ _ _ h4]; exact bag_own hV hl hv, by rw [bagsP_get _ _ _ h4]; exact bag_own hV hl hv⟩
  · have hw : w ∈ l := (hl.mem w).2 (by have := hV.range h3; omega)
    by_cases hle : l.idxOf v ≤ l.idxOf w
    · exact key v w hv hw h3 hle
    · exact (key w v hw hv (hV.sym.sym _ _ h3) (by omega)).comm
/-- The theorem of the stage. -/
theorem deco_of : Deco L (bagsP (gOf L) l) (upsP (gOf L) l) := by
  refine ⟨hV, formed_of hV hl, fun b hb v hv => ?_, cov_of hV hl, conn_of hV hl⟩
  unfold bagsP at hb
  rw [List.mem_map] at hb
  obtain ⟨i, hi, rfl⟩ := hb
  rw [List.mem_range] at hi
  have := (hl.mem v).1 (bag_pos hV hl hi hv).1
  have := hV.pos
  omega
theorem len_bag {i : Nat} (hi : i < l.length) : len (bagAt (gOf L) l i) = len (elS (gOf L) l i (l.getD i 0)) + 1 := by
  have h1 := (hl.mem (l.getD i 0)).1 (by rw [getD_at l i hi]; exact List.getElem_mem hi)
  have h2 := hV.le
  unfold bagAt
  exact len_with ((elS_sym hV.sym l i (by omega)).irr _) h1.1 (by omega)
omit hV hl in
theorem widthF_take : ∀ k, k ≤ l.length → ((∀ i, k ≤ i → i < l.length → len (elS (gOf L) l i (l.getD i 0)) ≤ widthF (elS (gOf L) l k) (l.drop k)) ∧ (k < l.length → ∃ i, k ≤ i ∧ i < l.length ∧ len (elS (gOf L) l i (l.getD i 0)) = widthF (elS (gOf L) l k) (l.drop k))) := by
  intro k hk
  generalize hm : l.length - k = m
  induction m generalizing k with
  | zero => exact ⟨fun i h1 h2 => by omega, fun h => by omega⟩
  | succ m ih =>
    have hkl : k < l.length := by omega
    obtain ⟨h1, h2⟩ := ih (k + 1) (by omega) (by omega)
    rw [elS_succ _ l k hkl, getD_at l k hkl] at h1 h2
    rw [List.drop_eq_getElem_cons hkl, widthF]
    refine ⟨fun i a b => ?_, fun _ => ?_⟩
    · by_cases e : i = k
      · subst e; rw [getD_at l i hkl]; omega
      · have := h1 i (by omega) b; omega
    · by_cases hc : widthF (el (elS (gOf L) l k) l[k]) (l.drop (k + 1)) ≤ len (elS (gOf L) l k l[k])
      · exact ⟨k, Nat.le_refl _, hkl, by rw [getD_at l k hkl]; omega⟩
      · have hk2 : k + 1 < l.length := by
          apply Classical.byContradiction
          intro h
          rw [List.drop_eq_nil_of_le (by omega)] at hc
          have := len_pos (s := elS (gOf L) l k l[k])
          simp only [widthF] at hc
          omega
        obtain ⟨i, a, b, c⟩ := h2 hk2
        exact ⟨i, by omega, b, by omega⟩
theorem width_of (hn : 1 ≤ l.length) : widthT (bagsP (gOf L) l) = widthF (gOf L) l := by
  obtain ⟨h1, h2⟩ := widthF_take (L := L) (l := l) 0 (by omega)
  rw [elS_zero, List.drop_zero] at h1 h2
  have hne : bagsP (gOf L) l ≠ [] := by intro e; have h0 := congrArg List.length e; rw [bagsP_length] at h0; rw [h0] at hn; exact absurd hn (by simp)
  obtain ⟨b, hb, e⟩ := widthT_at hne
  unfold bagsP at hb
  rw [List.mem_map] at hb
  obtain ⟨i, hi, rfl⟩ := hb
  rw [List.mem_range] at hi
  have h3 := h1 i (by omega) hi
  rw [len_bag hV hl hi] at e
  obtain ⟨j, _, hj, h4⟩ := h2 (by omega)
  have h5 := le_widthT (B := bagsP (gOf L) l) (b := bagAt (gOf L) l j) (by unfold bagsP; rw [List.mem_map]; exact ⟨j, by rw [List.mem_range]; exact hj, rfl⟩)
  rw [len_bag hV hl hj] at h5
  omega
end
end Go.Proofs.YtmlecpapoeodkaaDoor
