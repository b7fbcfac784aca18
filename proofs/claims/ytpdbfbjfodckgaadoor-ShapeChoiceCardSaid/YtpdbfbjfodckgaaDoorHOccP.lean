/- Plain mathematics of nets: the variables that occur, one assignment after the other, and how many inputs are true. No program in sight. -/
import Derived.Test.YtpdbfbjfodckgaaDoorHInv
import Derived.Test.YtpdbfbjfodckgaaDoorHDec
import Derived.Test.YtpdbfbjfodckgaaDoorHDetP
namespace Go.Proofs.YtpdbfbjfodckgaaDoor

/-! ### the variables that occur -/
def unionV (M : List VS) : VS := M.foldl (fun s x => s ||| x) 0
theorem unionV_snoc (M : List VS) (x : VS) : unionV (M ++ [x]) = unionV M ||| x := by unfold unionV; rw [List.foldl_append]; rfl
theorem unionV_take (M : List VS) (k : Nat) (h : k < M.length) : unionV (M.take (k + 1)) = unionV (M.take k) ||| M[k] := by
  rw [List.take_succ_eq_append_getElem h, unionV_snoc]
theorem has_unionV (M : List VS) (v : Int) : has (unionV M) v = true ↔ ∃ x ∈ M, has x v = true := by
  induction M using snoc_ind with
  | h0 => simp [unionV, show has (0#128) v = false from has_zero v]
  | h1 M x ih =>
    rw [unionV_snoc, has_or, Bool.or_eq_true, ih]
    constructor
    · rintro (⟨y, hy, h⟩ | h)
      · exact ⟨y, List.mem_append_left _ hy, h⟩
      · exact ⟨x, List.mem_append_right _ (List.mem_singleton.2 rfl), h⟩
    · rintro ⟨y, hy, h⟩
      rcases List.mem_append.1 hy with h1 | h1
      · exact .inl ⟨y, h1, h⟩
      · rw [List.mem_singleton] at h1; subst h1; exact .inr h
theorem litVar_no' {n k : Int} {x : NodeT} (h : formed x n k = true) (h2 : x.kind ≠ 2) : litVar x.lit = 0 := by
  have h0 : x.lit = 0 := by
    unfold formed at h
    split at h
    · cases h
    · split at h
      · simp only [Bool.and_eq_true, decide_eq_true_eq] at h; exact h.1
      · split at h
        · simpa using h
        · cases h
  rw [h0]; rfl
theorem vars_lit {n : Int} {L : List NodeT} (hv : validNet ⟨n, L⟩ = true) : ∀ (k : Nat), k < L.length → ∀ u, has (sOf (vsOf L) (k : Int)) u = true → ∃ x ∈ L, x.kind = 2 ∧ litVar x.lit = u := by
  obtain ⟨⟨r1, r2, r3, r4⟩, hf⟩ := (validNet_iff _).1 hv
  simp only at r1 r2 r3 r4 hf
  intro k
  induction k using Nat.strongRecOn with
  | _ k ih =>
    intro hk u hu
    rw [vsOf_get hf hk, has_orIns] at hu
    rcases hu with h | ⟨j, hj, h⟩
    · rw [has_ofL] at h
      simp only [Bool.and_eq_true, decide_eq_true_eq, List.mem_cons, List.not_mem_nil, or_false] at h
      obtain ⟨⟨rfl, h1⟩, h2⟩ := h
      refine ⟨L[k], List.getElem_mem hk, ?_, rfl⟩
      apply Classical.byContradiction; intro h2
      have := litVar_no' (hf k hk hk) h2
      omega
    · have hj2 := ins_lt hf hk j hj
      obtain ⟨m, rfl⟩ : ∃ m : Nat, j = (m : Int) := ⟨j.toNat, by omega⟩
      exact ih m (by omega) (by omega) u h
theorem union_lits {n : Int} {L : List NodeT} (hv : validNet ⟨n, L⟩ = true) : unionV (vsOf L) = litsVS L := by
  obtain ⟨⟨r1, r2, r3, r4⟩, hf⟩ := (validNet_iff _).1 hv
  simp only at r1 r2 r3 r4 hf
  refine ext_iff fun u => ?_
  rw [has_unionV, has_litsVS]
  constructor
  · rintro ⟨x, hx, h⟩
    refine ⟨has_range h, ?_⟩
    obtain ⟨k, hk, rfl⟩ := List.getElem_of_mem hx
    rw [vsOf_length] at hk
    exact vars_lit hv k hk u (by rw [sOf_nat _ k (by rw [vsOf_length]; exact hk)]; exact h)
  · rintro ⟨⟨h1, h2⟩, x, hx, h3, h4⟩
    obtain ⟨k, hk, rfl⟩ := List.getElem_of_mem hx
    refine ⟨(vsOf L)[k]'(by rw [vsOf_length]; exact hk), List.getElem_mem _, ?_⟩
    rw [← sOf_nat _ k (by rw [vsOf_length]; exact hk), vsOf_get hf hk, has_orIns]
    left
    rw [has_ofL, h4]
    simp [h1, h2]
/-- The members up to k. -/
def occ (s : VS) (k : Nat) : List Int := ((List.range k).map fun i : Nat => (i : Int) + 1).filter (has s)
theorem occ_zero (s : VS) : occ s 0 = [] := rfl
theorem occ_yes {s : VS} {k : Nat} (h : has s ((k : Int) + 1) = true) : occ s (k + 1) = occ s k ++ [(k : Int) + 1] := by
  unfold occ
  rw [List.range_succ, List.map_append, List.filter_append]
  simp [h]
theorem occ_no {s : VS} {k : Nat} (h : has s ((k : Int) + 1) = false) : occ s (k + 1) = occ s k := by
  unfold occ
  rw [List.range_succ, List.map_append, List.filter_append]
  simp [h]
theorem occ_length (s : VS) (k : Nat) : (occ s k).length ≤ k := by
  unfold occ
  refine Nat.le_trans (List.length_filter_le _ _) ?_
  simp
theorem occ_same {s : VS} {n : Nat} (h : ∀ u, has s u = true → u ≤ (n : Int)) : ∀ m, occ s (n + m) = occ s n
  | 0 => rfl
  | m + 1 => by
    rw [← Nat.add_assoc, occ_no, occ_same h m]
    cases e : has s (((n + m : Nat) : Int) + 1) with
    | false => rfl
    | true => have := h _ e; omega
theorem occ_mems {s : VS} {n : Nat} (h : ∀ u, has s u = true → u ≤ (n : Int)) (hn : n ≤ 128) : occ s n = mems s := by
  have := occ_same h (128 - n)
  rw [show n + (128 - n) = 128 by omega] at this
  exact this.symm
theorem lits_le {n : Int} {L : List NodeT} (hv : validNet ⟨n, L⟩ = true) : ∀ u, has (litsVS L) u = true → u ≤ n := by
  intro u hu
  rw [has_litsVS] at hu
  obtain ⟨_, x, hx, h2, rfl⟩ := hu
  exact (kind2_range hv hx h2).2.1
/-! ### assignments by number -/
def asg (l : List Int) (j : Nat) : Nat → VS
  | 0 => 0
  | k + 1 => if j.testBit k then withV (asg l j k) (l.getD k 0) else asg l j k
theorem asg_yes {l : List Int} {j k : Nat} (hk : k < l.length) (h : j.testBit k = true) : asg l j (k + 1) = withV (asg l j k) l[k] := by
  rw [asg, if_pos h, List.getD_eq_getElem?_getD, List.getElem?_eq_getElem hk, Option.getD_some]
theorem asg_no {l : List Int} {j k : Nat} (h : j.testBit k = false) : asg l j (k + 1) = asg l j k := by
  rw [asg, if_neg (by rw [h]; simp)]
theorem has_asg {l : List Int} {j : Nat} (hr : ∀ v ∈ l, 1 ≤ v ∧ v ≤ 128) : ∀ k, k ≤ l.length → ∀ v, has (asg l j k) v = true ↔ ∃ i, ∃ h : i < l.length, i < k ∧ l[i] = v ∧ j.testBit i = true
  | 0, _, v => by
    constructor
    · intro h; rw [show asg l j 0 = 0 from rfl, has_zero] at h; cases h
    · rintro ⟨i, _, h, _⟩; omega
  | k + 1, hk, v => by
    have ih := has_asg (j := j) hr k (by omega) v
    cases hb : j.testBit k with
    | false =>
      rw [asg_no hb, ih]
      constructor
      · rintro ⟨i, h, h1, h2⟩; exact ⟨i, h, by omega, h2⟩
      · rintro ⟨i, h, h1, h2, h3⟩
        refine ⟨i, h, ?_, h2, h3⟩
        apply Classical.byContradiction; intro e
        obtain rfl : i = k := by omega
        rw [hb] at h3; cases h3
    | true =>
      have hrk := hr _ (List.getElem_mem (show k < l.length by omega))
      rw [asg_yes (show k < l.length by omega) hb, has_withV, Bool.or_eq_true, ih]
      simp only [Bool.and_eq_true, decide_eq_true_eq]
      constructor
      · rintro (⟨i, h, h1, h2⟩ | ⟨⟨rfl, _⟩, _⟩)
        · exact ⟨i, h, by omega, h2⟩
        · exact ⟨k, by omega, by omega, rfl, hb⟩
      · rintro ⟨i, h, h1, h2, h3⟩
        by_cases e : i = k
        · subst e; subst h2; exact .inr ⟨⟨rfl, hrk.1⟩, hrk.2⟩
        · exact .inl ⟨i, h, by omega, h2, h3⟩
theorem det_of_asg {n : Int} {L : List NodeT} (hv : validNet ⟨n, L⟩ = true) (h : ∀ j, j < 2 ^ (mems (litsVS L)).length → orOk (has (asg (mems (litsVS L)) j (mems (litsVS L)).length)) L = true) : detB L = true := by
  rw [detB_iff hv]
  intro A
  have hl := mems_sorted (litsVS L)
  have hm : ∀ x ∈ L, x.kind = 2 → litVar x.lit ∈ mems (litsVS L) := fun x hx hk => mems_of_lits hv hx hk
  have hr : ∀ v ∈ mems (litsVS L), 1 ≤ v ∧ v ≤ 128 := fun v hv2 => has_range ((mem_mems _ _).1 hv2)
  generalize mems (litsVS L) = l at *
  rw [← h (numF (fun i => A (l.getD i 0)) l.length) (numF_lt _ _)]
  refine orOk_congr fun x hx hk2 => ?_
  obtain ⟨i, hi, e⟩ := List.getElem_of_mem (hm x hx hk2)
  rw [← e, Bool.eq_iff_iff, has_asg hr _ (Nat.le_refl _)]
  have hb := numF_bit (fun i => A (l.getD i 0)) l.length
  have e2 : ∀ i (h : i < l.length), l.getD i 0 = l[i] := fun i h => by rw [List.getD_eq_getElem?_getD, List.getElem?_eq_getElem h, Option.getD_some]
  constructor
  · intro ha
    refine ⟨i, hi, hi, rfl, ?_⟩
    rw [hb i hi, e2 i hi]; exact ha
  · rintro ⟨i', hi', _, h2, h3⟩
    rw [hb i' hi', e2 i' hi', h2] at h3
    exact h3
theorem det_not {n : Int} {L : List NodeT} (hv : validNet ⟨n, L⟩ = true) {A : Int → Bool} (h : orOk A L = false) : detB L = false := by
  cases e : detB L with
  | false => rfl
  | true => rw [(detB_iff hv).1 e A] at h; cases h
/-! ### how many inputs are true -/
def cntT (M : List Bool) (l : List Int) : Nat := l.countP (bOf M)
theorem cntT_snoc (M : List Bool) (l : List Int) (k : Nat) (h : k < l.length) : cntT M (l.take (k + 1)) = cntT M (l.take k) + if bOf M l[k] = true then 1 else 0 := by
  unfold cntT
  rw [List.take_succ_eq_append_getElem h, List.countP_append, List.countP_cons, List.countP_nil, Nat.zero_add]
theorem cntT_le (M : List Bool) (l : List Int) : cntT M l ≤ l.length := List.countP_le_length
theorem bdisj_cnt (M : List Bool) : ∀ (l : List Int) (s : Bool), bdisj M s l = decide ((if s = true then 1 else 0) + cntT M l ≤ 1)
  | [], s => by cases s <;> rfl
  | k :: l, s => by
    rw [bdisj, bdisj_cnt M l]
    unfold cntT
    rw [List.countP_cons]
    generalize List.countP (bOf M) l = q
    cases s <;> cases bOf M k
    · simp
    · rw [Bool.eq_iff_iff]; simp; omega
    · simp
    · simp
theorem orOk_of {A : Int → Bool} {L : List NodeT} (h : ∀ i (hi : i < L.length), (L[i].kind != 4 || decide (cntT (bsOf A L) L[i].ins ≤ 1)) = true) : orOk A L = true := by
  unfold orOk
  refine all_to fun k hk => ?_
  rw [bdisj_cnt]
  have := h k hk
  simpa using this
theorem orOk_not {A : Int → Bool} {L : List NodeT} {i : Nat} (hi : i < L.length) (h : L[i].kind = 4) (h2 : 1 < cntT (bsOf A L) L[i].ins) : orOk A L = false := by
  unfold orOk
  refine all_not (k := i) hi ?_
  rw [bdisj_cnt, h]
  simp; omega
end Go.Proofs.YtpdbfbjfodckgaaDoor
