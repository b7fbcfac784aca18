/- Plain mathematics of nets: a disjunction of many literals. No program in sight. -/
import Derived.Test.YtpdbfbjfodckgaaDoorHOccP
namespace Go.Proofs.YtpdbfbjfodckgaaDoor

/-- The literal of variable i + 1, with the sign of the set. -/
def sgn (S : VS) (i : Nat) : Int := if has S ((i : Int) + 1) = true then -((i : Int) + 1) else (i : Int) + 1
def litsN (S : VS) (k : Nat) : List NodeT := (List.range k).map fun i => ⟨2, sgn S i, []⟩
def numsTo (k : Nat) : List Int := (List.range k).map fun i : Nat => (i : Int)
def chL (S : VS) (k : Nat) : List NodeT := litsN S k ++ [⟨4, 0, numsTo k⟩]
theorem litsN_succ (S : VS) (k : Nat) : litsN S (k + 1) = litsN S k ++ [⟨2, sgn S k, []⟩] := by
  unfold litsN; rw [List.range_succ, List.map_append]; rfl
theorem numsTo_succ (k : Nat) : numsTo (k + 1) = numsTo k ++ [(k : Int)] := by
  unfold numsTo; rw [List.range_succ, List.map_append]; rfl
theorem litsN_length (S : VS) (k : Nat) : (litsN S k).length = k := by simp [litsN]
theorem numsTo_length (k : Nat) : (numsTo k).length = k := by simp [numsTo]
theorem mem_numsTo (k : Nat) (x : Int) : x ∈ numsTo k ↔ 0 ≤ x ∧ x < (k : Int) := by
  unfold numsTo
  rw [List.mem_map]
  constructor
  · rintro ⟨i, hi, rfl⟩; have := List.mem_range.1 hi; omega
  · rintro ⟨h0, h1⟩; exact ⟨x.toNat, List.mem_range.2 (by omega), by omega⟩
theorem chL_length (S : VS) (k : Nat) : (chL S k).length = k + 1 := by simp [chL, litsN_length]
theorem chL_low (S : VS) (k : Nat) (i : Nat) (h : i < k) : (chL S k)[i]'(by rw [chL_length]; omega) = ⟨2, sgn S i, []⟩ := by
  unfold chL
  rw [List.getElem_append_left (by rw [litsN_length]; exact h)]
  simp [litsN]
theorem chL_top (S : VS) (k : Nat) : (chL S k)[k]'(by rw [chL_length]; omega) = ⟨4, 0, numsTo k⟩ := by
  unfold chL
  rw [List.getElem_append_right (by rw [litsN_length]; exact Nat.le_refl _)]
  simp [litsN_length]
theorem litVar_sgn (S : VS) (i : Nat) (h : i < 128) : litVar (sgn S i) = (i : Int) + 1 := by
  unfold sgn litVar; split <;> (split <;> (try split) <;> omega)
theorem chL_formed (S : VS) {k : Nat} (hk : k ≤ 128) : formedTo 128 (chL S k) (chL S k).length := by
  intro i hi _
  rw [chL_length] at hi
  by_cases h : i < k
  · rw [chL_low S k i h]
    unfold formed
    have : litValid (sgn S i) 128 = true := by
      unfold litValid
      rw [litVar_sgn S i (by omega)]
      simp only [Bool.and_eq_true, decide_eq_true_eq]
      omega
    simp [badIn, this]
  · obtain rfl : i = k := by omega
    rw [chL_top]
    unfold formed
    have : badIn (numsTo i) (i : Int) = false := by
      unfold badIn
      rw [List.any_eq_false]
      intro x hx
      have := (mem_numsTo i x).1 hx
      simp only [Bool.or_eq_true, decide_eq_true_eq]
      omega
    simp [this]
theorem chL_valid (S : VS) {k : Nat} (hk : k ≤ 128) : validNet ⟨128, chL S k⟩ = true := by
  rw [validNet_iff]
  refine ⟨⟨by show (0 : Int) ≤ 128; decide, by show (128 : Int) ≤ 128; decide, ?_, ?_⟩, chL_formed S hk⟩
  · show 1 ≤ (chL S k).length; rw [chL_length]; omega
  · show (chL S k).length ≤ 65536; rw [chL_length]; omega
theorem chL_v (S : VS) {k : Nat} (hk : k ≤ 128) {i : Nat} (h : i < k) (u : Int) : has (sOf (vsOf (chL S k)) (i : Int)) u = decide (u = (i : Int) + 1) := by
  rw [vsOf_get (chL_formed S hk) (by rw [chL_length]; omega), chL_low S k i h]
  show has (ofL [litVar (sgn S i)]) u = _
  rw [litVar_sgn S i (by omega), has_ofL]
  by_cases e : u = (i : Int) + 1
  · subst e; simp; omega
  · simp [e]
theorem chL_vt (S : VS) {k : Nat} (hk : k ≤ 128) (u : Int) : has (sOf (vsOf (chL S k)) (k : Int)) u = (decide (1 ≤ u) && decide (u ≤ k)) := by
  rw [Bool.eq_iff_iff, vsOf_get (chL_formed S hk) (by rw [chL_length]; omega), chL_top, has_orIns]
  simp only [Bool.and_eq_true, decide_eq_true_eq]
  constructor
  · rintro (h | ⟨x, hx, h⟩)
    · rw [show ofL [litVar (0 : Int)] = 0 from by decide +kernel, has_zero] at h; cases h
    · have h2 := (mem_numsTo k x).1 hx
      obtain ⟨i, rfl⟩ : ∃ i : Nat, x = (i : Int) := ⟨x.toNat, by omega⟩
      rw [chL_v S hk (by omega)] at h
      simp only [decide_eq_true_eq] at h
      omega
  · rintro ⟨h1, h2⟩
    refine .inr ⟨u - 1, (mem_numsTo k _).2 (by omega), ?_⟩
    obtain ⟨i, hi⟩ : ∃ i : Nat, u - 1 = (i : Int) := ⟨(u - 1).toNat, by omega⟩
    rw [hi, chL_v S hk (by omega)]
    simp; omega
theorem chL_mem {S : VS} {k : Nat} {x : NodeT} (hx : x ∈ chL S k) : (∃ i, i < k ∧ x = ⟨2, sgn S i, []⟩) ∨ x = ⟨4, 0, numsTo k⟩ := by
  unfold chL litsN at hx
  rcases List.mem_append.1 hx with h | h
  · obtain ⟨i, hi, rfl⟩ := List.mem_map.1 h
    exact .inl ⟨i, List.mem_range.1 hi, rfl⟩
  · exact .inr (List.mem_singleton.1 h)
theorem chL_decom (S : VS) (k : Nat) : decomB (chL S k) = true := by
  unfold decomB
  rw [List.all_eq_true]
  intro x hx
  rcases chL_mem hx with ⟨i, _, rfl⟩ | rfl <;> rfl
theorem chL_lits (S : VS) {k : Nat} (hk : k ≤ 128) (u : Int) : has (litsVS (chL S k)) u = (decide (1 ≤ u) && decide (u ≤ k)) := by
  rw [Bool.eq_iff_iff, has_litsVS]
  simp only [Bool.and_eq_true, decide_eq_true_eq]
  constructor
  · rintro ⟨_, x, hx, h2, h3⟩
    rcases chL_mem hx with ⟨i, hi, rfl⟩ | rfl
    · rw [litVar_sgn S i (by omega)] at h3; omega
    · cases h2
  · rintro ⟨h1, h2⟩
    refine ⟨by omega, ⟨2, sgn S (u - 1).toNat, []⟩, ?_, rfl, ?_⟩
    · unfold chL litsN
      exact List.mem_append_left _ (List.mem_map.2 ⟨(u - 1).toNat, List.mem_range.2 (by omega), rfl⟩)
    · show litVar (sgn S (u - 1).toNat) = u
      rw [litVar_sgn S _ (by omega)]; omega
theorem cnt_below (k : Nat) : ∀ n, (List.range n).countP (fun i => decide (i < k)) = min n k
  | 0 => by simp
  | n + 1 => by
    rw [List.range_succ, List.countP_append, cnt_below k n, List.countP_cons, List.countP_nil]
    by_cases h : n < k
    · simp [h]; omega
    · simp [h]; omega
theorem cnt_mems (s : VS) (p : Int → Bool) : (mems s).countP p = (List.range 128).countP fun i : Nat => has s ((i : Int) + 1) && p ((i : Int) + 1) := by
  unfold mems
  rw [List.countP_filter, List.countP_map]
  refine List.countP_congr fun i _ => ?_
  simp only [Function.comp, Bool.and_comm]
theorem chL_len (S : VS) {k : Nat} (hk : k ≤ 128) : (mems (litsVS (chL S k))).length = k := by
  have h := cnt_mems (litsVS (chL S k)) fun _ => true
  rw [List.countP_true] at h
  rw [h]
  have e : ∀ i : Nat, (has (litsVS (chL S k)) ((i : Int) + 1) && true) = decide (i < k) := fun i => by
    rw [Bool.and_true, chL_lits S hk, decide_eq_true (show (1 : Int) ≤ (i : Int) + 1 by omega), Bool.true_and, Bool.eq_iff_iff]
    simp only [decide_eq_true_eq]; omega
  simp only [e]
  rw [cnt_below]; omega
theorem chL_ne (S : VS) {k : Nat} (hk : k ≤ 128) (h2 : 2 ≤ k) {x : Int} (hx : x ∈ numsTo k) : sOf (vsOf (chL S k)) x ≠ sOf (vsOf (chL S k)) (k : Int) := by
  have h := (mem_numsTo k x).1 hx
  obtain ⟨i, rfl⟩ : ∃ i : Nat, x = (i : Int) := ⟨x.toNat, by omega⟩
  intro e
  by_cases h0 : i = 0
  · have h1 := chL_v S hk (i := i) (by omega) 2
    rw [e, chL_vt S hk] at h1
    rw [decide_eq_true (show (1 : Int) ≤ 2 by decide), decide_eq_true (show (2 : Int) ≤ k by omega), decide_eq_false (show ¬ (2 : Int) = (i : Int) + 1 by omega)] at h1
    cases h1
  · have h1 := chL_v S hk (i := i) (by omega) 1
    rw [e, chL_vt S hk] at h1
    rw [decide_eq_true (show (1 : Int) ≤ 1 by decide), decide_eq_true (show (1 : Int) ≤ k by omega), decide_eq_false (show ¬ (1 : Int) = (i : Int) + 1 by omega)] at h1
    cases h1
theorem chL_eq (S : VS) {k : Nat} (hk : k ≤ 128) (h2 : k < 2) {x : Int} (hx : x ∈ numsTo k) : sOf (vsOf (chL S k)) x = sOf (vsOf (chL S k)) (k : Int) := by
  have h := (mem_numsTo k x).1 hx
  obtain ⟨i, rfl⟩ : ∃ i : Nat, x = (i : Int) := ⟨x.toNat, by omega⟩
  refine ext_has fun u h1 h2 => ?_
  rw [chL_v S hk (by omega), chL_vt S hk, Bool.eq_iff_iff]
  simp only [Bool.and_eq_true, decide_eq_true_eq]
  omega
theorem chL_smooth (S : VS) {k : Nat} (hk : k ≤ 128) : smoothB (chL S k) = decide (k < 2) := by
  have hD : ∀ i (h : i < k + 1), (chL S k).getD i ⟨0, 0, []⟩ = (chL S k)[i]'(by rw [chL_length]; omega) := fun i h => by
    rw [List.getD_eq_getElem?_getD, List.getElem?_eq_getElem (by rw [chL_length]; omega), Option.getD_some]
  by_cases h2 : k < 2
  · rw [decide_eq_true h2]
    unfold smoothB
    rw [List.all_eq_true]
    intro i hi
    have hi := List.mem_range.1 hi
    rw [chL_length] at hi
    rw [hD i hi]
    by_cases h : i < k
    · rw [chL_low S k i h]; rfl
    · obtain rfl : i = k := by omega
      rw [chL_top]
      simp only [bne_self_eq_false, Bool.false_or, List.all_eq_true, beq_iff_eq]
      exact fun x hx => chL_eq S hk h2 hx
  · rw [decide_eq_false h2]
    unfold smoothB
    rw [List.all_eq_false]
    refine ⟨k, List.mem_range.2 (by rw [chL_length]; omega), ?_⟩
    rw [hD k (by omega), chL_top]
    simp only [bne_self_eq_false, Bool.false_or, List.all_eq_true, beq_iff_eq]
    intro h
    exact chL_ne S hk (by omega) (x := 0) ((mem_numsTo k 0).2 (by omega)) (h 0 ((mem_numsTo k 0).2 (by omega)))
/-! ### the number of nodes of the smooth form -/
theorem mem_cons_b (u v : Int) (l : List Int) : decide (u ∈ v :: l) = (decide (u = v) || decide (u ∈ l)) := by
  rw [Bool.eq_iff_iff]; simp
theorem fillV_cnt : ∀ (l : List Int) (s : FS), l.Nodup → (fillV s l).out.length = s.out.length + 3 * l.countP (fun v => (s.ch v).isNone) ∧ ∀ u, ((fillV s l).ch u).isSome = ((s.ch u).isSome || decide (u ∈ l))
  | [], s, _ => ⟨by simp [fillV], fun u => by simp [fillV]⟩
  | v :: l, s, h => by
    obtain ⟨h1, h2⟩ := List.nodup_cons.1 h
    obtain ⟨i1, i2⟩ := fillV_cnt l (stepV s v) h2
    show (fillV (stepV s v) l).out.length = _ ∧ ∀ u, ((fillV (stepV s v) l).ch u).isSome = _
    rw [i1]
    cases hv : s.ch v with
    | some c =>
      have eo : (stepV s v).out = s.out := by unfold stepV; rw [hv]
      have ec : (stepV s v).ch = s.ch := by unfold stepV; rw [hv]
      rw [ec] at i2
      rw [eo, ec]
      rw [List.countP_cons, hv]
      refine ⟨by simp, fun u => ?_⟩
      rw [i2 u, mem_cons_b]
      by_cases e : u = v
      · subst e; rw [hv]; simp
      · simp [e]
    | none =>
      have eo : (stepV s v).out = s.out ++ choice v s.out.length := by unfold stepV; rw [hv]
      have ec : (stepV s v).ch = fun u => if u = v then some ((s.out.length : Int) + 2) else s.ch u := by unfold stepV; rw [hv]
      rw [ec] at i2
      rw [eo, ec]
      have e3 : l.countP (fun w => ((fun u => if u = v then some ((s.out.length : Int) + 2) else s.ch u) w).isNone) = l.countP (fun w => (s.ch w).isNone) := List.countP_congr fun w hw => by
        have : w ≠ v := fun e => h1 (e ▸ hw)
        simp [this]
      rw [e3, List.countP_cons, hv, List.length_append, show (choice v s.out.length).length = 3 from rfl]
      refine ⟨by simp; omega, fun u => ?_⟩
      rw [i2 u, mem_cons_b]
      by_cases e : u = v
      · subst e; simp
      · simp [e]
theorem mems_nodup (s : VS) : (mems s).Nodup := (mems_sorted s).imp fun h => Int.ne_of_lt h
theorem cnt_skip (k : Nat) (h1 : 1 ≤ k) : ∀ n, (List.range n).countP (fun i => decide (i < k) && !decide (i = 0)) = min n k - 1
  | 0 => by simp
  | n + 1 => by
    rw [List.range_succ, List.countP_append, cnt_skip k h1 n, List.countP_cons, List.countP_nil]
    by_cases h : n < k
    · by_cases h0 : n = 0
      · subst h0; simp; omega
      · simp [h, h0]; omega
    · simp [h]; omega
theorem cnt_zero : ∀ n, (List.range n).countP (fun i => decide (i = 0)) = min n 1
  | 0 => by simp
  | n + 1 => by
    rw [List.range_succ, List.countP_append, cnt_zero n, List.countP_cons, List.countP_nil]
    by_cases h0 : n = 0
    · subst h0; simp
    · simp [h0]; omega
/-- What the literals leave. -/
theorem chL_first (S : VS) (k j : Nat) (hj : j ≤ k) : smF (chL S k) (vsOf (chL S k)) (litsN S j) = ⟨litsN S j, fun _ => none, numsTo j⟩ := by
  induction j with
  | zero => rfl
  | succ j ih =>
    rw [litsN_succ, smF_snoc, ih (by omega)]
    unfold stepN insO
    simp only [List.foldl_nil]
    rw [litsN_length, ← numsTo_succ]
section
variable (S : VS) {k : Nat} (hk : k ≤ 128)
include hk
/-- The choices that there are when j of the inputs are through. -/
def doneB (k j : Nat) (u : Int) : Bool := decide (1 ≤ u) && decide (u ≤ k) && (decide (2 ≤ j) || (decide (j = 1) && decide (u ≠ 1)))
theorem chL_lack {i : Nat} (hi : i < k) (p : Int → Bool) : (mems (minus (sOf (vsOf (chL S k)) (k : Int)) (sOf (vsOf (chL S k)) (i : Int)))).countP p = (List.range 128).countP fun q : Nat => decide (q < k) && !decide (q = i) && p ((q : Int) + 1) := by
  rw [cnt_mems]
  refine List.countP_congr fun q _ => ?_
  have : has (minus (sOf (vsOf (chL S k)) (k : Int)) (sOf (vsOf (chL S k)) (i : Int))) ((q : Int) + 1) = (decide (q < k) && !decide (q = i)) := by
    rw [has_minus, chL_v S hk hi, chL_vt S hk, decide_eq_true (show (1 : Int) ≤ (q : Int) + 1 by omega), Bool.true_and]
    congr 1
    · rw [Bool.eq_iff_iff]; simp only [decide_eq_true_eq]; omega
    · congr 1; rw [Bool.eq_iff_iff]; simp only [decide_eq_true_eq]; omega
  rw [this]
theorem chL_step (h2 : 2 ≤ k) (j : Nat) (hj : j ≤ k) :
    (insO (chL S k) (vsOf (chL S k)) (numsTo k) true (sOf (vsOf (chL S k)) (k : Int)) ⟨litsN S k, fun _ => none, []⟩ (numsTo j)).out.length = k + (if j = 0 then 0 else if j = 1 then 3 * (k - 1) else 3 * k) + j ∧
    ∀ u, ((insO (chL S k) (vsOf (chL S k)) (numsTo k) true (sOf (vsOf (chL S k)) (k : Int)) ⟨litsN S k, fun _ => none, []⟩ (numsTo j)).ch u).isSome = doneB k j u := by
  induction j with
  | zero =>
    refine ⟨by show (litsN S k).length = _; rw [litsN_length]; simp, fun u => ?_⟩
    show false = _
    unfold doneB; simp
  | succ j ih =>
    obtain ⟨i1, i2⟩ := ih (by omega)
    rw [numsTo_succ, insO_snoc]
    generalize insO (chL S k) (vsOf (chL S k)) (numsTo k) true (sOf (vsOf (chL S k)) (k : Int)) ⟨litsN S k, fun _ => none, []⟩ (numsTo j) = s at i1 i2 ⊢
    have hne := chL_ne S hk h2 (x := (j : Int)) ((mem_numsTo k _).2 (by omega))
    unfold stepO
    rw [if_pos ⟨rfl, hne⟩]
    unfold fillO
    obtain ⟨f1, f2⟩ := fillV_cnt (mems (minus (sOf (vsOf (chL S k)) (k : Int)) (sOf (vsOf (chL S k)) (j : Int)))) ⟨s.out, s.ch, inn0 (chL S k) (numsTo k) (j : Int)⟩ (mems_nodup _)
    simp only at f1 f2 ⊢
    rw [chL_lack S hk (by omega)] at f1
    rw [List.length_append, f1, i1]
    constructor
    · have hN : ∀ u, (s.ch u).isNone = !doneB k j u := fun u => by rw [← i2 u]; cases s.ch u <;> rfl
      simp only [hN]
      by_cases j0 : j = 0
      · subst j0
        have e : ∀ q : Nat, (decide (q < k) && !decide (q = 0) && !doneB k 0 ((q : Int) + 1)) = (decide (q < k) && !decide (q = 0)) := fun q => by unfold doneB; simp
        simp only [e]
        rw [cnt_skip k (by omega)]
        simp; omega
      · by_cases j1 : j = 1
        · subst j1
          have e : ∀ q : Nat, (decide (q < k) && !decide (q = 1) && !doneB k 1 ((q : Int) + 1)) = decide (q = 0) := fun q => by
            by_cases h0 : q = 0
            · subst h0
              unfold doneB
              simp; omega
            · rw [decide_eq_false h0]
              by_cases hq : q < k
              · by_cases h1 : q = 1
                · simp [h1]
                · have : doneB k 1 ((q : Int) + 1) = true := by
                    unfold doneB
                    simp; omega
                  rw [this]; simp
              · simp [hq]
          simp only [e]
          rw [cnt_zero]
          simp; omega
        · have e : ∀ q : Nat, (decide (q < k) && !decide (q = j) && !doneB k j ((q : Int) + 1)) = false := fun q => by
            unfold doneB
            rw [decide_eq_true (show 2 ≤ j by omega), Bool.true_or, Bool.and_true, decide_eq_true (show (1 : Int) ≤ (q : Int) + 1 by omega), Bool.true_and]
            by_cases h : q < k
            · rw [decide_eq_true (show (q : Int) + 1 ≤ k by omega)]; simp
            · rw [decide_eq_false h]; simp
          simp only [e]
          rw [List.countP_eq_zero.2 (by simp)]
          rw [if_neg j0, if_neg j1, if_neg (by omega), if_neg (by omega)]
          simp; omega
    · intro u
      rw [f2 u, i2 u]
      have em : decide (u ∈ mems (minus (sOf (vsOf (chL S k)) (k : Int)) (sOf (vsOf (chL S k)) (j : Int)))) = (decide (1 ≤ u) && decide (u ≤ k) && !decide (u = (j : Int) + 1)) := by
        rw [Bool.eq_iff_iff, decide_eq_true_eq, mem_mems, has_minus, chL_vt S hk, chL_v S hk (by omega)]
      rw [em]
      unfold doneB
      rw [Bool.eq_iff_iff]
      simp only [Bool.and_eq_true, Bool.or_eq_true, Bool.not_eq_true', decide_eq_true_eq, decide_eq_false_iff_not, ne_eq]
      omega
theorem chL_smT : (smT (chL S k)).length = if 1 < k then 5 * k + 1 else k + 1 := by
  by_cases h2 : 2 ≤ k
  · rw [if_pos (by omega)]
    obtain ⟨h, _⟩ := chL_step S hk h2 k (Nat.le_refl _)
    rw [if_neg (by omega), if_neg (by omega)] at h
    unfold smT
    have e : smF (chL S k) (vsOf (chL S k)) (chL S k) = stepN (chL S k) (vsOf (chL S k)) (smF (chL S k) (vsOf (chL S k)) (litsN S k)) ⟨4, 0, numsTo k⟩ := smF_snoc _ _ _ _
    rw [e, chL_first S k k (Nat.le_refl _)]
    unfold stepN
    simp only [numsTo_length, List.length_append, beq_self_eq_true]
    rw [h]
    simp; omega
  · rw [if_neg (by omega), smT_id (chL_valid S hk) (by rw [chL_smooth S hk]; exact decide_eq_true (by omega)), chL_length]
end
theorem chL_ins {S : VS} {k : Nat} (hk : k ≤ 128) : ∀ x ∈ chL S k, x.ins.length ≤ 128 := fun x hx => by
  rcases chL_mem hx with ⟨i, _, rfl⟩ | rfl
  · simp
  · show (numsTo k).length ≤ 128; rw [numsTo_length]; exact hk
end Go.Proofs.YtpdbfbjfodckgaaDoor
