/- Plain mathematics of nets: which nets are deterministic, by sixty-four assignments at once and one at a time; a net that decides is deterministic. No program in sight. -/
import Derived.Test.YtpdbfbjfodckgaaDoorHSepP
namespace Go.Proofs.YtpdbfbjfodckgaaDoor

/-- The variables of the literals. -/
def litsVS (L : List NodeT) : VS := L.foldl (fun s x => if x.kind = 2 then withV s (litVar x.lit) else s) 0
theorem litsVS_snoc (L : List NodeT) (x : NodeT) : litsVS (L ++ [x]) = if x.kind = 2 then withV (litsVS L) (litVar x.lit) else litsVS L := by unfold litsVS; rw [List.foldl_append]; rfl
theorem has_litsVS (L : List NodeT) (v : Int) : has (litsVS L) v = true ↔ (1 ≤ v ∧ v ≤ 128) ∧ ∃ x ∈ L, x.kind = 2 ∧ litVar x.lit = v := by
  induction L using snoc_ind with
  | h0 => simp [litsVS, show has (0#128) v = false from has_zero v]
  | h1 L x ih =>
    rw [litsVS_snoc]
    have e : (∃ y ∈ L ++ [x], y.kind = 2 ∧ litVar y.lit = v) ↔ (∃ y ∈ L, y.kind = 2 ∧ litVar y.lit = v) ∨ (x.kind = 2 ∧ litVar x.lit = v) := by
      constructor
      · rintro ⟨y, hy, h⟩
        rcases List.mem_append.1 hy with h1 | h1
        · exact .inl ⟨y, h1, h⟩
        · rw [List.mem_singleton] at h1; subst h1; exact .inr h
      · rintro (⟨y, hy, h⟩ | h)
        · exact ⟨y, List.mem_append_left _ hy, h⟩
        · exact ⟨x, List.mem_append_right _ (List.mem_singleton.2 rfl), h⟩
    rw [e]
    by_cases hk : x.kind = 2
    · rw [if_pos hk, has_withV, Bool.or_eq_true, ih]
      simp only [Bool.and_eq_true, decide_eq_true_eq]
      constructor
      · rintro (⟨h1, h2⟩ | ⟨⟨rfl, h1⟩, h2⟩)
        · exact ⟨h1, .inl h2⟩
        · exact ⟨⟨h1, h2⟩, .inr ⟨hk, rfl⟩⟩
      · rintro ⟨h1, h2 | ⟨_, rfl⟩⟩
        · exact .inl ⟨h1, h2⟩
        · exact .inr ⟨⟨rfl, h1.1⟩, h1.2⟩
    · rw [if_neg hk, ih]
      constructor
      · rintro ⟨h1, h2⟩; exact ⟨h1, .inl h2⟩
      · rintro ⟨h1, h2 | ⟨h2, _⟩⟩
        · exact ⟨h1, h2⟩
        · exact absurd h2 hk
/-! ### words for assignments -/
def patW (i : Nat) : WD := if i = 0 then 0xAAAAAAAAAAAAAAAA#64 else if i = 1 then 0xCCCCCCCCCCCCCCCC#64 else if i = 2 then 0xF0F0F0F0F0F0F0F0#64 else if i = 3 then 0xFF00FF00FF00FF00#64 else if i = 4 then 0xFFFF0000FFFF0000#64 else 0xFFFFFFFF00000000#64
theorem patW_bit : ∀ i < 6, ∀ t < 64, (patW i).getLsbD t = t.testBit i := by decide
/-- The words of the variables l in block b, when k of the variables are through. -/
def wordsK (l : List Int) (b : Nat) : Nat → Int → WD
  | 0, _ => 0
  | k + 1, v => if v = l.getD k 0 then (if k < 6 then patW k else if b.testBit (k - 6) then ones64 else wordsK l b k v) else wordsK l b k v
theorem wordsK_out {l : List Int} {b : Nat} {v : Int} : ∀ k, k ≤ l.length → (∀ i (h : i < l.length), i < k → l[i] ≠ v) → wordsK l b k v = 0
  | 0, _, _ => rfl
  | k + 1, hk, h => by
    have e : l.getD k 0 = l[k] := by rw [List.getD_eq_getElem?_getD, List.getElem?_eq_getElem (by omega), Option.getD_some]
    rw [wordsK, e, if_neg (fun e => h k (by omega) (by omega) e.symm)]
    exact wordsK_out k (by omega) fun i hi hlt => h i hi (by omega)
theorem wordsK_at {l : List Int} {b : Nat} (hl : l.Pairwise (· < ·)) {i : Nat} (hi : i < l.length) : ∀ k, k ≤ l.length → i < k →
    wordsK l b k l[i] = if i < 6 then patW i else if b.testBit (i - 6) then ones64 else 0
  | k + 1, hk, h => by
    have e : l.getD k 0 = l[k] := by rw [List.getD_eq_getElem?_getD, List.getElem?_eq_getElem (by omega), Option.getD_some]
    rw [wordsK, e]
    by_cases hik : i = k
    · subst hik
      have h0 : wordsK l b i l[i] = 0 := wordsK_out i (by omega) fun j hj hlt => by
        have := List.pairwise_iff_getElem.1 hl j i hj hi hlt; omega
      rw [if_pos rfl, h0]
    · have hne : l[i] ≠ l[k] := by have := List.pairwise_iff_getElem.1 hl i k hi (by omega) (by omega); omega
      rw [if_neg hne]
      exact wordsK_at hl hi k (by omega) (by omega)
def detB (L : List NodeT) : Bool := (List.range (2 ^ ((mems (litsVS L)).length - 6))).all fun b => sepB (wordsK (mems (litsVS L)) b (mems (litsVS L)).length) L
/-! ### one assignment at a time -/
theorem scanF_congr {α β : Type} {f g : List β → α → β} : ∀ {l : List α}, (∀ x ∈ l, ∀ M, f M x = g M x) → scanF f l = scanF g l := by
  intro l
  induction l using snoc_ind with
  | h0 => intro _; rfl
  | h1 l x ih =>
    intro h
    rw [scanF_snoc, scanF_snoc, ih fun y hy => h y (List.mem_append_left _ hy), h x (List.mem_append_right _ (List.mem_singleton.2 rfl))]
theorem bsOf_congr {A B : Int → Bool} {L : List NodeT} (h : ∀ x ∈ L, x.kind = 2 → A (litVar x.lit) = B (litVar x.lit)) : bsOf A L = bsOf B L := by
  refine scanF_congr fun x hx M => ?_
  unfold bNode litB
  by_cases hk : x.kind = 2
  · rw [h x hx hk]
  · rw [if_neg hk, if_neg hk]
theorem orOk_congr {A B : Int → Bool} {L : List NodeT} (h : ∀ x ∈ L, x.kind = 2 → A (litVar x.lit) = B (litVar x.lit)) : orOk A L = orOk B L := by
  unfold orOk; rw [bsOf_congr h]
/-- A number by its bits. -/
def numF (f : Nat → Bool) : Nat → Nat
  | 0 => 0
  | n + 1 => 2 ^ n * (if f n then 1 else 0) + numF f n
theorem numF_lt (f : Nat → Bool) : ∀ n, numF f n < 2 ^ n
  | 0 => Nat.zero_lt_one
  | n + 1 => by
    have := numF_lt f n
    unfold numF
    rw [Nat.pow_succ]
    split <;> omega
theorem numF_bit (f : Nat → Bool) : ∀ (n i : Nat), i < n → (numF f n).testBit i = f i
  | n + 1, i, h => by
    unfold numF
    rw [Nat.testBit_two_pow_mul_add _ (numF_lt f n)]
    by_cases e : i = n
    · subst e
      rw [if_neg (by omega), Nat.sub_self]
      cases f i <;> rfl
    · rw [if_pos (by omega)]
      exact numF_bit f n i (by omega)
theorem kind2_range {n : Int} {L : List NodeT} (hv : validNet ⟨n, L⟩ = true) {x : NodeT} (hx : x ∈ L) (hk : x.kind = 2) : 1 ≤ litVar x.lit ∧ litVar x.lit ≤ n ∧ litVar x.lit ≤ 128 ∧ x.ins = [] := by
  obtain ⟨⟨r1, r2, r3, r4⟩, hft⟩ := (validNet_iff _).1 hv
  simp only at r1 r2 r3 r4 hft
  obtain ⟨k, hl, rfl⟩ := List.getElem_of_mem hx
  have hf : formed L[k] n k = true := hft k hl hl
  unfold formed at hf
  cases hb : badIn L[k].ins k with
  | true => rw [hb, if_pos rfl] at hf; cases hf
  | false =>
    rw [hb, if_neg (by simp), if_neg (by omega), if_pos hk] at hf
    simp only [Bool.and_eq_true, decide_eq_true_eq] at hf
    have h1 := hf.1
    simp only [litValid, Bool.and_eq_true, decide_eq_true_eq] at h1
    have := litVar_range L[k].lit
    exact ⟨by omega, by omega, by omega, hf.2⟩
theorem mems_of_lits {n : Int} {L : List NodeT} (hv : validNet ⟨n, L⟩ = true) {x : NodeT} (hx : x ∈ L) (hk : x.kind = 2) : litVar x.lit ∈ mems (litsVS L) := by
  have h := kind2_range hv hx hk
  rw [mem_mems, has_litsVS]
  exact ⟨⟨h.1, h.2.2.1⟩, x, hx, hk, rfl⟩
theorem detB_iff {n : Int} {L : List NodeT} (hv : validNet ⟨n, L⟩ = true) : detB L = true ↔ ∀ A : Int → Bool, orOk A L = true := by
  unfold detB
  have hl := mems_sorted (litsVS L)
  have hm : ∀ x ∈ L, x.kind = 2 → litVar x.lit ∈ mems (litsVS L) := fun x hx hk => mems_of_lits hv hx hk
  generalize mems (litsVS L) = l at *
  rw [List.all_eq_true]
  constructor
  · intro h A
    have hk := numF_lt (fun i => A (l.getD i 0)) l.length
    have hbit := numF_bit (fun i => A (l.getD i 0)) l.length
    generalize numF (fun i => A (l.getD i 0)) l.length = k at *
    have hb : k / 64 < 2 ^ (l.length - 6) := by
      by_cases h6 : 6 ≤ l.length
      · rw [Nat.div_lt_iff_lt_mul (by decide), show (64 : Nat) = 2 ^ 6 from rfl, ← Nat.pow_add, show l.length - 6 + 6 = l.length by omega]; exact hk
      · have : 2 ^ l.length ≤ 2 ^ 6 := Nat.pow_le_pow_right (by decide) (by omega)
        rw [show l.length - 6 = 0 by omega]
        have e6 : 2 ^ 6 = 64 := rfl
        rw [e6] at this
        omega
    have hs := (sepB_bits _ _).1 (h (k / 64) (List.mem_range.2 hb)) (k % 64) (Nat.mod_lt _ (by decide))
    rw [← hs]
    refine orOk_congr fun x hx hk2 => ?_
    obtain ⟨i, hi, e⟩ := List.getElem_of_mem (hm x hx hk2)
    rw [← e, wordsK_at hl hi l.length (Nat.le_refl _) hi]
    have hbi := hbit i hi
    have e2 : l.getD i 0 = l[i] := by rw [List.getD_eq_getElem?_getD, List.getElem?_eq_getElem hi, Option.getD_some]
    rw [e2] at hbi
    rw [← hbi]
    by_cases h6 : i < 6
    · rw [if_pos h6, patW_bit i h6 _ (Nat.mod_lt _ (by decide)), show k % 64 = k % 2 ^ 6 from rfl, Nat.testBit_mod_two_pow]
      simp [h6]
    · have hdiv : (k / 64).testBit (i - 6) = k.testBit i := by rw [show k / 64 = k / 2 ^ 6 from rfl, Nat.testBit_div_two_pow, show i - 6 + 6 = i by omega]
      rw [if_neg h6, hdiv]
      cases k.testBit i with
      | true => rw [if_pos rfl]; unfold ones64; rw [BitVec.getLsbD_allOnes]; exact (decide_eq_true (show k % 64 < 64 from Nat.mod_lt _ (by decide))).symm
      | false => rw [if_neg (by simp)]; exact BitVec.getLsbD_zero.symm
  · intro h b _
    exact (sepB_bits _ _).2 fun t _ => h _
end Go.Proofs.YtpdbfbjfodckgaaDoor
