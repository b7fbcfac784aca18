/- Plain mathematics: the bits of a word, how many they are, the lowest one; the members of a set out of its two words. -/
import Derived.Test.YtpdbfbjfodckgaaDoorVPlain
import Derived.Lib.TrailingZeros
import Derived.Laws.Bits64b
namespace Go.Proofs.YtpdbfbjfodckgaaDoor

/-! ### lists in ascending order -/
theorem sorted_ext : ∀ {l m : List Nat}, l.Pairwise (· < ·) → m.Pairwise (· < ·) → (∀ a, a ∈ l ↔ a ∈ m) → l = m
  | [], [], _, _, _ => rfl
  | [], b :: m, _, _, h => by have := (h b).2 (by simp); simp at this
  | a :: l, [], _, _, h => by have := (h a).1 (by simp); simp at this
  | a :: l, b :: m, hl, hm, h => by
    have hl' := List.pairwise_cons.1 hl
    have hm' := List.pairwise_cons.1 hm
    have hab : a = b := by
      have h1 := (h a).1 (by simp)
      have h2 := (h b).2 (by simp)
      rcases List.mem_cons.1 h1 with e | e
      · exact e
      · rcases List.mem_cons.1 h2 with e' | e'
        · exact e'.symm
        · have := hl'.1 b e'; have := hm'.1 a e; omega
    subst hab
    congr 1
    refine sorted_ext hl'.2 hm'.2 fun c => ?_
    constructor
    · intro hc
      have := (h c).1 (by simp [hc])
      rcases List.mem_cons.1 this with e | e
      · have := hl'.1 c hc; omega
      · exact e
    · intro hc
      have := (h c).2 (by simp [hc])
      rcases List.mem_cons.1 this with e | e
      · have := hm'.1 c hc; omega
      · exact e

/-! ### the bits of a word -/
def bitsL (x : Nat) : List Nat := (List.range 64).filter x.testBit
theorem mem_bitsL {x : Nat} (hx : x < 18446744073709551616) (i : Nat) : i ∈ bitsL x ↔ x.testBit i = true := by
  simp only [bitsL, List.mem_filter, List.mem_range]
  refine ⟨fun h => h.2, fun h => ⟨?_, h⟩⟩
  apply Classical.byContradiction
  intro h'
  have := Nat.testBit_lt_two_pow (Nat.lt_of_lt_of_le hx (Nat.pow_le_pow_right (show 0 < 2 by decide) (show 64 ≤ i by omega)))
  rw [h] at this; cases this
theorem bitsL_sorted (x : Nat) : (bitsL x).Pairwise (· < ·) := List.pairwise_lt_range.filter _
theorem bitsL_zero : bitsL 0 = [] := by simp [bitsL]
theorem clear_low {x : Nat} (h0 : x ≠ 0) (hx : x < 18446744073709551616) (i : Nat) :
    (x &&& (x - 1)).testBit i = (x.testBit i && !decide (i = Lib.ctz 64 x)) ∧ x.testBit (Lib.ctz 64 x) = true ∧ (i < Lib.ctz 64 x → x.testBit i = false) := by
  obtain ⟨m, hm, hk⟩ := Lib.ctzFrom_spec 64 x (by omega) hx
  have e : Lib.ctz 64 x = Lib.ctzFrom 64 x := by simp [Lib.ctz, h0]
  rw [e]
  generalize Lib.ctzFrom 64 x = k at hm
  have hx1 : x - 1 = 2 ^ k * (2 * m) + (2 ^ k - 1) := by
    have := Nat.two_pow_pos k
    rw [hm, Nat.mul_add, Nat.mul_one]; omega
  have hxk : x = 2 ^ k * (2 * m + 1) + 0 := by omega
  have p1 : (2 ^ k - 1) < 2 ^ k := by have := Nat.two_pow_pos k; omega
  have b1 : ∀ j, x.testBit j = if j < k then false else (2 * m + 1).testBit (j - k) := fun j => by
    rw [hxk, Nat.testBit_two_pow_mul_add _ (Nat.two_pow_pos k)]; simp
  have b2 : ∀ j, (x - 1).testBit j = if j < k then true else (2 * m).testBit (j - k) := fun j => by
    rw [hx1, Nat.testBit_two_pow_mul_add _ p1]
    split
    · simp [Nat.testBit_two_pow_sub_one]; omega
    · rfl
  refine ⟨?_, ?_, ?_⟩
  · rw [Nat.testBit_and, b1, b2]
    by_cases h : i < k
    · simp [h]
    · by_cases h2 : i = k
      · subst h2; simp
      · obtain ⟨d, rfl⟩ : ∃ d, i = k + (d + 1) := ⟨i - k - 1, by omega⟩
        simp [show ¬ (k + (d + 1) < k) by omega, show k + (d + 1) - k = d + 1 by omega, Nat.testBit_succ, show (2 * m + 1) / 2 = m by omega]
  · rw [b1]; simp
  · intro h; rw [b1]; simp [h]
theorem and_lt {x y : Nat} (hx : x < 18446744073709551616) : x &&& y < 18446744073709551616 := Nat.lt_of_le_of_lt Nat.and_le_left hx
theorem bitsL_next {x : Nat} (h0 : x ≠ 0) (hx : x < 18446744073709551616) : bitsL x = Lib.ctz 64 x :: bitsL (x &&& (x - 1)) := by
  apply sorted_ext (bitsL_sorted x)
  · rw [List.pairwise_cons]
    refine ⟨fun a ha => ?_, bitsL_sorted _⟩
    rw [mem_bitsL (and_lt hx)] at ha
    have hc := clear_low h0 hx a
    rw [hc.1] at ha
    simp at ha
    apply Classical.byContradiction
    intro h'
    have := hc.2.2 (by omega)
    rw [ha.1] at this; cases this
  · intro a
    rw [List.mem_cons, mem_bitsL hx, mem_bitsL (and_lt hx), (clear_low h0 hx a).1]
    constructor
    · intro h
      by_cases e : a = Lib.ctz 64 x
      · exact .inl e
      · right; simp [h, e]
    · rintro (rfl | h)
      · exact (clear_low h0 hx 0).2.1
      · simp at h; exact h.1
theorem lw_lt (s : VS) : (lw s).toNat < 18446744073709551616 := (lw s).isLt
theorem hw_lt (s : VS) : (hw s).toNat < 18446744073709551616 := (hw s).isLt
theorem filter_congr_range {p q : Nat → Bool} {n : Nat} (h : ∀ i, i < n → p i = q i) : (List.range n).filter p = (List.range n).filter q :=
  List.filter_congr fun i hi => h i (List.mem_range.1 hi)
theorem mems_words (s : VS) : mems s = (bitsL (lw s).toNat).map (fun i : Nat => (i : Int) + 1) ++ (bitsL (hw s).toNat).map (fun i : Nat => (i : Int) + 65) := by
  unfold mems
  rw [show (128 : Nat) = 64 + 64 from rfl, List.range_add, List.map_append, List.filter_append, List.filter_map, List.map_map, List.filter_map]
  have e1 : (List.range 64).filter (has s ∘ fun i : Nat => (i : Int) + 1) = bitsL (lw s).toNat := by
    apply filter_congr_range
    intro i hi
    show has s ((i : Int) + 1) = (lw s).getLsbD i
    rw [lo_bit, has]
    simp [show (1 : Int) ≤ i + 1 by omega, hi]
  have e2 : (List.range 64).filter (has s ∘ ((fun i : Nat => (i : Int) + 1) ∘ fun x => 64 + x)) = bitsL (hw s).toNat := by
    apply filter_congr_range
    intro i hi
    show has s (((64 + i : Nat) : Int) + 1) = (hw s).getLsbD i
    rw [hi_bit, has]
    simp [show (1 : Int) ≤ 64 + (i : Int) + 1 by omega, hi, show (64 + (i : Int)).toNat = 64 + i by omega]
  rw [e1, e2]
  congr 1
  apply List.map_congr_left
  intro i _
  simp
  omega

/-! ### counting -/
theorem and_bytes {a c : Nat} (b d : Nat) (ha : a < 256) (hc : c < 256) : (a + 256 * b) &&& (c + 256 * d) = (a &&& c) + 256 * (b &&& d) := by
  have hac : a &&& c < 256 := Nat.lt_of_le_of_lt Nat.and_le_left ha
  apply Nat.eq_of_testBit_eq
  intro i
  rw [Nat.testBit_and, Nat.add_comm a, Nat.add_comm c, Nat.add_comm (a &&& c)]
  rw [Nat.testBit_two_pow_mul_add (i := 8) b ha, Nat.testBit_two_pow_mul_add (i := 8) d hc, Nat.testBit_two_pow_mul_add (i := 8) _ hac]
  split <;> simp
/-- A mask of n bytes. -/
def mask (c : Nat) : Nat → Nat
  | 0 => 0
  | n + 1 => c + 256 * mask c n
theorem mask_succ (c n : Nat) : mask c (n + 1) = c + 256 * mask c n := rfl
def p1 (n x : Nat) : Nat := ((x / 2) &&& mask 85 n) + (x &&& mask 85 n)
def p2 (n x : Nat) : Nat := ((x / 4) &&& mask 51 n) + (x &&& mask 51 n)
def p3 (n x : Nat) : Nat := (x / 16 + x) &&& mask 15 n
theorem k1 : ∀ a, a < 256 → ∀ r, r < 2 → (a / 2 + 128 * r) &&& 85 = (a / 2) &&& 85 := by decide +kernel
theorem k2 : ∀ a, a < 256 → ∀ r, r < 4 → (a / 4 + 64 * r) &&& 51 = (a / 4) &&& 51 := by decide +kernel
theorem k3 : ∀ a, a < 69 → ∀ r, r < 5 → (a / 16 + a + 16 * r) &&& 15 = (a / 16 + a) &&& 15 := by decide +kernel
def q1 (a : Nat) : Nat := ((a / 2) &&& 85) + (a &&& 85)
def q2 (a : Nat) : Nat := ((a / 4) &&& 51) + (a &&& 51)
def q3 (a : Nat) : Nat := (a / 16 + a) &&& 15
theorem q1_lt (a : Nat) : q1 a < 256 := by
  have h1 : (a / 2) &&& 85 ≤ 85 := Nat.and_le_right
  have h2 : a &&& 85 ≤ 85 := Nat.and_le_right
  unfold q1; omega
theorem q2_lt : ∀ a, a < 256 → q2 (q1 a) < 69 ∧ q2 (q1 a) % 16 < 5 := by decide +kernel
theorem p1_step (n a b : Nat) (ha : a < 256) : p1 (n + 1) (a + 256 * b) = q1 a + 256 * p1 n b := by
  unfold p1 q1
  rw [mask_succ]
  have e : (a + 256 * b) / 2 = (a / 2 + 128 * (b % 2)) + 256 * (b / 2) := by omega
  rw [e, and_bytes _ _ (by omega) (by omega), and_bytes _ _ ha (by omega), k1 a ha _ (by omega)]
  omega
theorem p2_step (n a b : Nat) (ha : a < 256) : p2 (n + 1) (a + 256 * b) = q2 a + 256 * p2 n b := by
  unfold p2 q2
  rw [mask_succ]
  have e : (a + 256 * b) / 4 = (a / 4 + 64 * (b % 4)) + 256 * (b / 4) := by omega
  rw [e, and_bytes _ _ (by omega) (by omega), and_bytes _ _ ha (by omega), k2 a ha _ (by omega)]
  omega
theorem p3_step (n a b : Nat) (ha : a < 69) (hb : b % 16 < 5) : p3 (n + 1) (a + 256 * b) = q3 a + 256 * p3 n b := by
  unfold p3 q3
  rw [mask_succ]
  have e : (a + 256 * b) / 16 + (a + 256 * b) = (a / 16 + a + 16 * (b % 16)) + 256 * (b / 16 + b) := by omega
  rw [e, and_bytes _ _ (by omega) (by omega), k3 a ha _ hb]
def cnt (x n : Nat) : Nat := ((List.range n).filter x.testBit).length
theorem cnt_byte : ∀ a, a < 256 → cnt a 8 = q3 (q2 (q1 a)) := by decide +kernel
theorem cnt_split (a b n : Nat) (ha : a < 256) : cnt (a + 256 * b) (8 + n) = cnt a 8 + cnt b n := by
  unfold cnt
  rw [List.range_add, List.filter_append, List.length_append, List.filter_map, List.length_map]
  congr 2
  · apply filter_congr_range
    intro i hi
    rw [Nat.add_comm, Nat.testBit_two_pow_mul_add (i := 8) b ha]; simp [hi]
  · apply filter_congr_range
    intro i _
    show (a + 256 * b).testBit (8 + i) = _
    rw [Nat.add_comm a, Nat.testBit_two_pow_mul_add (i := 8) b ha, if_neg (by omega)]; congr 1; omega
/-- The sum of the counts, byte by byte. -/
theorem swar (n : Nat) : ∀ x, p3 (n + 1) (p2 (n + 1) (p1 (n + 1) x)) = cnt (x % 256) 8 + 256 * p3 n (p2 n (p1 n (x / 256))) ∧ p2 n (p1 n x) % 16 < 5 := by
  have low : ∀ n x, p2 n (p1 n x) % 16 < 5 := by
    intro n x
    cases n with
    | zero => simp [p1, p2, mask]
    | succ n =>
      have e : x = x % 256 + 256 * (x / 256) := by omega
      rw [e, p1_step _ _ _ (by omega), p2_step _ _ _ (q1_lt _)]
      have := (q2_lt (x % 256) (by omega)).2
      omega
  intro x
  refine ⟨?_, low n x⟩
  have e : x = x % 256 + 256 * (x / 256) := by omega
  have e2 : p1 (n + 1) x = p1 (n + 1) (x % 256 + 256 * (x / 256)) := by rw [← e]
  rw [e2, p1_step _ _ _ (by omega), p2_step _ _ _ (q1_lt _), p3_step _ _ _ (q2_lt _ (by omega)).1 (low _ _), cnt_byte _ (by omega)]
theorem cnt_le (x n : Nat) : cnt x n ≤ n := by
  have := List.length_filter_le x.testBit (List.range n)
  simpa [cnt] using this
theorem cnt_bytes (x n : Nat) : cnt x (8 + n) = cnt (x % 256) 8 + cnt (x / 256) n := by
  rw [← cnt_split _ _ _ (show x % 256 < 256 by omega)]; congr 1; omega
def fold8 (y : Nat) : Nat :=
  let y4 := y + y / 256
  let y5 := y4 + y4 / 65536
  (y5 + y5 / 4294967296) % 128
theorem fold_sum (c0 c1 c2 c3 c4 c5 c6 c7 : Nat) (h0 : c0 ≤ 8) (h1 : c1 ≤ 8) (h2 : c2 ≤ 8) (h3 : c3 ≤ 8) (h4 : c4 ≤ 8) (h5 : c5 ≤ 8) (h6 : c6 ≤ 8) (h7 : c7 ≤ 8) :
    fold8 (c0 + 256 * (c1 + 256 * (c2 + 256 * (c3 + 256 * (c4 + 256 * (c5 + 256 * (c6 + 256 * c7))))))) = c0 + c1 + c2 + c3 + c4 + c5 + c6 + c7 := by
  have d1 : ∀ a R : Nat, a < 256 → (a + 256 * R) / 256 = R := fun a R h => by omega
  have d2 : ∀ a b R : Nat, a < 256 → b < 256 → (a + 256 * (b + 256 * R)) / 65536 = R := fun a b R h h' => by omega
  have d4 : ∀ a b c d R : Nat, a < 256 → b < 256 → c < 256 → d < 256 → (a + 256 * (b + 256 * (c + 256 * (d + 256 * R)))) / 4294967296 = R := fun a b c d R _ _ _ _ => by omega
  unfold fold8
  simp only []
  rw [d1 _ _ (by omega)]
  have e4 : c0 + 256 * (c1 + 256 * (c2 + 256 * (c3 + 256 * (c4 + 256 * (c5 + 256 * (c6 + 256 * c7)))))) + (c1 + 256 * (c2 + 256 * (c3 + 256 * (c4 + 256 * (c5 + 256 * (c6 + 256 * c7)))))) =
      (c0 + c1) + 256 * ((c1 + c2) + 256 * ((c2 + c3) + 256 * ((c3 + c4) + 256 * ((c4 + c5) + 256 * ((c5 + c6) + 256 * ((c6 + c7) + 256 * c7)))))) := by omega
  rw [e4, d2 _ _ _ (by omega) (by omega)]
  have e5 : (c0 + c1) + 256 * ((c1 + c2) + 256 * ((c2 + c3) + 256 * ((c3 + c4) + 256 * ((c4 + c5) + 256 * ((c5 + c6) + 256 * ((c6 + c7) + 256 * c7)))))) + ((c2 + c3) + 256 * ((c3 + c4) + 256 * ((c4 + c5) + 256 * ((c5 + c6) + 256 * ((c6 + c7) + 256 * c7))))) =
      (c0 + c1 + c2 + c3) + 256 * ((c1 + c2 + c3 + c4) + 256 * ((c2 + c3 + c4 + c5) + 256 * ((c3 + c4 + c5 + c6) + 256 * ((c4 + c5 + c6 + c7) + 256 * ((c5 + c6 + c7) + 256 * ((c6 + c7) + 256 * c7)))))) := by omega
  rw [e5, d4 _ _ _ _ _ (by omega) (by omega) (by omega) (by omega)]
  omega
theorem bd_step {c R K : Nat} (hc : c ≤ 8) (hR : R ≤ K) : c + 256 * R ≤ 8 + 256 * K := by omega
theorem popcount (x : Nat) : fold8 (p3 8 (p2 8 (p1 8 x))) = (bitsL x).length ∧ p3 8 (p2 8 (p1 8 x)) ≤ 578721382704613384 := by
  have hz : ∀ x, p3 0 (p2 0 (p1 0 x)) = 0 := fun x => by simp [p1, p2, p3, mask]
  rw [(swar 7 x).1, (swar 6 _).1, (swar 5 _).1, (swar 4 _).1, (swar 3 _).1, (swar 2 _).1, (swar 1 _).1, (swar 0 _).1, hz]
  have hb : ∀ y, cnt (y % 256) 8 ≤ 8 := fun y => cnt_le _ _
  constructor
  · show _ = cnt x (8 + 56)
    rw [show (56 : Nat) = 8 + (8 + (8 + (8 + (8 + (8 + (8 + 0)))))) from rfl]
    simp only [cnt_bytes]
    have e0 : ∀ y, cnt y 0 = 0 := fun y => rfl
    rw [e0]
    rw [Nat.mul_zero, Nat.add_zero]
    rw [fold_sum _ _ _ _ _ _ _ _ (hb _) (hb _) (hb _) (hb _) (hb _) (hb _) (hb _) (hb _)]
    omega
  · exact Nat.le_trans (bd_step (hb _) (bd_step (hb _) (bd_step (hb _) (bd_step (hb _) (bd_step (hb _) (bd_step (hb _) (bd_step (hb _) (bd_step (hb _) (Nat.le_refl 0))))))))) (by decide)
theorem len_words (s : VS) : len s = ((bitsL (lw s).toNat).length : Int) + ((bitsL (hw s).toNat).length : Int) := by
  unfold len; rw [mems_words]; simp
end Go.Proofs.YtpdbfbjfodckgaaDoor
