/- Plain mathematics of sets of variables: a set is a BitVec 128; no program in sight. -/
import Derived.Laws.Entries
import Derived.RowKit
namespace Go.Proofs.YtpdbfbjfodckgaaDoor

/-! ### the 64-bit halves -/
abbrev VS := BitVec 128
def lw (s : VS) : BitVec 64 := s.setWidth 64
def hw (s : VS) : BitVec 64 := (s >>> 64).setWidth 64

/-- The word operations, kept from simp. -/
def or64 (a b : BitVec 64) : BitVec 64 := a ||| b
def and64 (a b : BitVec 64) : BitVec 64 := a &&& b
def andn64 (a b : BitVec 64) : BitVec 64 := a &&& ~~~ b
theorem lo_or (a b : VS) : lw (a ||| b) = or64 (lw a) (lw b) := by unfold lw or64; ext i hi; simp
theorem lo_and (a b : VS) : lw (a &&& b) = and64 (lw a) (lw b) := by unfold lw and64; ext i hi; simp
theorem lo_minus (a b : VS) : lw (a &&& ~~~ b) = andn64 (lw a) (lw b) := by unfold lw andn64; ext i hi; simp
theorem hi_or (a b : VS) : hw (a ||| b) = or64 (hw a) (hw b) := by unfold hw or64; ext i hi; simp
theorem hi_and (a b : VS) : hw (a &&& b) = and64 (hw a) (hw b) := by unfold hw and64; ext i hi; simp
theorem hi_minus (a b : VS) : hw (a &&& ~~~ b) = andn64 (hw a) (hw b) := by unfold hw andn64; ext i hi; simp [show 64 + i < 128 by omega]
theorem or64_zero (a : BitVec 64) : or64 a 0 = a := by simp [or64]
theorem andn64_zero (a : BitVec 64) : andn64 a 0 = a := by
  unfold andn64; apply BitVec.eq_of_getLsbD_eq; intro i h; rw [BitVec.getLsbD_and, BitVec.getLsbD_not, show BitVec.getLsbD (0 : BitVec 64) i = false from BitVec.getLsbD_zero]; simp [h]
theorem lo_bit (s : VS) (i : Nat) : (lw s).getLsbD i = (decide (i < 64) && s.getLsbD i) := by unfold lw; simp
theorem hi_bit (s : VS) (i : Nat) : (hw s).getLsbD i = (decide (i < 64) && s.getLsbD (64 + i)) := by unfold hw; simp
theorem ext_lo_hi {a b : VS} (h1 : lw a = lw b) (h2 : hw a = hw b) : a = b := by
  apply BitVec.eq_of_getLsbD_eq
  intro i hi
  by_cases h : i < 64
  · have h2 : (lw a).getLsbD i = (lw b).getLsbD i := by rw [h1]
    rw [lo_bit, lo_bit] at h2; simpa only [h, decide_true, Bool.true_and] using h2
  · have h3 : (hw a).getLsbD (i - 64) = (hw b).getLsbD (i - 64) := by rw [h2]
    rw [hi_bit, hi_bit, show 64 + (i - 64) = i by omega] at h3; simpa only [show i - 64 < 64 by omega, decide_true, Bool.true_and] using h3

/-! ### the model's bit operations at u64 -/
theorem bv_of (a : BitVec 64) : BitVec.ofInt 64 ((a.toNat : Nat) : Int) = a := by
  rw [BitVec.ofInt_natCast, BitVec.ofNat_toNat, BitVec.setWidth_eq]
theorem wrap_u64_bv (a : BitVec 64) : IntKind.u64.wrap ((a.toNat : Nat) : Int) = (a.toNat : Int) := by
  have := a.isLt
  simp only [IntKind.wrap, IntKind.bits, IntKind.signed]
  simp
  omega
theorem bits_or (a b : BitVec 64) : bits .or .u64 (a.toNat : Int) (b.toNat : Int) = ((or64 a b).toNat : Int) := by
  show IntKind.u64.wrap ((BitVec.ofInt 64 _ ||| BitVec.ofInt 64 _).toNat : Int) = _
  rw [bv_of, bv_of, wrap_u64_bv]; rfl
theorem bits_and (a b : BitVec 64) : bits .and .u64 (a.toNat : Int) (b.toNat : Int) = ((and64 a b).toNat : Int) := by
  show IntKind.u64.wrap ((BitVec.ofInt 64 _ &&& BitVec.ofInt 64 _).toNat : Int) = _
  rw [bv_of, bv_of, wrap_u64_bv]; rfl
theorem bits_andNot (a b : BitVec 64) : bits .andNot .u64 (a.toNat : Int) (b.toNat : Int) = ((andn64 a b).toNat : Int) := by
  show IntKind.u64.wrap ((BitVec.ofInt 64 _ &&& ~~~ BitVec.ofInt 64 _).toNat : Int) = _
  rw [bv_of, bv_of, wrap_u64_bv]; rfl

/-! ### sets -/
def has (s : VS) (v : Int) : Bool := decide (1 ≤ v) && s.getLsbD (v - 1).toNat
def one (v : Int) : VS := if 1 ≤ v ∧ v ≤ 128 then BitVec.twoPow 128 (v - 1).toNat else 0
def withV (s : VS) (v : Int) : VS := s ||| one v
def withoutV (s : VS) (v : Int) : VS := s &&& ~~~ one v
def minus (a b : VS) : VS := a &&& ~~~ b
def ofL (l : List Int) : VS := l.foldl withV 0

theorem has_low {s : VS} {v : Int} (h : v < 1) : has s v = false := by simp [has]; omega
theorem has_high {s : VS} {v : Int} (h : 128 < v) : has s v = false := by
  simp only [has, Bool.and_eq_false_iff]; right; exact BitVec.getLsbD_of_ge _ _ (by omega)
theorem has_range {s : VS} {v : Int} (h : has s v = true) : 1 ≤ v ∧ v ≤ 128 := by
  refine ⟨?_, ?_⟩
  · simp [has] at h; exact h.1
  · apply Classical.byContradiction; intro h'; rw [has_high (by omega)] at h; simp at h
theorem ext_has {a b : VS} (h : ∀ v, 1 ≤ v → v ≤ 128 → has a v = has b v) : a = b := by
  apply BitVec.eq_of_getLsbD_eq
  intro i hi
  have := h ((i : Int) + 1) (by omega) (by omega)
  simpa [has, show (1 : Int) ≤ i + 1 by omega] using this
theorem has_or (a b : VS) (v : Int) : has (a ||| b) v = (has a v || has b v) := by
  simp [has]; cases decide (1 ≤ v) <;> simp
theorem has_and (a b : VS) (v : Int) : has (a &&& b) v = (has a v && has b v) := by
  simp [has]; cases decide (1 ≤ v) <;> simp
theorem has_minus (a b : VS) (v : Int) : has (minus a b) v = (has a v && !has b v) := by
  by_cases h : 128 < v
  · simp [has_high h]
  · by_cases h1 : 1 ≤ v
    · simp [has, minus, h1, show v.toNat - 1 < 128 by omega]
    · simp [has, h1]
theorem has_zero (v : Int) : has 0 v = false := by simp [has]
theorem has_one (v u : Int) : has (one v) u = (decide (u = v) && decide (1 ≤ v) && decide (v ≤ 128)) := by
  unfold one
  split
  · rename_i h
    simp only [has, BitVec.getLsbD_twoPow]
    by_cases h1 : 1 ≤ u
    · by_cases h2 : u = v
      · subst h2; simp [h.1, h.2]; omega
      · simp [h1, h2]; omega
    · have : ¬ u = v := by omega
      simp [h1, this]
  · rename_i h
    have : ¬ (1 ≤ v ∧ v ≤ 128) := h
    rw [has_zero]
    by_cases h1 : 1 ≤ v
    · have : ¬ v ≤ 128 := by omega
      simp [this]
    · simp [h1]
theorem has_withV (s : VS) (v u : Int) : has (withV s v) u = (has s u || (decide (u = v) && decide (1 ≤ v) && decide (v ≤ 128))) := by
  rw [withV, has_or, has_one]
theorem has_withoutV (s : VS) (v u : Int) : has (withoutV s v) u = (has s u && !decide (u = v)) := by
  show has (minus s (one v)) u = _
  rw [has_minus, has_one]
  by_cases h : u = v
  · subst h
    cases hh : has s u
    · simp
    · have := has_range hh; simp [this.1, this.2]
  · simp [h]
theorem has_ofL_aux (l : List Int) (s : VS) (u : Int) : has (l.foldl withV s) u = (has s u || (decide (u ∈ l) && decide (1 ≤ u) && decide (u ≤ 128))) := by
  induction l generalizing s with
  | nil => simp
  | cons a l ih =>
    rw [List.foldl_cons, ih, has_withV, Bool.eq_iff_iff]
    by_cases h : u = a
    · subst h; simp; intro h2 h3 h4; exact Or.inr ⟨h3, h4⟩
    · simp [h]
theorem has_ofL (l : List Int) (u : Int) : has (ofL l) u = (decide (u ∈ l) && decide (1 ≤ u) && decide (u ≤ 128)) := by
  rw [ofL, has_ofL_aux, has_zero]; simp

/-- The set of what a predicate takes. -/
def ofP (p : Int → Bool) : VS := ofL (((List.range 128).map fun i : Nat => (i : Int) + 1).filter p)
theorem has_ofP (p : Int → Bool) (u : Int) : has (ofP p) u = (p u && decide (1 ≤ u) && decide (u ≤ 128)) := by
  rw [ofP, has_ofL, Bool.eq_iff_iff]
  simp only [Bool.and_eq_true, decide_eq_true_eq, List.mem_filter, List.mem_map, List.mem_range]
  constructor
  · rintro ⟨⟨⟨_, h⟩, h1⟩, h2⟩; exact ⟨⟨h, h1⟩, h2⟩
  · rintro ⟨⟨h, h1⟩, h2⟩; exact ⟨⟨⟨⟨(u - 1).toNat, by omega, by omega⟩, h⟩, h1⟩, h2⟩
def allV (n : Int) : VS := ofP fun v => decide (v ≤ n)
theorem has_allV (n u : Int) : has (allV n) u = (decide (u ≤ n) && decide (1 ≤ u) && decide (u ≤ 128)) := has_ofP _ _

/-- The members, ascending. -/
def mems (s : VS) : List Int := ((List.range 128).map fun i : Nat => (i : Int) + 1).filter (has s)
theorem mem_mems (s : VS) (v : Int) : v ∈ mems s ↔ has s v = true := by
  simp only [mems, List.mem_filter, List.mem_map, List.mem_range]
  constructor
  · exact fun h => h.2
  · intro h; have := has_range h; exact ⟨⟨(v - 1).toNat, by omega, by omega⟩, h⟩
theorem mems_sorted (s : VS) : (mems s).Pairwise (· < ·) := by
  apply List.Pairwise.filter
  rw [List.pairwise_map]
  exact (List.pairwise_lt_range).imp (fun h => by omega)
theorem ofL_mems (s : VS) : ofL (mems s) = s := by
  apply ext_has
  intro v h1 h2
  rw [has_ofL, Bool.eq_iff_iff]
  simp [mem_mems, h1, h2]
theorem mems_length (s : VS) : (mems s).length ≤ 128 := by
  have := List.length_filter_le (has s) ((List.range 128).map fun i : Nat => (i : Int) + 1)
  simpa [mems] using this
def len (s : VS) : Int := (mems s).length
def first (s : VS) : Int := (mems s).headD 0
def sub (a b : VS) : Bool := minus a b == 0
theorem sub_iff (a b : VS) : sub a b = true ↔ ∀ v, has a v = true → has b v = true := by
  unfold sub
  rw [beq_iff_eq]
  constructor
  · intro h v hv
    have : has (minus a b) v = false := by rw [h, has_zero]
    rw [has_minus, hv] at this
    simpa using this
  · intro h
    apply ext_has
    intro v _ _
    rw [has_minus, has_zero]
    cases ha : has a v
    · simp
    · simp [h v ha]
def less (a b : VS) : Bool := decide (0 < first (minus a b ||| minus b a)) && !has a (first (minus a b ||| minus b a))

theorem first_mem {s : VS} (h : s ≠ 0) : has s (first s) = true := by
  rw [← mem_mems]
  unfold first
  cases hm : mems s with
  | nil =>
    exfalso; apply h
    rw [← ofL_mems s, hm]; rfl
  | cons a l => simp
theorem first_zero : first 0 = 0 := by
  have : mems 0 = [] := by
    rw [List.eq_nil_iff_forall_not_mem]; intro v; rw [mem_mems, has_zero]; simp
  unfold first; rw [this]; rfl
theorem first_le {s : VS} {v : Int} (h : has s v = true) : first s ≤ v := by
  rw [← mem_mems] at h
  have hs := mems_sorted s
  unfold first
  cases hm : mems s with
  | nil => rw [hm] at h; simp at h
  | cons a l =>
    rw [hm] at h hs
    simp only [List.headD_cons]
    rcases List.mem_cons.1 h with rfl | h'
    · omega
    · have := (List.pairwise_cons.1 hs).1 v h'; omega
theorem first_pos {s : VS} (h : s ≠ 0) : 1 ≤ first s ∧ first s ≤ 128 := has_range (first_mem h)
theorem first_eq {s : VS} {v : Int} (h : has s v = true) (hl : ∀ u, 1 ≤ u → u < v → has s u = false) : first s = v := by
  have h1 := first_le h
  have hne : s ≠ 0 := by rintro rfl; rw [has_zero] at h; cases h
  have h2 := first_mem hne
  apply Classical.byContradiction
  intro hn
  rw [hl _ (first_pos hne).1 (by omega)] at h2
  cases h2
/-! ### halves of one -/
theorem one_bit {v : Int} (h1 : 1 ≤ v) (h2 : v ≤ 128) (i : Nat) (_h : i < 128) : (one v).getLsbD i = decide ((i : Int) + 1 = v) := by
  unfold one
  rw [if_pos ⟨h1, h2⟩, BitVec.getLsbD_twoPow, Bool.eq_iff_iff]
  simp only [Bool.and_eq_true, decide_eq_true_eq]
  omega
theorem lo_one_bv {v : Int} (h1 : 1 ≤ v) (h2 : v ≤ 64) : lw (one v) = BitVec.twoPow 64 (v - 1).toNat := by
  apply BitVec.eq_of_getLsbD_eq
  intro i h
  rw [lo_bit, one_bit h1 (by omega) _ (by omega), BitVec.getLsbD_twoPow, Bool.eq_iff_iff]
  simp only [Bool.and_eq_true, decide_eq_true_eq]
  omega
theorem hi_one_bv {v : Int} (h1 : 65 ≤ v) (h2 : v ≤ 128) : hw (one v) = BitVec.twoPow 64 (v - 65).toNat := by
  apply BitVec.eq_of_getLsbD_eq
  intro i h
  rw [hi_bit, one_bit (by omega) h2 _ (by omega), BitVec.getLsbD_twoPow, Bool.eq_iff_iff]
  simp only [Bool.and_eq_true, decide_eq_true_eq]
  omega
theorem lo_one {v : Int} (h1 : 1 ≤ v) (h2 : v ≤ 64) : (((lw (one v)).toNat : Nat) : Int) = IntKind.u64.wrap (2 ^ ((v - 1) % 64).toNat) := by
  have e : (v - 1) % 64 = v - 1 := by omega
  rw [e, ← wrap_u64_bv]
  congr 1
  rw [lo_one_bv h1 h2, BitVec.toNat_twoPow, Nat.mod_eq_of_lt (Nat.pow_lt_pow_right (by omega) (by omega))]
  push_cast
  rfl
theorem hi_one {v : Int} (h1 : 65 ≤ v) (h2 : v ≤ 128) : (((hw (one v)).toNat : Nat) : Int) = IntKind.u64.wrap (2 ^ ((v - 1) % 64).toNat) := by
  have e : (v - 1) % 64 = v - 65 := by omega
  rw [e, ← wrap_u64_bv]
  congr 1
  rw [hi_one_bv h1 h2, BitVec.toNat_twoPow, Nat.mod_eq_of_lt (Nat.pow_lt_pow_right (by omega) (by omega))]
  push_cast
  rfl
theorem hi_one_low {v : Int} (h2 : v ≤ 64) : hw (one v) = 0 := by
  apply BitVec.eq_of_getLsbD_eq
  intro i h
  rw [hi_bit]
  by_cases h1 : 1 ≤ v
  · rw [one_bit h1 (by omega) _ (by omega)]; simp; omega
  · simp [one, h1]
theorem lo_one_high {v : Int} (h1 : 65 ≤ v) : lw (one v) = 0 := by
  apply BitVec.eq_of_getLsbD_eq
  intro i h
  rw [lo_bit]
  by_cases h2 : v ≤ 128
  · rw [one_bit (by omega) h2 _ (by omega)]; simp; omega
  · simp [one, h2]
theorem withV_no {s : VS} {v : Int} (h : v < 1 ∨ 128 < v) : withV s v = s := by
  have : one v = 0 := by unfold one; rw [if_neg (by omega)]
  rw [withV, this]; simp
theorem withoutV_no {s : VS} {v : Int} (h : v < 1 ∨ 128 < v) : withoutV s v = s := by
  apply ext_has; intro u h1 h2; rw [has_withoutV]; simp; intro h3; omega
theorem lo_withV {s : VS} {v : Int} : lw (withV s v) = or64 (lw s) (lw (one v)) := lo_or _ _
theorem hi_withV {s : VS} {v : Int} : hw (withV s v) = or64 (hw s) (hw (one v)) := hi_or _ _

theorem lo_withoutV {s : VS} {v : Int} : lw (withoutV s v) = andn64 (lw s) (lw (one v)) := lo_minus _ _
theorem hi_withoutV {s : VS} {v : Int} : hw (withoutV s v) = andn64 (hw s) (hw (one v)) := hi_minus _ _
theorem bv_ne_zero (a : BitVec 64) (i : Nat) (hi : i < 64) : (((and64 a (BitVec.twoPow 64 i)).toNat : Int) != 0) = a.getLsbD i := by
  unfold and64
  rw [BitVec.and_twoPow]
  cases h : a.getLsbD i
  · simp
  · have : (BitVec.twoPow 64 i).toNat ≠ 0 := by
      rw [BitVec.toNat_twoPow, Nat.mod_eq_of_lt (Nat.pow_lt_pow_right (by omega) (by omega))]
      exact Nat.ne_of_gt (Nat.two_pow_pos i)
    simp only [if_pos, bne_iff_ne, ne_eq]; omega
theorem has_lo {s : VS} {v : Int} (h1 : 1 ≤ v) (h2 : v ≤ 64) : has s v = (((and64 (lw s) (lw (one v))).toNat : Int) != 0) := by
  rw [lo_one_bv h1 h2, bv_ne_zero _ _ (by omega), lo_bit]
  simp [has, h1, show v.toNat - 1 < 64 by omega]
theorem has_hi {s : VS} {v : Int} (h1 : 65 ≤ v) (h2 : v ≤ 128) : has s v = (((and64 (hw s) (hw (one v))).toNat : Int) != 0) := by
  rw [hi_one_bv h1 h2, bv_ne_zero _ _ (by omega), hi_bit]
  rw [show 64 + (v - 65).toNat = (v - 1).toNat by omega]
  simp [has, show 1 ≤ v by omega]; intro _; omega
end Go.Proofs.YtpdbfbjfodckgaaDoor
