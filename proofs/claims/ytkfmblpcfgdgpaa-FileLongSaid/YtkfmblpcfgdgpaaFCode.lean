/- Plain mathematics of files: numbers as bytes, nodes as bytes, and their readers. -/
import Derived.Test.YtkfmblpcfgdgpaaNPlain
import Derived.Test.YtkfmblpcfgdgpaaFPlain
namespace Go.Proofs.Ytkfmblpcfgdgpaa

/-- The form of a number. -/
def encNum (n : Nat) : List UInt8 := if n < 128 then [UInt8.ofNat n] else UInt8.ofNat (n % 128 + 128) :: encNum (n / 128)
termination_by n
decreasing_by omega
theorem encNum_lt {n : Nat} (h : n < 128) : encNum n = [UInt8.ofNat n] := by rw [encNum, if_pos h]
theorem encNum_ge {n : Nat} (h : ¬ n < 128) : encNum n = UInt8.ofNat (n % 128 + 128) :: encNum (n / 128) := by rw [encNum, if_neg h]
theorem encNum_pos (n : Nat) : 0 < (encNum n).length := by
  rw [encNum]; split <;> simp
/-- The reader of a number: behind k bytes, with v read. -/
def rd (most : Nat) : Nat → Nat → List UInt8 → Option (Nat × List UInt8)
  | _, _, [] => none
  | k, v, c :: r =>
    if 4 < k then none
    else if c.toNat < 128 then (if (c.toNat = 0 ∧ 0 < k) ∨ most < v + c.toNat % 128 * 128 ^ k then none else some (v + c.toNat % 128 * 128 ^ k, r))
    else rd most (k + 1) (v + c.toNat % 128 * 128 ^ k) r
theorem toNat_ofNat {n : Nat} (h : n < 256) : (UInt8.ofNat n).toNat = n := by simp; omega
/-- How many bytes a number has. -/
theorem encNum_len {n j : Nat} (h : n < 128 ^ (j + 1)) : (encNum n).length ≤ j + 1 := by
  induction j generalizing n with
  | zero => rw [encNum_lt (by simpa using h)]; simp
  | succ j ih =>
    by_cases hn : n < 128
    · rw [encNum_lt hn]; simp
    · rw [encNum_ge hn]
      have : n / 128 < 128 ^ (j + 1) := by
        rw [Nat.div_lt_iff_lt_mul (by omega)]; rw [Nat.pow_succ] at h; exact h
      have := ih this
      simp; omega
theorem rd_enc (most : Nat) (m : Nat) : ∀ (k v : Nat) (r : List UInt8), k + (encNum m).length ≤ 5 → v + m * 128 ^ k ≤ most → (k = 0 ∨ m ≠ 0) → rd most k v (encNum m ++ r) = some (v + m * 128 ^ k, r) := by
  induction m using Nat.strongRecOn with
  | _ m ih =>
    intro k v r hk hm h0
    by_cases h : m < 128
    · rw [encNum_lt h] at hk ⊢
      simp only [List.length_singleton] at hk
      show rd most k v (UInt8.ofNat m :: r) = _
      rw [rd, toNat_ofNat (by omega), if_neg (by omega), if_pos h, Nat.mod_eq_of_lt h, if_neg (by omega)]
    · rw [encNum_ge h] at hk ⊢
      simp only [List.length_cons] at hk
      have hp := encNum_pos (m / 128)
      show rd most k v (UInt8.ofNat (m % 128 + 128) :: (encNum (m / 128) ++ r)) = _
      rw [rd, toNat_ofNat (by omega), if_neg (by omega), if_neg (by omega), show (m % 128 + 128) % 128 = m % 128 by omega]
      have e : v + m % 128 * 128 ^ k + m / 128 * 128 ^ (k + 1) = v + m * 128 ^ k := by
        rw [Nat.pow_succ, Nat.add_assoc, show m / 128 * (128 ^ k * 128) = (m / 128 * 128) * 128 ^ k by rw [Nat.mul_comm (128 ^ k), Nat.mul_assoc], ← Nat.add_mul]
        congr 2; omega
      rw [ih (m / 128) (by omega) (k + 1) _ r (by omega) (by rw [e]; exact hm) (.inr (by omega)), e]
theorem enc_rd (most : Nat) (l : List UInt8) : ∀ (k v n : Nat) (r : List UInt8), rd most k v l = some (n, r) → ∃ m, l = encNum m ++ r ∧ n = v + m * 128 ^ k ∧ n ≤ most ∧ (k = 0 ∨ m ≠ 0) ∧ k + (encNum m).length ≤ 5 := by
  induction l with
  | nil => intro k v n r h; cases h
  | cons c l ih =>
    intro k v n r h
    rw [rd] at h
    by_cases hk : 4 < k
    · rw [if_pos hk] at h; cases h
    · rw [if_neg hk] at h
      have hc : c.toNat < 256 := c.toNat_lt
      by_cases h1 : c.toNat < 128
      · rw [if_pos h1] at h
        by_cases h2 : (c.toNat = 0 ∧ 0 < k) ∨ most < v + c.toNat % 128 * 128 ^ k
        · rw [if_pos h2] at h; cases h
        · rw [if_neg h2] at h
          injection h with h
          injection h with h3 h4
          subst h4
          refine ⟨c.toNat, ?_, ?_, by omega, by omega, ?_⟩
          · rw [encNum_lt h1]; simp
          · rw [← h3, Nat.mod_eq_of_lt h1]
          · rw [encNum_lt h1]; simp; omega
      · rw [if_neg h1] at h
        obtain ⟨m, rfl, hn, hm, h0, h5⟩ := ih _ _ _ _ h
        have hm0 : m ≠ 0 := by rcases h0 with h0 | h0; omega; exact h0
        have hge : ¬ c.toNat % 128 + m * 128 < 128 := by omega
        have hd : (c.toNat % 128 + m * 128) / 128 = m := by omega
        refine ⟨c.toNat % 128 + m * 128, ?_, ?_, hm, .inr (by omega), ?_⟩
        · rw [encNum_ge hge, hd, show (c.toNat % 128 + m * 128) % 128 + 128 = c.toNat by omega]; simp
        · rw [hn, Nat.pow_succ, Nat.add_mul, Nat.add_assoc, show m * (128 ^ k * 128) = m * 128 * 128 ^ k by rw [Nat.mul_comm (128 ^ k), Nat.mul_assoc]]
        · rw [encNum_ge hge, hd]; simp; omega
end Go.Proofs.Ytkfmblpcfgdgpaa
