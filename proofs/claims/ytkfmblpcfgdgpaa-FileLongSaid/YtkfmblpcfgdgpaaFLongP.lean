/- Plain: the net of the law FileLong. -/
import Derived.Test.YtkfmblpcfgdgpaaFCode4
import Derived.Test.YtkfmblpcfgdgpaaFStr
namespace Go.Proofs.Ytkfmblpcfgdgpaa

def zs (n : Nat) : List Int := List.replicate n 0
theorem zs_length (n : Nat) : (zs n).length = n := List.length_replicate
def orN (n : Nat) : NodeT := ⟨4, 0, zs n⟩
def litN : NodeT := ⟨2, 1, []⟩
def wideL (N k : Nat) : List NodeT := litN :: List.replicate k (orN N)
theorem wideL_length (N k : Nat) : (wideL N k).length = k + 1 := by simp [wideL]
theorem wideL_succ (N k : Nat) : wideL N (k + 1) = wideL N k ++ [orN N] := by simp [wideL, List.replicate_succ']
theorem badIn_zs (n : Nat) {b : Int} (h : 0 < b) : badIn (zs n) b = false := by
  unfold badIn zs
  rw [List.any_eq_false]
  intro x hx
  obtain rfl := (List.mem_replicate.1 hx).2
  simp; omega
theorem formed_or (n : Nat) {b : Int} (h : 0 < b) : formed (orN n) 1 b = true := by
  unfold formed orN
  simp [badIn_zs n h]
theorem formed_replicate (n : Nat) : ∀ (k i : Nat) (r : List NodeT), 0 < i → formedFrom 1 (i + k) r → formedFrom 1 i (List.replicate k (orN n) ++ r)
  | 0, i, r, _, hr => by simpa using hr
  | k + 1, i, r, h, hr => by
    rw [List.replicate_succ, List.cons_append]
    exact ⟨formed_or n (by omega), formed_replicate n k (i + 1) r (by omega) (by rw [show i + 1 + k = i + (k + 1) by omega]; exact hr)⟩
theorem litN_formed : formed litN 1 ((0 : Nat) : Int) = true := by decide +kernel
theorem encIns_zs (i : Nat) : ∀ n, (encIns i (zs n)).length = n * (encNum i).length
  | 0 => by simp [zs, encIns]
  | n + 1 => by
    have ih := encIns_zs i n
    unfold zs at ih ⊢
    rw [List.replicate_succ, encIns, List.length_append, ih, Int.sub_zero, Int.toNat_natCast, Nat.add_mul]
    omega
theorem encNode_or (n i : Nat) : (encNode i (orN n)).length = 1 + (encNum n).length + n * (encNum i).length := by
  unfold encNode orN
  have e : (encNum (4 : Int).toNat).length = 1 := by decide +kernel
  simp only [List.length_append, e]
  rw [if_neg (by decide), if_pos (by decide), List.length_append, encIns_zs, zs_length]
  omega
theorem encNum1 {i : Nat} (h : i < 128) : (encNum i).length = 1 := by rw [encNum_lt h]; rfl
theorem encFrom_or (n : Nat) : ∀ (k i : Nat) (r : List NodeT), i + k ≤ 128 → (encFrom i (List.replicate k (orN n) ++ r)).length = k * (1 + (encNum n).length + n) + (encFrom (i + k) r).length
  | 0, i, r, _ => by simp
  | k + 1, i, r, h => by
    rw [List.replicate_succ, List.cons_append, encFrom, List.length_append, encNode_or, encNum1 (i := i) (by omega), encFrom_or n k (i + 1) r (by omega), show i + 1 + k = i + (k + 1) by omega, Nat.add_mul]
    omega
theorem encNode_lit : (encNode 0 litN).length = 2 := by decide +kernel
theorem encode_length (x : NetT) : (encodeOf x).length = 4 + (encNum x.n.toNat).length + (encNum x.l.length).length + (encFrom 0 x.l).length + 4 := by
  unfold encodeOf
  rw [sealOf_length]
  unfold bodyOf headOf
  simp only [List.length_append]
  have : magic.length = 4 := rfl
  omega
theorem num132000 : (encNum 132000).length = 3 := by decide +kernel
theorem num7000 : (encNum 7000).length = 2 := by decide +kernel
theorem num128 : (encNum 128).length = 2 := by decide +kernel
theorem num129 : (encNum 129).length = 2 := by decide +kernel
theorem wide_valid (N k : Nat) (r : List NodeT) (hr : formedFrom 1 (1 + k) r) (hk : k + r.length ≤ 65535) : validNet ⟨1, wideL N k ++ r⟩ = true := by
  refine valid_from.2 ⟨⟨by show (0 : Int) ≤ 1; omega, by show (1 : Int) ≤ 128; omega, ?_, ?_⟩, ?_⟩
  · show 1 ≤ (wideL N k ++ r).length
    rw [List.length_append, wideL_length]; omega
  · show (wideL N k ++ r).length ≤ 65536
    rw [List.length_append, wideL_length]; omega
  · show formedFrom 1 0 (wideL N k ++ r)
    unfold wideL
    rw [List.cons_append]
    exact ⟨litN_formed, formed_replicate N k 1 r (by omega) hr⟩
theorem wide_from (N k : Nat) (hN : (encNum N).length = 3) (r : List NodeT) (h : 1 + k ≤ 128) : (encFrom 0 (wideL N k ++ r)).length = 2 + k * (4 + N) + (encFrom (1 + k) r).length := by
  unfold wideL
  rw [List.cons_append, encFrom, List.length_append, encNode_lit, show (0 : Nat) + 1 = 1 from rfl, encFrom_or _ _ _ _ (by omega), hN, show 1 + 3 + N = 4 + N by omega]
  omega
theorem num1 : (encNum (1 : Int).toNat).length = 1 := encNum1 (by decide)
theorem wide_good (N k : Nat) (hN : N = 132000) (hk : k = 127) : encNo ⟨1, wideL N k⟩ = 0 ∧ (encBytes ⟨1, wideL N k⟩).length = 16764521 := by
  have h3 : (encNum N).length = 3 := by rw [hN]; exact num132000
  have hv := wide_valid N k [] trivial (by simp; omega)
  have hl := wide_from N k h3 [] (by omega)
  rw [List.append_nil] at hv hl
  have hw : (wideL N k).length = 128 := by rw [wideL_length]; omega
  have he : (encodeOf ⟨1, wideL N k⟩).length = 16764521 := by
    rw [encode_length, num1]
    show 4 + 1 + (encNum (wideL N k).length).length + (encFrom 0 (wideL N k)).length + 4 = 16764521
    rw [hl, hw, num128]
    simp only [encFrom, List.length_nil]
    subst hN; subst hk; rfl
  have h0 : encNo ⟨1, wideL N k⟩ = 0 := encNo_zero.2 ⟨hv, by rw [he]; decide⟩
  exact ⟨h0, by unfold encBytes; rw [if_pos h0, he]⟩
theorem wide_long (N k M : Nat) (hN : N = 132000) (hk : k = 127) (hM : M = 7000) : encNo ⟨1, wideL N k ++ [orN M]⟩ = 2 := by
  have h3 : (encNum N).length = 3 := by rw [hN]; exact num132000
  have h2 : (encNum M).length = 2 := by rw [hM]; exact num7000
  have hv := wide_valid N k [orN M] ⟨formed_or M (by omega), trivial⟩ (by simp; omega)
  have hl := wide_from N k h3 [orN M] (by omega)
  have hw : (wideL N k ++ [orN M]).length = 129 := by rw [List.length_append, wideL_length]; simp; omega
  have hf : (encFrom (1 + k) [orN M]).length = 1 + 2 + M * 2 := by
    rw [encFrom, List.length_append, encNode_or, h2, show 1 + k = 128 by omega, num128]
    simp only [encFrom, List.length_nil]
    omega
  have he : (encodeOf ⟨1, wideL N k ++ [orN M]⟩).length = 16778524 := by
    rw [encode_length, num1]
    show 4 + 1 + (encNum (wideL N k ++ [orN M]).length).length + (encFrom 0 (wideL N k ++ [orN M])).length + 4 = 16778524
    rw [hl, hw, num129, hf]
    subst hN; subst hk; subst hM; rfl
  unfold encNo
  rw [if_pos hv, if_pos (by rw [he]; decide)]
end Go.Proofs.Ytkfmblpcfgdgpaa
