/- Plain mathematics of files: what is changed, shorter or longer is no file. -/
import Derived.Test.YtkfmblpcfgdgpaaFCode4
namespace Go.Proofs.Ytkfmblpcfgdgpaa

theorem le32_inj {a b : BitVec 32} (h : le32 a = le32 b) : a = b := by
  have t : ∀ n, n < 256 → (UInt8.ofNat n).toNat = n := fun n hn => toNat_ofNat hn
  unfold le32 at h
  simp only [List.cons.injEq, and_true] at h
  obtain ⟨h0, h1, h2, h3⟩ := h
  have g0 := congrArg UInt8.toNat h0
  have g1 := congrArg UInt8.toNat h1
  have g2 := congrArg UInt8.toNat h2
  have g3 := congrArg UInt8.toNat h3
  rw [t _ (by omega), t _ (by omega)] at g0 g1 g2 g3
  apply BitVec.eq_of_toNat_eq
  have := a.isLt
  have := b.isLt
  omega
theorem ins_small {x : NetT} (hv : validNet x = true) (hl : (encodeOf x).length ≤ maxFile) : ∀ y ∈ x.l, y.ins.length ≤ 16777216 := by
  intro y hy
  have h1 := encFrom_ins x.l 0 x.n (valid_from.1 hv).2 y hy
  have h2 : (encFrom 0 x.l).length ≤ (bodyOf x).length := by unfold bodyOf; simp
  have h3 : (encodeOf x).length = (bodyOf x).length + 4 := sealOf_length _
  have : maxFile = 16777216 := rfl
  omega
theorem encode_prefix {x y : NetT} {r : List UInt8} (hx : validNet x = true) (hy : validNet y = true) (lx : (encodeOf x).length ≤ maxFile) (ly : (encodeOf y).length ≤ maxFile) (h : encodeOf x ++ r = encodeOf y) : r = [] := by
  cases r with
  | nil => rfl
  | cons a r =>
    exfalso
    have e1 : (encodeOf x).length = (bodyOf x).length + 4 := sealOf_length _
    have e2 : (encodeOf y).length = (bodyOf y).length + 4 := sealOf_length _
    have hlen := congrArg List.length h
    rw [List.length_append, List.length_cons] at hlen
    have hb : bodyOf y = bodyOf x ++ (le32 (crc (bodyOf x)) ++ a :: r).take ((bodyOf y).length - (bodyOf x).length) := by
      have h1 : (encodeOf y).take (bodyOf y).length = bodyOf y := by unfold encodeOf sealOf; exact List.take_left
      have h2 : bodyOf y = (encodeOf x ++ a :: r).take (bodyOf y).length := by rw [h]; exact h1.symm
      refine h2.trans ?_
      unfold encodeOf sealOf
      rw [List.append_assoc, List.take_append, List.take_of_length_le (by omega)]
    have hr : 0 < ((le32 (crc (bodyOf x)) ++ a :: r).take ((bodyOf y).length - (bodyOf x).length)).length := by
      rw [List.length_take, List.length_append, le32_length]; simp; omega
    generalize (le32 (crc (bodyOf x)) ++ a :: r).take ((bodyOf y).length - (bodyOf x).length) = r2 at hb hr
    have h4 : 4 ≤ (bodyOf x).length := by have := bodyOf_length (x := x) (valid_from.1 hx).1.2.2.1; omega
    have hd : (bodyOf y).drop 4 = encNum x.n.toNat ++ (encNum x.l.length ++ (encFrom 0 x.l ++ r2)) := by
      rw [hb, List.drop_append_of_le_length h4, bodyOf_drop]
      simp
    have q1 := rdNet_enc hx (ins_small hx lx) r2
    have q2 := rdNet_enc hy (ins_small hy ly) []
    rw [← bodyOf_drop, hd, q1] at q2
    injection q2 with q2
    injection q2 with _ q3
    rw [q3] at hr
    simp at hr
theorem damage_byte {x : NetT} (_hv : validNet x = true) (_hl : (encodeOf x).length ≤ maxFile) {i : Nat} (hi : i < (encodeOf x).length) {b : UInt8} (hb : b ≠ (encodeOf x)[i]) : decNo ((encodeOf x).set i b) ≠ 0 := by
  intro h0
  obtain ⟨hy, he, hly⟩ := dec_iff.1 ⟨h0, rfl⟩
  generalize decNet ((encodeOf x).set i b) = y at *
  have e1 : (encodeOf x).length = (bodyOf x).length + 4 := sealOf_length _
  have e2 : (encodeOf y).length = (bodyOf y).length + 4 := sealOf_length _
  have hlen := congrArg List.length he
  rw [List.length_set] at hlen
  have hm : (bodyOf x).length = (bodyOf y).length := by omega
  have tx : (encodeOf x).take (bodyOf x).length = bodyOf x := by unfold encodeOf sealOf; exact List.take_left
  have ty : (encodeOf y).take (bodyOf y).length = bodyOf y := by unfold encodeOf sealOf; exact List.take_left
  have dx : (encodeOf x).drop (bodyOf x).length = le32 (crc (bodyOf x)) := by unfold encodeOf sealOf; exact List.drop_left
  have dy : (encodeOf y).drop (bodyOf y).length = le32 (crc (bodyOf y)) := by unfold encodeOf sealOf; exact List.drop_left
  by_cases hlt : i < (bodyOf x).length
  · have hby : bodyOf y = (bodyOf x).set i b := by
      rw [← ty, ← he, ← hm, List.take_set, tx]
    have hcr : le32 (crc (bodyOf x)) = le32 (crc (bodyOf y)) := by
      rw [← dy, ← he, ← hm, List.drop_set, if_pos hlt, dx]
    have hcr := le32_inj hcr
    have hbi : (encodeOf x)[i] = (bodyOf x)[i] := by
      have h1 : (encodeOf x)[i]? = (bodyOf x)[i]? := by
        unfold encodeOf sealOf; rw [List.getElem?_append_left hlt]
      rw [List.getElem?_eq_getElem hi, List.getElem?_eq_getElem hlt] at h1
      exact Option.some.inj h1
    rw [hby, List.set_eq_take_append_cons_drop, if_pos hlt] at hcr
    have hsplit : bodyOf x = (bodyOf x).take i ++ (bodyOf x)[i] :: (bodyOf x).drop (i + 1) := by
      rw [← List.drop_eq_getElem_cons hlt, List.take_append_drop]
    have := crc_change ((bodyOf x).take i) ((bodyOf x).drop (i + 1)) (bodyOf x)[i] b (by rw [← hbi]; exact hb.symm)
    rw [← hsplit] at this
    exact this hcr
  · have hby : bodyOf y = bodyOf x := by
      rw [← ty, ← he, ← hm, List.take_set, List.set_eq_of_length_le (by simp; omega), tx]
    have hxy : encodeOf x = encodeOf y := by unfold encodeOf; rw [hby]
    have := congrArg (fun l => l[i]?) he
    rw [← hxy] at this
    simp only [List.getElem?_set_self hi, List.getElem?_eq_getElem hi, Option.some.injEq] at this
    exact hb this
theorem damage_short {x : NetT} (hv : validNet x = true) (hl : (encodeOf x).length ≤ maxFile) {i : Nat} (hi : i < (encodeOf x).length) : decNo ((encodeOf x).take i) ≠ 0 := by
  intro h0
  obtain ⟨hy, he, hly⟩ := dec_iff.1 ⟨h0, rfl⟩
  generalize decNet ((encodeOf x).take i) = y at *
  have := encode_prefix (x := y) (y := x) (r := (encodeOf x).drop i) hy hv (by rw [← he]; exact hly) hl (by rw [← he, List.take_append_drop])
  have := congrArg List.length this
  simp at this; omega
theorem damage_long {x : NetT} (hv : validNet x = true) (hl : (encodeOf x).length ≤ maxFile) {m : List UInt8} (hm : m ≠ []) : decNo (encodeOf x ++ m) ≠ 0 := by
  intro h0
  obtain ⟨hy, he, hly⟩ := dec_iff.1 ⟨h0, rfl⟩
  generalize decNet (encodeOf x ++ m) = y at *
  exact hm (encode_prefix hv hy hl (by rw [← he]; exact hly) he)
end Go.Proofs.Ytkfmblpcfgdgpaa
