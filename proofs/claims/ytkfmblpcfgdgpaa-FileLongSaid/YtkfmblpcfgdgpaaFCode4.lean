/- Plain mathematics of files: what is accepted is what is written. -/
import Derived.Test.YtkfmblpcfgdgpaaFCode3
namespace Go.Proofs.Ytkfmblpcfgdgpaa

def maxFile : Nat := 16777216
def encodeOf (x : NetT) : List UInt8 := sealOf (bodyOf x)
theorem le32_length (s : BitVec 32) : (le32 s).length = 4 := rfl
theorem sealOf_length (b : List UInt8) : (sealOf b).length = b.length + 4 := by simp [sealOf, le32_length]
theorem sealOf_take (b : List UInt8) : (sealOf b).take ((sealOf b).length - 4) = b := by
  rw [sealOf_length, Nat.add_sub_cancel, sealOf, List.take_left]
theorem encNode_pos (i : Nat) (x : NodeT) : 0 < (encNode i x).length := by
  have := encNum_pos x.kind.toNat
  simp [encNode]; omega
theorem bodyOf_take (x : NetT) : (bodyOf x).take 4 = magic := by
  unfold bodyOf headOf; rw [List.append_assoc]; exact List.take_left' rfl
theorem bodyOf_drop (x : NetT) : (bodyOf x).drop 4 = encNum x.n.toNat ++ (encNum x.l.length ++ (encFrom 0 x.l ++ [])) := by
  unfold bodyOf headOf
  rw [List.append_assoc, show (4 : Nat) = magic.length from rfl, List.drop_left]
  simp
theorem encFrom_ins (L : List NodeT) : ∀ (i : Nat) (n : Int), formedFrom n i L → ∀ y ∈ L, y.ins.length ≤ (encFrom i L).length := by
  induction L with
  | nil => intro i n _ y hy; cases hy
  | cons x L ih =>
    intro i n hf y hy
    rw [encFrom, List.length_append]
    rcases List.mem_cons.1 hy with rfl | hy
    · obtain ⟨_, h | h | h⟩ := formed_parts hf.1
      · rw [h.2.2]; simp
      · rw [h.2.2]; simp
      · have : y.ins.length ≤ (encNode i y).length := by
          unfold encNode
          rw [if_neg (by omega), if_pos h.1]
          have := encIns_length i y.ins
          simp; omega
        omega
    · have := ih (i + 1) n hf.2 y hy
      omega
theorem bodyOf_length {x : NetT} (h : 1 ≤ x.l.length) : 7 ≤ (bodyOf x).length := by
  obtain ⟨n, l⟩ := x
  cases l with
  | nil => simp at h
  | cons y l =>
    have h1 := encNum_pos n.toNat
    have h2 := encNum_pos (y :: l).length
    have h3 := encNode_pos 0 y
    unfold bodyOf headOf magic
    simp only [encFrom, List.length_append, List.length_cons, List.length_nil] at *
    omega
def noNet : NetT := ⟨0, []⟩
/-- The error of bytes that cannot be a file: 0, long or form. -/
def beginsNo (b : List UInt8) : Int := if maxFile < b.length then 2 else if b.length < 11 ∨ b.take 4 ≠ magic then 5 else 0
/-- What is read behind a good check sum. -/
def bodyRes (body : List UInt8) : Option NetT :=
  match rdNet (body.drop 4) with
  | some (x, []) => if validNet x = true then some x else none
  | _ => none
theorem bodyRes_to {body : List UInt8} {x : NetT} (hm : body.take 4 = magic) (h : bodyRes body = some x) : validNet x = true ∧ body = bodyOf x := by
  unfold bodyRes at h
  cases hr : rdNet (body.drop 4) with
  | none => rw [hr] at h; cases h
  | some p =>
    obtain ⟨y, r⟩ := p
    rw [hr] at h
    cases r with
    | cons a r => cases h
    | nil =>
      simp only [] at h
      by_cases hv : validNet y = true
      · rw [if_pos hv] at h
        injection h with h
        subst h
        refine ⟨hv, ?_⟩
        have := (net_rd hr).2.2.2 hv
        rw [← List.take_append_drop 4 body, hm, this]
        unfold bodyOf headOf
        simp
      · rw [if_neg hv] at h; cases h
theorem bodyRes_of {x : NetT} (hv : validNet x = true) (hl : (bodyOf x).length ≤ maxFile) : bodyRes (bodyOf x) = some x := by
  unfold bodyRes
  rw [bodyOf_drop, rdNet_enc hv]
  · simp [hv]
  · intro y hy
    have h1 := encFrom_ins x.l 0 x.n (valid_from.1 hv).2 y hy
    have h2 : (encFrom 0 x.l).length ≤ (bodyOf x).length := by unfold bodyOf; simp
    have : maxFile = 16777216 := rfl
    omega
/-- What Decode hands back: the error and the net. -/
def decNo (b : List UInt8) : Int := if beginsNo b ≠ 0 then beginsNo b else if sealOf (b.take (b.length - 4)) ≠ b then 430 else match bodyRes (b.take (b.length - 4)) with
  | some _ => 0
  | none => 5
def decNet (b : List UInt8) : NetT := if decNo b = 0 then (bodyRes (b.take (b.length - 4))).getD noNet else noNet
theorem beginsNo_zero {b : List UInt8} : beginsNo b = 0 ↔ b.length ≤ maxFile ∧ 11 ≤ b.length ∧ b.take 4 = magic := by
  unfold beginsNo
  by_cases h1 : maxFile < b.length
  · rw [if_pos h1]; omega
  · rw [if_neg h1]
    by_cases h2 : b.length < 11 ∨ b.take 4 ≠ magic
    · rw [if_pos h2]
      constructor
      · intro h; omega
      · rintro ⟨_, h4, h5⟩
        rcases h2 with h2 | h2
        · omega
        · exact absurd h5 h2
    · rw [if_neg h2]
      simp only [not_or, Decidable.not_not] at h2
      simp [h2.2]; omega
/-- What Decode accepts is what Encode writes. -/
theorem dec_iff {b : List UInt8} {x : NetT} : (decNo b = 0 ∧ decNet b = x) ↔ (validNet x = true ∧ b = encodeOf x ∧ b.length ≤ maxFile) := by
  constructor
  · rintro ⟨h0, hx⟩
    unfold decNet at hx
    rw [if_pos h0] at hx
    unfold decNo at h0
    by_cases h1 : beginsNo b ≠ 0
    · rw [if_pos h1] at h0; exact absurd h0 h1
    · rw [if_neg h1] at h0
      simp only [Decidable.not_not] at h1
      obtain ⟨b1, b2, b3⟩ := beginsNo_zero.1 h1
      by_cases h2 : sealOf (b.take (b.length - 4)) ≠ b
      · rw [if_pos h2] at h0; omega
      · rw [if_neg h2] at h0
        simp only [Decidable.not_not] at h2
        cases h3 : bodyRes (b.take (b.length - 4)) with
        | none => rw [h3] at h0; simp at h0
        | some y =>
          rw [h3] at hx
          simp only [Option.getD_some] at hx
          subst hx
          have hm : (b.take (b.length - 4)).take 4 = magic := by
            rw [List.take_take, show min 4 (b.length - 4) = 4 by omega]; exact b3
          obtain ⟨e1, e2⟩ := bodyRes_to hm h3
          refine ⟨e1, ?_, b1⟩
          unfold encodeOf
          rw [← e2]; exact h2.symm
  · rintro ⟨hv, rfl, hl⟩
    have ht : (encodeOf x).take ((encodeOf x).length - 4) = bodyOf x := sealOf_take _
    have hlen : (encodeOf x).length = (bodyOf x).length + 4 := sealOf_length _
    have h7 := bodyOf_length (x := x) (valid_from.1 hv).1.2.2.1
    have hb : beginsNo (encodeOf x) = 0 := by
      refine beginsNo_zero.2 ⟨hl, by omega, ?_⟩
      rw [← bodyOf_take x, ← ht, List.take_take, show min 4 ((encodeOf x).length - 4) = 4 by omega]
    have hr := bodyRes_of hv (by omega)
    have h0 : decNo (encodeOf x) = 0 := by
      unfold decNo
      rw [if_neg (by rw [hb]; simp), ht, if_neg (by simp [encodeOf]), hr]
    refine ⟨h0, ?_⟩
    unfold decNet
    rw [if_pos h0, ht, hr]; rfl
/-- What Encode hands back: the error and the bytes. -/
def encNo (x : NetT) : Int := if validNet x = true then (if maxFile < (encodeOf x).length then 2 else 0) else 1
def encBytes (x : NetT) : List UInt8 := if encNo x = 0 then encodeOf x else []
theorem encNo_zero {x : NetT} : encNo x = 0 ↔ validNet x = true ∧ (encodeOf x).length ≤ maxFile := by
  unfold encNo
  by_cases h : validNet x = true
  · rw [if_pos h]
    by_cases h2 : maxFile < (encodeOf x).length
    · rw [if_pos h2]; omega
    · rw [if_neg h2]; simp [h]; omega
  · rw [if_neg h]; simp [h]
theorem dec_enc {x : NetT} (h : encNo x = 0) : decNo (encBytes x) = 0 ∧ decNet (encBytes x) = x := by
  obtain ⟨h1, h2⟩ := encNo_zero.1 h
  have : encBytes x = encodeOf x := by unfold encBytes; rw [if_pos h]
  rw [this]
  exact dec_iff.2 ⟨h1, rfl, h2⟩
theorem enc_dec {b : List UInt8} (h : decNo b = 0) : encNo (decNet b) = 0 ∧ encBytes (decNet b) = b := by
  obtain ⟨h1, h2, h3⟩ := dec_iff.1 ⟨h, rfl⟩
  have h0 : encNo (decNet b) = 0 := encNo_zero.2 ⟨h1, by rw [← h2]; exact h3⟩
  refine ⟨h0, ?_⟩
  unfold encBytes
  rw [if_pos h0]; exact h2.symm
theorem dec_bad {b : List UInt8} (h : decNo b ≠ 0) : decNet b = noNet := by unfold decNet; rw [if_neg h]
theorem enc_inj {x y : NetT} (hx : encNo x = 0) (hy : encNo y = 0) : encBytes x = encBytes y ↔ x = y := by
  constructor
  · intro h
    rw [← (dec_enc hx).2, ← (dec_enc hy).2, h]
  · intro h; rw [h]
end Go.Proofs.Ytkfmblpcfgdgpaa
