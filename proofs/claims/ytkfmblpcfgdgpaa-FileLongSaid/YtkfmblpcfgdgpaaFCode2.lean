/- Plain mathematics of files: nodes and nets as bytes, and their readers. -/
import Derived.Test.YtkfmblpcfgdgpaaFCode
namespace Go.Proofs.Ytkfmblpcfgdgpaa

def litCode (l : Int) : Nat := if 0 < l then (2 * l).toNat else (1 - 2 * l).toNat
def litOf (c : Nat) : Int := (c / 2 : Nat) * (1 - ((c % 2 : Nat) : Int) * 2)
theorem litOf_code {l : Int} (_h : l ≠ 0) : litOf (litCode l) = l := by
  unfold litOf litCode
  by_cases h1 : 0 < l
  · rw [if_pos h1, show (2 * l).toNat / 2 = l.toNat by omega, show (2 * l).toNat % 2 = 0 by omega]
    simp; omega
  · rw [if_neg h1, show (1 - 2 * l).toNat / 2 = (-l).toNat by omega, show (1 - 2 * l).toNat % 2 = 1 by omega]
    simp; omega
theorem litCode_of {c : Nat} (h : litOf c ≠ 0) : litCode (litOf c) = c := by
  unfold litOf litCode at *
  rcases Nat.mod_two_eq_zero_or_one c with e | e
  · rw [e] at h ⊢
    simp at h ⊢
    rw [if_pos (by omega)]; omega
  · rw [e] at h ⊢
    have e2 : ((c / 2 : Nat) : Int) * (1 - ((1 : Nat) : Int) * 2) = -((c / 2 : Nat) : Int) := by simp
    rw [e2] at h ⊢
    rw [if_neg (by omega)]; omega
def encIns (i : Nat) : List Int → List UInt8
  | [] => []
  | k :: l => encNum ((i : Int) - k).toNat ++ encIns i l
def encNode (i : Nat) (x : NodeT) : List UInt8 :=
  encNum x.kind.toNat ++ (if x.kind = 2 then encNum (litCode x.lit) else if x.kind = 3 ∨ x.kind = 4 then encNum x.ins.length ++ encIns i x.ins else [])
def encFrom (i : Nat) : List NodeT → List UInt8
  | [] => []
  | x :: L => encNode i x ++ encFrom (i + 1) L
def magic : List UInt8 := [67, 78, 69, 84]
def headOf (x : NetT) : List UInt8 := magic ++ (encNum x.n.toNat ++ encNum x.l.length)
def bodyOf (x : NetT) : List UInt8 := headOf x ++ encFrom 0 x.l
def le32 (s : BitVec 32) : List UInt8 := [UInt8.ofNat (s.toNat % 256), UInt8.ofNat (s.toNat / 256 % 256), UInt8.ofNat (s.toNat / 65536 % 256), UInt8.ofNat (s.toNat / 16777216 % 256)]
def sealOf (b : List UInt8) : List UInt8 := b ++ le32 (crc b)
/-! ### readers -/
def rdIns (i : Nat) : Nat → List UInt8 → Option (List Int × List UInt8)
  | 0, b => some ([], b)
  | m + 1, b => match rd i 0 0 b with
    | none => none
    | some (d, b1) => match rdIns i m b1 with
      | none => none
      | some (l, b2) => some (((i : Int) - d) :: l, b2)
def rdNode (i : Nat) (b : List UInt8) : Option (NodeT × List UInt8) :=
  match rd 4 0 0 b with
  | none => none
  | some (k, b1) =>
    if k = 2 then match rd 257 0 0 b1 with
      | none => none
      | some (c, b2) => some (⟨2, litOf c, []⟩, b2)
    else if k = 3 ∨ k = 4 then match rd 16777216 0 0 b1 with
      | none => none
      | some (m, b2) => match rdIns i m b2 with
        | none => none
        | some (l, b3) => some (⟨k, 0, l⟩, b3)
    else some (⟨k, 0, []⟩, b1)
def rdNodes (i : Nat) : Nat → List UInt8 → Option (List NodeT × List UInt8)
  | 0, b => some ([], b)
  | m + 1, b => match rdNode i b with
    | none => none
    | some (x, b1) => match rdNodes (i + 1) m b1 with
      | none => none
      | some (l, b2) => some (x :: l, b2)
/-- The net in the bytes behind the first four. -/
def rdNet (b : List UInt8) : Option (NetT × List UInt8) :=
  match rd 128 0 0 b with
  | none => none
  | some (n, b1) => match rd 65536 0 0 b1 with
    | none => none
    | some (m, b2) => match rdNodes 0 m b2 with
      | none => none
      | some (l, b3) => some (⟨n, l⟩, b3)
/-! ### what is written is read -/
theorem rd_num {most n : Nat} (r : List UInt8) (h : n ≤ most) (hm : most < 34359738368) : rd most 0 0 (encNum n ++ r) = some (n, r) := by
  have := rd_enc most n 0 0 r (by have := encNum_len (n := n) (j := 4) (by omega); omega) (by omega) (.inl rfl)
  simpa using this
theorem num_rd {most n : Nat} {l r : List UInt8} (h : rd most 0 0 l = some (n, r)) : l = encNum n ++ r ∧ n ≤ most := by
  obtain ⟨m, h1, h2, h3, _⟩ := enc_rd most l 0 0 n r h
  have : n = m := by simpa using h2
  subst this; exact ⟨h1, h3⟩
theorem rdIns_enc (i : Nat) (hi : i < 34359738368) (l : List Int) (r : List UInt8) (h : ∀ k ∈ l, 0 ≤ k ∧ k < (i : Int)) : rdIns i l.length (encIns i l ++ r) = some (l, r) := by
  induction l with
  | nil => rfl
  | cons k l ih =>
    have hk := h k (by simp)
    simp only [List.length_cons, rdIns, encIns, List.append_assoc]
    rw [rd_num _ (by omega) hi]
    simp only []
    rw [ih (fun k hk => h k (by simp [hk]))]
    simp only []
    rw [show (i : Int) - (((i : Int) - k).toNat : Int) = k by omega]
theorem ins_rd (i : Nat) : ∀ (m : Nat) (b : List UInt8) (l : List Int) (r : List UInt8), rdIns i m b = some (l, r) → b = encIns i l ++ r ∧ l.length = m ∧ ∀ k ∈ l, 0 ≤ k ∧ k ≤ (i : Int) := by
  intro m
  induction m with
  | zero => intro b l r h; injection h with h; injection h with h1 h2; subst h1 h2; exact ⟨rfl, rfl, fun k hk => by cases hk⟩
  | succ m ih =>
    intro b l r h
    rw [rdIns] at h
    cases h1 : rd i 0 0 b with
    | none => rw [h1] at h; cases h
    | some p =>
      obtain ⟨d, b1⟩ := p
      rw [h1] at h
      simp only [] at h
      cases h2 : rdIns i m b1 with
      | none => rw [h2] at h; cases h
      | some q =>
        obtain ⟨l2, b2⟩ := q
        rw [h2] at h
        injection h with h; injection h with h3 h4
        subst h3 h4
        obtain ⟨e1, e2⟩ := num_rd h1
        obtain ⟨f1, f2, f3⟩ := ih _ _ _ h2
        refine ⟨?_, by simp [f2], ?_⟩
        · rw [e1, f1, encIns, show ((i : Int) - ((i : Int) - (d : Int))).toNat = d by omega, List.append_assoc]
        · intro k hk
          rcases List.mem_cons.1 hk with rfl | hk
          · omega
          · exact f3 k hk
theorem formed_parts {x : NodeT} {n i : Int} (h : formed x n i = true) :
    (∀ k ∈ x.ins, 0 ≤ k ∧ k < i) ∧ ((x.kind = 0 ∨ x.kind = 1) ∧ x.lit = 0 ∧ x.ins = [] ∨ x.kind = 2 ∧ litValid x.lit n = true ∧ x.ins = [] ∨ (x.kind = 3 ∨ x.kind = 4) ∧ x.lit = 0) := by
  unfold formed at h
  cases hb : badIn x.ins i
  · rw [hb] at h
    refine ⟨fun k hk => ?_, ?_⟩
    · unfold badIn at hb
      rw [List.any_eq_false] at hb
      have := hb k hk
      simp at this; omega
    · simp only [Bool.false_eq_true, if_false] at h
      by_cases h1 : x.kind = 0 ∨ x.kind = 1
      · rw [if_pos h1] at h; simp at h; exact .inl ⟨h1, h.1, h.2⟩
      · rw [if_neg h1] at h
        by_cases h2 : x.kind = 2
        · rw [if_pos h2] at h; simp at h; exact .inr (.inl ⟨h2, h.1, h.2⟩)
        · rw [if_neg h2] at h
          by_cases h3 : x.kind = 3 ∨ x.kind = 4
          · rw [if_pos h3] at h; simp at h; exact .inr (.inr ⟨h3, h⟩)
          · rw [if_neg h3] at h; cases h
  · rw [hb] at h; simp at h
theorem litValid_range {l n : Int} (h : litValid l n = true) : l ≠ 0 ∧ -128 ≤ l ∧ l ≤ 128 := by
  unfold litValid litVar at h
  by_cases h1 : 1 ≤ l ∧ l ≤ 128
  · omega
  · rw [if_neg h1] at h
    by_cases h2 : l ≤ -1 ∧ -128 ≤ l
    · omega
    · rw [if_neg h2] at h; simp at h
theorem litCode_le {l : Int} (h : -128 ≤ l ∧ l ≤ 128) : litCode l ≤ 257 := by
  unfold litCode; split <;> omega
theorem rdNode_enc (i : Nat) (hi : i < 34359738368) (x : NodeT) (n : Int) (r : List UInt8) (h : formed x n i = true) (hl : x.ins.length ≤ 16777216) : rdNode i (encNode i x ++ r) = some (x, r) := by
  obtain ⟨hins, h0 | h2 | h3⟩ := formed_parts h
  · obtain ⟨hk, hlit, hin⟩ := h0
    obtain ⟨k, li, ins⟩ := x
    simp only at hk hlit hin; subst hlit hin
    rcases hk with rfl | rfl
    · show rdNode i (encNum 0 ++ [] ++ r) = _
      rw [rdNode, List.append_assoc, rd_num _ (by omega) (by omega)]; rfl
    · show rdNode i (encNum 1 ++ [] ++ r) = _
      rw [rdNode, List.append_assoc, rd_num _ (by omega) (by omega)]; rfl
  · obtain ⟨hk, hlit, hin⟩ := h2
    obtain ⟨k, li, ins⟩ := x
    simp only at hk hlit hin; subst hk hin
    obtain ⟨r0, r1, r2⟩ := litValid_range hlit
    show rdNode i (encNum 2 ++ encNum (litCode li) ++ r) = _
    rw [rdNode, List.append_assoc, rd_num _ (by omega) (by omega)]
    simp only [if_true]
    rw [rd_num _ (litCode_le ⟨r1, r2⟩) (by omega)]
    simp only [litOf_code r0]
  · obtain ⟨hk, hlit⟩ := h3
    obtain ⟨k, li, ins⟩ := x
    simp only at hk hlit hins hl; subst hlit
    rcases hk with rfl | rfl
    · show rdNode i (encNum 3 ++ (encNum ins.length ++ encIns i ins) ++ r) = _
      rw [rdNode, List.append_assoc, rd_num _ (by omega) (by omega)]
      simp only [show ¬ (3 = 2) by omega, if_false, true_or, if_true, List.append_assoc]
      rw [rd_num _ hl (by omega)]
      simp only []
      rw [rdIns_enc i hi ins r hins]
      rfl
    · show rdNode i (encNum 4 ++ (encNum ins.length ++ encIns i ins) ++ r) = _
      rw [rdNode, List.append_assoc, rd_num _ (by omega) (by omega)]
      simp only [show ¬ (4 = 2) by omega, if_false, or_true, if_true, List.append_assoc]
      rw [rd_num _ hl (by omega)]
      simp only []
      rw [rdIns_enc i hi ins r hins]
      rfl
/-- What is read is what would be written, where literals are not 0. -/
theorem node_rd (i : Nat) (b : List UInt8) (x : NodeT) (r : List UInt8) (h : rdNode i b = some (x, r)) :
    ((x.kind = 2 → x.lit ≠ 0) → b = encNode i x ++ r) ∧ 0 ≤ x.kind ∧ x.kind ≤ 4 ∧ (∀ k ∈ x.ins, 0 ≤ k ∧ k ≤ (i : Int)) ∧ x.ins.length ≤ 16777216 ∧ (-128 ≤ x.lit ∧ x.lit ≤ 128) := by
  unfold rdNode at h
  cases h1 : rd 4 0 0 b with
  | none => rw [h1] at h; cases h
  | some p =>
    obtain ⟨k, b1⟩ := p
    rw [h1] at h
    simp only [] at h
    obtain ⟨e1, e2⟩ := num_rd h1
    by_cases hk2 : k = 2
    · subst hk2
      rw [if_pos rfl] at h
      cases h2 : rd 257 0 0 b1 with
      | none => rw [h2] at h; cases h
      | some q =>
        obtain ⟨c, b2⟩ := q
        rw [h2] at h
        injection h with h; injection h with h3 h4
        subst h3 h4
        obtain ⟨f1, f2⟩ := num_rd h2
        refine ⟨fun hl => ?_, by simp, by simp, fun k hk => (by cases hk), by simp, ?_⟩
        · have hl : litOf c ≠ 0 := hl rfl
          rw [e1, f1]
          show _ = encNum 2 ++ encNum (litCode (litOf c)) ++ _
          rw [litCode_of hl, List.append_assoc]
        · show -128 ≤ litOf c ∧ litOf c ≤ 128
          unfold litOf
          rcases Nat.mod_two_eq_zero_or_one c with e | e <;> rw [e]
          · simp; omega
          · have : ((c / 2 : Nat) : Int) * (1 - ((1 : Nat) : Int) * 2) = -((c / 2 : Nat) : Int) := by simp
            rw [this]; omega
    · rw [if_neg hk2] at h
      by_cases hk3 : k = 3 ∨ k = 4
      · rw [if_pos hk3] at h
        cases h2 : rd 16777216 0 0 b1 with
        | none => rw [h2] at h; cases h
        | some q =>
          obtain ⟨m, b2⟩ := q
          rw [h2] at h
          simp only [] at h
          cases h5 : rdIns i m b2 with
          | none => rw [h5] at h; cases h
          | some s =>
            obtain ⟨l, b3⟩ := s
            rw [h5] at h
            injection h with h; injection h with h3 h4
            subst h3 h4
            obtain ⟨f1, f2⟩ := num_rd h2
            obtain ⟨g1, g2, g3⟩ := ins_rd i m b2 l _ h5
            refine ⟨fun _ => ?_, by simp, by show (k : Int) ≤ 4; omega, g3, by show l.length ≤ _; omega, by simp⟩
            rw [e1, f1, g1]
            unfold encNode
            rw [if_neg (by show ¬ (k : Int) = 2; omega), if_pos (by show (k : Int) = 3 ∨ (k : Int) = 4; omega)]
            simp only [Int.toNat_natCast, g2, List.append_assoc]
      · rw [if_neg hk3] at h
        injection h with h; injection h with h3 h4
        subst h3 h4
        refine ⟨fun _ => ?_, by simp, by show (k : Int) ≤ 4; omega, fun k hk => (by cases hk), by simp, by simp⟩
        rw [e1]
        unfold encNode
        rw [if_neg (by show ¬ (k : Int) = 2; omega), if_neg (by show ¬ ((k : Int) = 3 ∨ (k : Int) = 4); omega)]
        simp
end Go.Proofs.Ytkfmblpcfgdgpaa
