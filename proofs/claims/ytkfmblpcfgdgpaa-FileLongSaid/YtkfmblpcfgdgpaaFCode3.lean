/- Plain mathematics of files: whole nets as bytes, and their reader. -/
import Derived.Test.YtkfmblpcfgdgpaaFCode2
namespace Go.Proofs.Ytkfmblpcfgdgpaa

def formedFrom (n : Int) (i : Nat) : List NodeT → Prop
  | [] => True
  | x :: L => formed x n i = true ∧ formedFrom n (i + 1) L
theorem formedFrom_iff (n : Int) (L : List NodeT) : ∀ (i : Nat), formedFrom n i L ↔ ∀ j (h : j < L.length), formed L[j] n ((i + j : Nat) : Int) = true := by
  induction L with
  | nil => intro i; simp [formedFrom]
  | cons x L ih =>
    intro i
    rw [formedFrom, ih]
    constructor
    · rintro ⟨h1, h2⟩ j hj
      cases j with
      | zero => exact h1
      | succ j =>
        have := h2 j (by simpa using hj)
        rw [show i + (j + 1) = i + 1 + j by omega]; exact this
    · intro h
      refine ⟨h 0 (by simp), fun j hj => ?_⟩
      have := h (j + 1) (by simpa using hj)
      rw [show i + (j + 1) = i + 1 + j by omega] at this; exact this
theorem valid_from {x : NetT} : validNet x = true ↔ (0 ≤ x.n ∧ x.n ≤ 128 ∧ 1 ≤ x.l.length ∧ x.l.length ≤ 65536) ∧ formedFrom x.n 0 x.l := by
  rw [validNet_iff, formedFrom_iff]
  constructor
  · rintro ⟨h1, h2⟩
    exact ⟨h1, fun j hj => by rw [Nat.zero_add]; exact h2 j hj hj⟩
  · rintro ⟨h1, h2⟩
    exact ⟨h1, fun j hj _ => by have := h2 j hj; rw [Nat.zero_add] at this; exact this⟩
theorem encIns_length (i : Nat) (l : List Int) : l.length ≤ (encIns i l).length := by
  induction l with
  | nil => simp [encIns]
  | cons k l ih => have := encNum_pos ((i : Int) - k).toNat; simp [encIns]; omega
theorem rdNodes_enc (n : Int) (L : List NodeT) : ∀ (i : Nat) (r : List UInt8), i + L.length < 34359738368 → formedFrom n i L → (∀ x ∈ L, x.ins.length ≤ 16777216) → rdNodes i L.length (encFrom i L ++ r) = some (L, r) := by
  induction L with
  | nil => intro i r _ _ _; rfl
  | cons x L ih =>
    intro i r hi hf hl
    simp only [List.length_cons] at hi
    simp only [List.length_cons, rdNodes, encFrom, List.append_assoc]
    rw [rdNode_enc i (by omega) x n _ hf.1 (hl x (by simp))]
    simp only []
    rw [ih (i + 1) r (by omega) hf.2 (fun y hy => hl y (by simp [hy]))]
theorem nodes_rd : ∀ (m i : Nat) (b : List UInt8) (L : List NodeT) (r : List UInt8), rdNodes i m b = some (L, r) → L.length = m ∧ ((∀ x ∈ L, x.kind = 2 → x.lit ≠ 0) → b = encFrom i L ++ r) := by
  intro m
  induction m with
  | zero => intro i b L r h; injection h with h; injection h with h1 h2; subst h1 h2; exact ⟨rfl, fun _ => rfl⟩
  | succ m ih =>
    intro i b L r h
    rw [rdNodes] at h
    cases h1 : rdNode i b with
    | none => rw [h1] at h; cases h
    | some p =>
      obtain ⟨x, b1⟩ := p
      rw [h1] at h
      simp only [] at h
      cases h2 : rdNodes (i + 1) m b1 with
      | none => rw [h2] at h; cases h
      | some q =>
        obtain ⟨l2, b2⟩ := q
        rw [h2] at h
        injection h with h; injection h with h3 h4
        subst h3 h4
        obtain ⟨e1, _⟩ := node_rd i b x b1 h1
        obtain ⟨f1, f2⟩ := ih (i + 1) b1 l2 _ h2
        refine ⟨by simp [f1], fun hl => ?_⟩
        rw [e1 (hl x (by simp)), f2 (fun y hy => hl y (by simp [hy])), encFrom, List.append_assoc]
theorem lits_ok {n : Int} : ∀ {L : List NodeT} {i : Nat}, formedFrom n i L → ∀ x ∈ L, x.kind = 2 → x.lit ≠ 0 := by
  intro L
  induction L with
  | nil => intro i _ x hx; cases hx
  | cons y L ih =>
    intro i hf x hx hk
    rcases List.mem_cons.1 hx with rfl | hx
    · obtain ⟨_, h | h | h⟩ := formed_parts hf.1
      · omega
      · exact (litValid_range h.2.1).1
      · omega
    · exact ih hf.2 x hx hk
/-- What is written is read. -/
theorem rdNet_enc {x : NetT} (h : validNet x = true) (hl : ∀ y ∈ x.l, y.ins.length ≤ 16777216) (r : List UInt8) :
    rdNet (encNum x.n.toNat ++ (encNum x.l.length ++ (encFrom 0 x.l ++ r))) = some (x, r) := by
  obtain ⟨⟨h1, h2, h3, h4⟩, hf⟩ := valid_from.1 h
  rw [rdNet, rd_num _ (by omega) (by omega)]
  simp only []
  rw [rd_num _ h4 (by omega)]
  simp only []
  rw [rdNodes_enc x.n x.l 0 r (by omega) hf hl]
  simp only []
  rw [show ((x.n.toNat : Nat) : Int) = x.n by omega]
/-- What is read, and valid, is written so. -/
theorem net_rd {b r : List UInt8} {x : NetT} (h : rdNet b = some (x, r)) : 0 ≤ x.n ∧ x.n ≤ 128 ∧ x.l.length ≤ 65536 ∧ (validNet x = true → b = encNum x.n.toNat ++ (encNum x.l.length ++ (encFrom 0 x.l ++ r))) := by
  unfold rdNet at h
  cases h1 : rd 128 0 0 b with
  | none => rw [h1] at h; cases h
  | some p =>
    obtain ⟨n, b1⟩ := p
    rw [h1] at h
    simp only [] at h
    cases h2 : rd 65536 0 0 b1 with
    | none => rw [h2] at h; cases h
    | some q =>
      obtain ⟨m, b2⟩ := q
      rw [h2] at h
      simp only [] at h
      cases h3 : rdNodes 0 m b2 with
      | none => rw [h3] at h; cases h
      | some s =>
        obtain ⟨l, b3⟩ := s
        rw [h3] at h
        injection h with h; injection h with h4 h5
        subst h4 h5
        obtain ⟨e1, e2⟩ := num_rd h1
        obtain ⟨f1, f2⟩ := num_rd h2
        obtain ⟨g1, g2⟩ := nodes_rd m 0 b2 l _ h3
        refine ⟨by simp, by show (n : Int) ≤ 128; omega, by show l.length ≤ _; omega, fun hv => ?_⟩
        have := g2 (lits_ok (valid_from.1 hv).2)
        rw [e1, f1, this]
        simp [g1]
end Go.Proofs.Ytkfmblpcfgdgpaa
