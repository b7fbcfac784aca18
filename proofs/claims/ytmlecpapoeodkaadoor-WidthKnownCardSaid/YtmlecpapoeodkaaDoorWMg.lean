/- Merging bags: plain side; walks of the program's without, join, clones and Merge. -/
import Derived.Test.YtmlecpapoeodkaaDoorWMerge
import Derived.Test.YtmlecpapoeodkaaDoorWFlood
import Derived.Test.YtmlecpapoeodkaaDoorWGiven
import Derived.Test.YtmlecpapoeodkaaDoorWRef4
import Derived.Test.YtmlecpapoeodkaaDoorWOfW
import Derived.Deep.DeepCutAuto
import Derived.Test.YtmlecpapoeodkaaDoorSWalk
import Derived.Test.YtmlecpapoeodkaaDoorWBelow
import Derived.Deep.LoopGhost
namespace Go.Proofs.YtmlecpapoeodkaaDoor

theorem Sim.upOld {B B' : List VS} {U U' : List Int} {σ : List Nat} (h : Sim B U B' U' σ) {d t k : Nat} (hd : d < σ.length) (ht : t < σ.length) (hk : k < σ.length) :
    (upOld U' (d : Int) (t : Int) (k : Int) = -1 ∧ upOld U (ge σ d : Int) (ge σ t : Int) (ge σ k : Int) = -1) ∨
      ∃ m, m < σ.length ∧ upOld U' (d : Int) (t : Int) (k : Int) = (m : Int) ∧ upOld U (ge σ d : Int) (ge σ t : Int) (ge σ k : Int) = (ge σ m : Int) := by
  unfold Go.Proofs.YtmlecpapoeodkaaDoor.upOld
  rcases h.up k hk with ⟨e1, e2⟩ | ⟨m, hm, e1, e2⟩
  · left
    rw [e1, e2, if_neg (by omega), if_neg (by omega)]; exact ⟨rfl, rfl⟩
  · rw [e1, e2]
    by_cases emd : m = d
    · subst emd
      rw [if_pos rfl, if_pos rfl]
      by_cases ekt : k = t
      · subst ekt
        rw [if_pos rfl, if_pos rfl]
        exact h.up m hm
      · rw [if_neg (by omega), if_neg (by intro e; exact ekt (h.inj hk ht (by omega)))]
        exact .inr ⟨t, ht, rfl, rfl⟩
    · rw [if_neg (by omega), if_neg (by intro e; exact emd (h.inj hm hd (by omega)))]
      exact .inr ⟨m, hm, rfl, rfl⟩
/-- The indices behind a merge, when the dropped bag keeps its place. -/
def joinU (U : List Int) (d t : Int) : List Int := (List.range U.length).map fun k : Nat => if (k : Int) = d then -1 else upOld U d t (k : Int)
theorem joinU_length (U : List Int) (d t : Int) : (joinU U d t).length = U.length := by simp [joinU]
theorem upF_joinU {U : List Int} {d t : Int} (k : Nat) (h : k < U.length) : upF (joinU U d t) (k : Int) = if (k : Int) = d then -1 else upOld U d t (k : Int) := by
  unfold joinU; rw [upF_map _ _ _ h]
theorem Sim.join {B B' : List VS} {U U' : List Int} {σ : List Nat} (h : Sim B U B' U' σ) (hU : U.length = B.length) (hf : Formed B'.length U') {d t : Nat} (hg : Goes B' U' d t) :
    Sim B (joinU U (ge σ d : Int) (ge σ t : Int)) (remB B' (d : Int)) (remU U' (d : Int) (t : Int)) (σ.eraseIdx d) := by
  have hd := hg.hi
  have ht := hg.ht
  have hl := h.lenB
  have hlu := h.lenU
  have hfl := hf.len
  have hes : (σ.eraseIdx d).length + 1 = σ.length := by rw [List.length_eraseIdx, if_pos (by omega)]; omega
  have hge : ∀ p, ge (σ.eraseIdx d) p = ge σ (old d p) := fun p => by rw [ge_erase]; unfold old; split <;> rfl
  have hol : ∀ p, p + 1 < σ.length → old d p < σ.length := fun p hp => by unfold old; split <;> omega
  refine ⟨?_, ?_, fun p q hpq hq => ?_, fun p hp => ?_, fun p hp => ?_, fun p hp => ?_⟩
  · have := remB_length hd; omega
  · have := remU_length (U := U') (t := (t : Int)) (i := d) (by omega); omega
  · rw [hge, hge]
    exact h.asc _ _ (by unfold old; split <;> split <;> omega) (hol q (by omega))
  · rw [hge]; exact h.lt _ (hol p (by omega))
  · rw [hge, (rem_at hf hg (p := p) (by omega)).1]; exact h.bag _ (hol p (by omega))
  · have ho := hol p (by omega)
    have hne := old_ne d p
    have hx := h.lt _ ho
    rw [hge, upF_joinU _ (by omega), if_neg (by intro e; exact hne (h.inj ho (by omega) (by omega)))]
    rcases (rem_at hf hg (p := p) (by omega)).2 with ⟨e1, e2⟩ | ⟨q, hq, e1, e2⟩ <;> rcases h.upOld (d := d) (t := t) (by omega) (by omega) ho with ⟨e3, e4⟩ | ⟨m, hm, e3, e4⟩
    · exact .inl ⟨e1, e4⟩
    · omega
    · omega
    · refine .inr ⟨q, by omega, e1, ?_⟩
      rw [e4, hge]
      have : m = old d q := by omega
      rw [this]
/-- What the program's pass over the indices makes. -/
def passU (U : List Int) (d t : Int) (k : Nat) : List Int := (List.range U.length).map fun i : Nat => if i < k ∧ upF U (i : Int) = d ∧ (i : Int) ≠ t then t else upF U (i : Int)
theorem passU_length (U : List Int) (d t : Int) (k : Nat) : (passU U d t k).length = U.length := by simp [passU]
theorem passU_zero (U : List Int) (d t : Int) : passU U d t 0 = U := by
  apply List.ext_getElem (passU_length _ _ _ _)
  intro i a b
  simp [passU, upF_nat U i b]
theorem passU_get (U : List Int) (d t : Int) (k i : Nat) (h : i < U.length) : (passU U d t k)[i]'(by rw [passU_length]; exact h) = if i < k ∧ upF U (i : Int) = d ∧ (i : Int) ≠ t then t else upF U (i : Int) := by
  simp [passU]
theorem passU_here (U : List Int) (d t : Int) (k : Nat) (h : k < U.length) : (passU U d t k)[k]'(by rw [passU_length]; exact h) = U[k] := by
  rw [passU_get _ _ _ _ _ h, if_neg (by omega), upF_nat U k h]
theorem passU_change (U : List Int) (d t : Int) (k : Nat) (h : k < U.length) (h1 : U[k] = d) (h2 : (k : Int) ≠ t) : (passU U d t k).set k t = passU U d t (k + 1) := by
  apply List.ext_getElem (by simp [passU_length])
  intro i a b
  rw [passU_length] at b
  rw [List.getElem_set, passU_get _ _ _ _ _ b]
  by_cases e : k = i
  · subst e
    rw [if_pos rfl, passU_get _ _ _ _ _ b, if_pos ⟨by omega, by rw [upF_nat U k h]; exact h1, h2⟩]
  · rw [if_neg e, passU_get _ _ _ _ _ b]
    by_cases e2 : i < k
    · simp [e2, show i < k + 1 by omega]
    · rw [if_neg (by omega), if_neg (by omega)]
theorem passU_keep (U : List Int) (d t : Int) (k : Nat) (h : k < U.length) (h1 : ¬ (U[k] = d ∧ (k : Int) ≠ t)) : passU U d t k = passU U d t (k + 1) := by
  apply List.ext_getElem (by simp [passU_length])
  intro i a b
  rw [passU_length] at b
  rw [passU_get _ _ _ _ _ b, passU_get _ _ _ _ _ b]
  by_cases e : k = i
  · subst e
    rw [← upF_nat U k h] at h1
    rw [if_neg (by omega), if_neg (by intro hc; exact h1 hc.2)]
  · by_cases e2 : i < k
    · simp [e2, show i < k + 1 by omega]
    · rw [if_neg (by omega), if_neg (by omega)]
/-- The indices behind the program's join: the bag d goes into the bag t. -/
def dropU (U : List Int) (d t : Nat) : List Int := (passU U (d : Int) (t : Int) U.length).set d (-1)
theorem dropU_length (U : List Int) (d t : Nat) : (dropU U d t).length = U.length := by simp [dropU, passU_length]
theorem dropU_low {U : List Int} {d t : Nat} (hd : upF U (t : Int) ≠ (d : Int)) : dropU U d t = joinU U (d : Int) (t : Int) := by
  apply List.ext_getElem (by rw [dropU_length, joinU_length])
  intro i a b
  rw [joinU_length] at b
  simp only [dropU, List.getElem_set, passU_get _ _ _ _ _ b]
  simp only [joinU, List.getElem_map, List.getElem_range]
  by_cases e : d = i
  · rw [if_pos e, if_pos (show (i : Int) = (d : Int) by omega)]
  · rw [if_neg e, if_neg (show ¬ (i : Int) = (d : Int) by omega)]
    unfold Go.Proofs.YtmlecpapoeodkaaDoor.upOld
    by_cases e1 : upF U (i : Int) = (d : Int)
    · have : (i : Int) ≠ (t : Int) := by intro e2; rw [e2] at e1; exact hd e1
      rw [if_pos ⟨b, e1, this⟩, if_pos e1, if_neg this]
    · rw [if_neg (by intro h; exact e1 h.2.1), if_neg e1]
theorem dropU_high {U : List Int} {d t : Nat} (_ht : t < U.length) (_hne : t ≠ d) (hu : upF U (t : Int) = (d : Int)) : dropU (U.set t (upF U (d : Int))) d t = joinU U (d : Int) (t : Int) := by
  have hs : ∀ i : Nat, i < U.length → upF (U.set t (upF U (d : Int))) (i : Int) = if t = i then upF U (d : Int) else upF U (i : Int) := fun i hi => by
    rw [upF_nat _ i (by rw [List.length_set]; exact hi), List.getElem_set]
    split
    · rfl
    · rw [upF_nat U i hi]
  apply List.ext_getElem (by rw [dropU_length, joinU_length, List.length_set])
  intro i a b
  rw [joinU_length] at b
  simp only [dropU, List.getElem_set, passU_get _ _ _ _ _ (show i < (U.set t (upF U (d : Int))).length by rw [List.length_set]; exact b)]
  simp only [joinU, List.getElem_map, List.getElem_range]
  rw [hs i b]
  by_cases e : d = i
  · rw [if_pos e, if_pos (show (i : Int) = (d : Int) by omega)]
  · rw [if_neg e, if_neg (show ¬ (i : Int) = (d : Int) by omega)]
    unfold Go.Proofs.YtmlecpapoeodkaaDoor.upOld
    by_cases e2 : t = i
    · subst e2
      rw [if_neg (by intro h; exact h.2.2 rfl), if_pos rfl, if_pos hu, if_pos rfl]
    · rw [if_neg e2]
      by_cases e1 : upF U (i : Int) = (d : Int)
      · rw [if_pos ⟨by rw [List.length_set]; exact b, e1, by omega⟩, if_pos e1, if_neg (by omega)]
      · rw [if_neg (by intro h; exact e1 h.2.1), if_neg e1]
/-- The bags that are not gone are those at the places σ. -/
def Kept (G : List Bool) (n : Nat) (σ : List Nat) : Prop := G.length = n ∧ ∀ i, i < n → (wet G i = false ↔ ∃ p, p < σ.length ∧ ge σ p = i)
theorem Kept.drop {B B' : List VS} {U U' : List Int} {σ : List Nat} {G : List Bool} {n d : Nat} (h : Kept G n σ) (hs : Sim B U B' U' σ) (hd : d < σ.length) : Kept (G.set (ge σ d) true) n (σ.eraseIdx d) := by
  have hes : (σ.eraseIdx d).length + 1 = σ.length := by rw [List.length_eraseIdx, if_pos hd]; omega
  have hge : ∀ p, ge (σ.eraseIdx d) p = ge σ (old d p) := fun p => by rw [ge_erase]; unfold old; split <;> rfl
  refine ⟨by rw [List.length_set]; exact h.1, fun i hi => ?_⟩
  have e1 : wet (G.set (ge σ d) true) i = false ↔ wet G i = false ∧ ge σ d ≠ i := by
    have := wet_set G (ge σ d) i
    rw [h.1] at this
    cases hw : wet (G.set (ge σ d) true) i <;> rw [hw] at this
    · simp only [Bool.false_eq_true, false_iff, not_or, not_and] at this
      simp only [true_iff]
      exact ⟨by simpa using this.1, fun e => this.2 e hi⟩
    · simp only [true_iff] at this
      simp only [Bool.true_eq_false, false_iff, not_and]
      intro h1 h2
      rcases this with h3 | h3
      · rw [h3] at h1; cases h1
      · exact h2 h3.1
  rw [e1, h.2 i hi]
  constructor
  · rintro ⟨⟨p, hp, rfl⟩, hne⟩
    have hpd : p ≠ d := fun e => hne (by rw [e])
    refine ⟨new d p, by unfold new; split <;> omega, ?_⟩
    rw [hge, old_new hpd]
  · rintro ⟨p, hp, e⟩
    rw [hge] at e
    have ho : old d p < σ.length := by unfold old; split <;> omega
    refine ⟨⟨_, ho, e⟩, fun e2 => old_ne d p (hs.inj ho hd (by omega))⟩
/-- So many of the places σ lie below i. -/
structure AtP (σ : List Nat) (i p : Nat) : Prop where
  le : p ≤ σ.length
  lo : ∀ q, q < p → ge σ q < i
  hi : ∀ q, p ≤ q → q < σ.length → i ≤ ge σ q
theorem AtP.zero (σ : List Nat) : AtP σ 0 0 := ⟨Nat.zero_le _, fun q h => by omega, fun q _ _ => Nat.zero_le _⟩
theorem AtP.gone {σ : List Nat} {G : List Bool} {n i p : Nat} (h : AtP σ i p) (hk : Kept G n σ) (hi : i < n) (hw : wet G i = true) : AtP σ (i + 1) p := by
  refine ⟨h.le, fun q hq => by have := h.lo q hq; omega, fun q h1 h2 => ?_⟩
  have h3 := h.hi q h1 h2
  by_cases e : ge σ q = i
  · have := (hk.2 i hi).2 ⟨q, h2, e⟩
    rw [hw] at this; cases this
  · omega
theorem AtP.kept {B B' : List VS} {U U' : List Int} {σ : List Nat} {G : List Bool} {n i p : Nat} (h : AtP σ i p) (hk : Kept G n σ) (hs : Sim B U B' U' σ) (hi : i < n) (hw : wet G i = false) : p < σ.length ∧ ge σ p = i ∧ AtP σ (i + 1) (p + 1) := by
  obtain ⟨q, hq, e⟩ := (hk.2 i hi).1 hw
  have hpq : p ≤ q := by
    apply Classical.byContradiction
    intro hc
    have := h.lo q (by omega); omega
  have hqp : q ≤ p := by
    apply Classical.byContradiction
    intro hc
    have h1 := hs.asc p q (by omega) hq
    have h2 := h.hi p (Nat.le_refl _) (by omega)
    omega
  obtain rfl : p = q := by omega
  refine ⟨hq, e, by omega, fun r hr => ?_, fun r h1 h2 => ?_⟩
  · by_cases e2 : r = p
    · subst e2; omega
    · have := h.lo r (by omega); omega
  · have := hs.asc p r (by omega) h2; omega
theorem AtP.full {B B' : List VS} {U U' : List Int} {σ : List Nat} {p : Nat} (h : AtP σ B.length p) (hs : Sim B U B' U' σ) : p = σ.length := by
  apply Classical.byContradiction
  intro hc
  have := h.le
  have h1 := h.hi p (Nat.le_refl _) (by omega)
  have h2 := hs.lt p (by omega)
  omega
theorem Sim.ge_le {B B' : List VS} {U U' : List Int} {σ : List Nat} (hs : Sim B U B' U' σ) : ∀ q, q < σ.length → q ≤ ge σ q
  | 0, _ => Nat.zero_le _
  | q + 1, h => by
    have h1 := hs.ge_le q (by omega)
    have h2 := hs.asc q (q + 1) (by omega) h
    omega
theorem AtP.bound {B B' : List VS} {U U' : List Int} {σ : List Nat} {i p : Nat} (h : AtP σ i p) (hs : Sim B U B' U' σ) : p ≤ i := by
  by_cases h0 : p = 0
  · omega
  · have h1 := h.le
    have h2 := h.lo (p - 1) (by omega)
    have h3 := hs.ge_le (p - 1) (by omega)
    omega
/-- Where a place stands. -/
theorem AtP.at {B B' : List VS} {U U' : List Int} {σ : List Nat} {q p : Nat} (h : AtP σ (ge σ q) p) (hs : Sim B U B' U' σ) (hq : q < σ.length) : p = q := by
  have h0 := h.le
  rcases Nat.lt_trichotomy p q with h1 | h1 | h1
  · have := h.hi p (Nat.le_refl _) (by omega)
    have := hs.asc p q h1 hq
    omega
  · exact h1
  · have := h.lo q h1; omega
theorem ge_range {n p : Nat} (h : p < n) : ge (List.range n) p = p := by
  unfold ge; rw [List.getD_eq_getElem?_getD, List.getElem?_range h]; rfl
theorem Sim.start {B : List VS} {U : List Int} (hf : Formed B.length U) : Sim B U B U (List.range B.length) := by
  have hl := hf.len
  have hr := hf.range
  refine ⟨by simp, by simp [hl], fun p q h1 h2 => ?_, fun p hp => ?_, fun p hp => ?_, fun p hp => ?_⟩ <;> simp only [List.length_range] at *
  · rw [ge_range h2, ge_range (by omega)]; exact h1
  · rw [ge_range hp]; exact hp
  · rw [ge_range hp]
  · rw [ge_range hp]
    have := hr (p : Int) (by omega) (by omega)
    by_cases e : upF U (p : Int) = -1
    · exact .inl ⟨e, e⟩
    · exact .inr ⟨(upF U (p : Int)).toNat, by omega, by omega, by rw [ge_range (by omega)]; omega⟩
theorem Kept.start (n : Nat) : Kept (List.replicate n false) n (List.range n) := by
  refine ⟨by simp, fun i hi => ?_⟩
  have : wet (List.replicate n false) i = false := by unfold wet; rw [List.getD_eq_getElem?_getD, List.getElem?_replicate, if_pos hi]; rfl
  rw [this]
  simp only [true_iff]
  exact ⟨i, by simpa using hi, ge_range hi⟩
/-- The state of the program's merging at the index i. -/
structure MergeSt (B : List VS) (U0 U : List Int) (G : List Bool) (i : Nat) (B' : List VS) (U' : List Int) (σ : List Nat) (p : Nat) : Prop where
  len : U.length = B.length
  sim : Sim B U B' U' σ
  kept : Kept G B.length σ
  formed : Formed B'.length U'
  at_ : AtP σ i p
  run : ∀ X Y, MRun B' U' p X Y → MRun B U0 0 X Y
theorem MergeSt.start {B : List VS} {U : List Int} (hf : Formed B.length U) : MergeSt B U U (List.replicate B.length false) 0 B U (List.range B.length) 0 :=
  ⟨hf.len, Sim.start hf, Kept.start _, hf, AtP.zero _, fun _ _ h => h⟩
section
variable {B B' : List VS} {U0 U U' : List Int} {G : List Bool} {i p : Nat} {σ : List Nat} (h : MergeSt B U0 U G i B' U' σ p)
include h
theorem MergeSt.gone (hi : i < B.length) (hw : wet G i = true) : MergeSt B U0 U G (i + 1) B' U' σ p :=
  ⟨h.len, h.sim, h.kept, h.formed, h.at_.gone h.kept hi hw, h.run⟩
theorem MergeSt.root (hi : i < B.length) (hw : wet G i = false) (hu : upF U (i : Int) < 0) : MergeSt B U0 U G (i + 1) B' U' σ (p + 1) := by
  obtain ⟨h1, h2, h3⟩ := h.at_.kept h.kept h.sim hi hw
  have hl := h.sim.lenB
  have hu' : upF U' (p : Int) < 0 := by
    rcases h.sim.up p h1 with ⟨e1, e2⟩ | ⟨q, hq, e1, e2⟩
    · omega
    · rw [h2] at e2; omega
  exact ⟨h.len, h.sim, h.kept, h.formed, h3, fun X Y hr => h.run X Y (.next (by omega) (.inl hu') hr)⟩
theorem MergeSt.upAt (hi : i < B.length) (hw : wet G i = false) (hu : 0 ≤ upF U (i : Int)) : p < σ.length ∧ ge σ p = i ∧ ∃ q, q < σ.length ∧ upF U' (p : Int) = (q : Int) ∧ upF U (i : Int) = (ge σ q : Int) ∧ ge σ q < B.length ∧ gOf B' (p : Int) = gOf B (i : Int) ∧ gOf B' (q : Int) = gOf B (ge σ q : Int) := by
  obtain ⟨h1, h2, h3⟩ := h.at_.kept h.kept h.sim hi hw
  rcases h.sim.up p h1 with ⟨e1, e2⟩ | ⟨q, hq, e1, e2⟩
  · rw [h2] at e2; omega
  · rw [h2] at e2
    have hb := h.sim.bag p h1
    rw [h2] at hb
    exact ⟨h1, h2, q, hq, e1, e2, h.sim.lt q hq, hb, h.sim.bag q hq⟩
theorem MergeSt.range (hi : i < B.length) (hw : wet G i = false) : upF U (i : Int) < (B.length : Int) := by
  by_cases hu : 0 ≤ upF U (i : Int)
  · obtain ⟨_, _, q, _, _, e, hq, _⟩ := h.upAt hi hw hu
    omega
  · omega
theorem MergeSt.next (hi : i < B.length) (hw : wet G i = false) {j : Nat} (hu : upF U (i : Int) = (j : Int)) (n1 : sub (gOf B (i : Int)) (gOf B (j : Int)) = false) (n2 : sub (gOf B (j : Int)) (gOf B (i : Int)) = false) : MergeSt B U0 U G (i + 1) B' U' σ (p + 1) := by
  obtain ⟨h1, h2, q, hq, e1, e2, hql, b1, b2⟩ := h.upAt hi hw (by omega)
  obtain ⟨_, _, h3⟩ := h.at_.kept h.kept h.sim hi hw
  have hl := h.sim.lenB
  have hj : ge σ q = j := by omega
  rw [hj] at b2
  exact ⟨h.len, h.sim, h.kept, h.formed, h3, fun X Y hr => h.run X Y (.next (by omega) (.inr (by rw [e1, b1, b2]; exact ⟨n1, n2⟩)) hr)⟩
/-- The bag i goes into the one above. -/
theorem MergeSt.low (hi : i < B.length) (hw : wet G i = false) {j : Nat} (hu : upF U (i : Int) = (j : Int)) (n1 : sub (gOf B (i : Int)) (gOf B (j : Int)) = true) : ∃ q : Nat, MergeSt B U0 (dropU U i j) (G.set i true) 0 (remB B' (p : Int)) (remU U' (p : Int) (q : Int)) (σ.eraseIdx p) 0 ∧ p < σ.length := by
  obtain ⟨h1, h2, q, hq, e1, e2, hql, b1, b2⟩ := h.upAt hi hw (by omega)
  have hl := h.sim.lenB
  have hj : ge σ q = j := by omega
  rw [hj] at b2
  obtain ⟨t, e3, hg⟩ := goes_low h.formed (by omega : p < B'.length) (by omega) (by rw [e1, b1, b2]; exact n1)
  obtain rfl : t = q := by omega
  have hnu : upF U (j : Int) ≠ (i : Int) := by
    intro e
    rw [← hj, ← h2] at e
    obtain ⟨f, hh⟩ := h.formed.rank
    rcases h.sim.up t hq with ⟨a1, a2⟩ | ⟨m, hm, a1, a2⟩
    · omega
    · have : m = p := h.sim.inj hm h1 (by omega)
      subst this
      have g1 := hh (m : Int) (by omega) (by omega) (by omega)
      have g2 := hh (t : Int) (by omega) (by omega) (by omega)
      rw [e1] at g1; rw [a1] at g2; omega
  have hs := h.sim.join h.len h.formed hg
  have hk := h.kept.drop h.sim h1
  rw [h2] at hk
  rw [h2, hj, ← dropU_low hnu] at hs
  refine ⟨t, ⟨by rw [dropU_length]; exact h.len, hs, hk, formed_rem h.formed hg, AtP.zero _, fun X Y hr => h.run X Y (.low (by omega) (by omega) (by rw [e1, b1, b2]; exact n1) ?_)⟩, h1⟩
  rw [e1]; exact hr
/-- The bag above goes into the bag i. -/
theorem MergeSt.high (hi : i < B.length) (hw : wet G i = false) {j : Nat} (hu : upF U (i : Int) = (j : Int)) (n1 : sub (gOf B (i : Int)) (gOf B (j : Int)) = false) (n2 : sub (gOf B (j : Int)) (gOf B (i : Int)) = true) : ∃ q : Nat, MergeSt B U0 (dropU (U.set i (upF U (j : Int))) j i) (G.set j true) 0 (remB B' (q : Int)) (remU U' (q : Int) (p : Int)) (σ.eraseIdx q) 0 ∧ q < σ.length := by
  obtain ⟨h1, h2, q, hq, e1, e2, hql, b1, b2⟩ := h.upAt hi hw (by omega)
  have hl := h.sim.lenB
  have hj : ge σ q = j := by omega
  rw [hj] at b2
  obtain ⟨t, e3, hg⟩ := goes_high h.formed (by omega : p < B'.length) (by omega) (by rw [e1, b1, b2]; exact n2)
  obtain rfl : t = q := by omega
  have hne := goes_ne h.formed hg
  have hij : i ≠ j := fun e => hne (h.sim.inj hq h1 (by omega))
  have hs := h.sim.join h.len h.formed hg
  have hk := h.kept.drop h.sim hq
  rw [hj] at hk
  rw [h2, hj, ← dropU_high (by rw [h.len]; exact hi) hij hu] at hs
  refine ⟨t, ⟨by rw [dropU_length, List.length_set]; exact h.len, hs, hk, formed_rem h.formed hg, AtP.zero _, fun X Y hr => h.run X Y (.high (by omega) (by omega) (by rw [e1, b1, b2]; exact n1) (by rw [e1, b1, b2]; exact n2) ?_)⟩, hq⟩
  rw [e1]; exact hr
end
theorem MergeSt.done {B B' : List VS} {U0 U U' : List Int} {G : List Bool} {p : Nat} {σ : List Nat} (h : MergeSt B U0 U G B.length B' U' σ p) : MRun B U0 0 B' U' := by
  have hp := h.at_.full h.sim
  exact h.run _ _ (.done (by rw [h.sim.lenB]; omega))
/-- The places of the bags that are kept, as far as k. -/
def PlaceSt (P : List Int) (σ : List Nat) (n k : Nat) : Prop := P.length = n ∧ ∀ q, q < σ.length → ge σ q < k → upF P (ge σ q : Int) = (q : Int)
theorem PlaceSt.start (σ : List Nat) (n : Nat) : PlaceSt (List.replicate n 0) σ n 0 := ⟨by simp, fun q _ h => by omega⟩
theorem PlaceSt.gone {P : List Int} {σ : List Nat} {G : List Bool} {n k p : Nat} (h : PlaceSt P σ n k) (hk : Kept G n σ) (hi : k < n) (hw : wet G k = true) : PlaceSt (P.set k (p : Int)) σ n (k + 1) := by
  refine ⟨by rw [List.length_set]; exact h.1, fun q hq hlt => ?_⟩
  have hne : ge σ q ≠ k := fun e => by
    have := (hk.2 k hi).2 ⟨q, hq, e⟩
    rw [hw] at this; cases this
  have := h.2 q hq (by omega)
  have hl := h.1
  rw [upF_nat _ _ (by rw [List.length_set]; omega), List.getElem_set, if_neg (fun e => hne e.symm), ← upF_nat P _ (by omega)]
  exact this
theorem PlaceSt.kept {B B' : List VS} {U U' : List Int} {P : List Int} {σ : List Nat} {n p : Nat} (h : PlaceSt P σ n (ge σ p)) (hs : Sim B U B' U' σ) (hp : p < σ.length) (hi : ge σ p < n) : PlaceSt (P.set (ge σ p) (p : Int)) σ n (ge σ p + 1) := by
  refine ⟨by rw [List.length_set]; exact h.1, fun q hq hlt => ?_⟩
  have hl := h.1
  rw [upF_nat _ _ (by rw [List.length_set]; omega), List.getElem_set]
  by_cases e : q = p
  · subst e; rw [if_pos rfl]
  · have hne : ge σ p ≠ ge σ q := fun e2 => e (hs.inj hq hp e2.symm)
    rw [if_neg hne, ← upF_nat P _ (by omega)]
    exact h.2 q hq (by omega)
theorem bag_step {B B' : List VS} {U U' : List Int} {σ : List Nat} {p : Nat} (hs : Sim B U B' U' σ) (hp : p < σ.length) : B'.take p ++ [gOf B (ge σ p : Int)] = B'.take (p + 1) := by
  have hl := hs.lenB
  rw [List.take_succ_eq_append_getElem (by omega : p < B'.length), ← gOf_nat B' p (by omega), hs.bag p hp]
theorem up_neg {B B' : List VS} {U U' : List Int} {σ : List Nat} {p : Nat} (hs : Sim B U B' U' σ) (hp : p < σ.length) (h : upF U (ge σ p : Int) < 0) : U'.take p ++ [-1] = U'.take (p + 1) := by
  have hl := hs.lenU
  rw [List.take_succ_eq_append_getElem (by omega : p < U'.length), ← upF_nat U' p (by omega)]
  rcases hs.up p hp with ⟨e1, e2⟩ | ⟨q, hq, e1, e2⟩
  · rw [e1]
  · omega
theorem up_pos {B B' : List VS} {U U' P : List Int} {σ : List Nat} {p : Nat} (hs : Sim B U B' U' σ) (hp : p < σ.length) (h : 0 ≤ upF U (ge σ p : Int)) (hP : PlaceSt P σ B.length B.length) :
    ∃ m : Nat, upF U (ge σ p : Int) = (m : Int) ∧ m < B.length ∧ U'.take p ++ [upF P (m : Int)] = U'.take (p + 1) ∧ 0 ≤ upF P (m : Int) := by
  have hl := hs.lenU
  rcases hs.up p hp with ⟨e1, e2⟩ | ⟨q, hq, e1, e2⟩
  · omega
  · have hlt := hs.lt q hq
    refine ⟨ge σ q, e2, hlt, ?_, ?_⟩
    · rw [List.take_succ_eq_append_getElem (by omega : p < U'.length), ← upF_nat U' p (by omega), hP.2 q hq hlt, e1]
    · rw [hP.2 q hq hlt]; omega
theorem erase_take_step {α : Type} (X : List α) (i k : Nat) (h : k < X.length) : (X.take (k + 1)).eraseIdx i = if k = i then (X.take k).eraseIdx i else (X.take k).eraseIdx i ++ [X[k]] := by
  rw [List.take_succ_eq_append_getElem h]
  by_cases e : k = i
  · subst e
    rw [if_pos rfl, List.eraseIdx_append_of_length_le (by simp <;> omega), List.eraseIdx_of_length_le (l := X.take k) (by simp <;> omega)]
    simp [Nat.min_eq_left (Nat.le_of_lt h)]
  · rw [if_neg e]
    rcases Nat.lt_or_gt_of_ne e with h1 | h1
    · rw [List.eraseIdx_of_length_le (l := X.take k) (by simp; omega), List.eraseIdx_of_length_le (by simp; omega)]
    · rw [List.eraseIdx_append_of_lt_length (by simp; omega)]
/-- The new indices, ahead of the removal. -/
def movedU (U : List Int) (i t : Int) : List Int := (List.range U.length).map fun k : Nat => down1 i (upOld U i t (k : Int))
theorem movedU_length (U : List Int) (i t : Int) : (movedU U i t).length = U.length := by simp [movedU]
theorem movedU_get (U : List Int) (i t : Int) (k : Nat) (h : k < U.length) : (movedU U i t)[k]'(by rw [movedU_length]; exact h) = down1 i (upOld U i t (k : Int)) := by simp [movedU]
theorem remU_moved (U : List Int) (i : Nat) (t : Int) : remU U (i : Int) t = (movedU U (i : Int) t).eraseIdx i := by unfold remU movedU; rw [Int.toNat_natCast]
theorem remB_erase (B : List VS) (i : Nat) : remB B (i : Int) = B.eraseIdx i := by unfold remB; rw [Int.toNat_natCast]
end Go.Proofs.YtmlecpapoeodkaaDoor
namespace Go.Proofs.YtmlecpapoeodkaaDoor
open Go.RowKit
attribute [local go_sem ↓] run_eqlS run_neqS run_eqlS0 run_neqS0

/-- What is in memory while the tree without some bags is made: the result, the tree so far, the places. -/
structure WoMem (w wr : World) (n : Nat) (P : List Int) (vB vU : Value) (B : List VS) (U : List Int) : Prop where
  ord : w.heap.size ≤ n
  rv : Box2 wr n 25 (.slice none 0 0) (.slice none 0 0)
  dv : Box2 wr (n + 1) 25 vB vU
  prow : IntRow wr (n + 2) P
  own : OwnSets wr (n + 3) vB B
  ownU : OwnInts wr (n + 3) vU U
  low : Below w.heap.size w wr
  sz : n + 3 ≤ wr.heap.size
section
variable {w wr wr' : World} {n : Nat} {P : List Int} {vB vU : Value} {B : List VS} {U : List Int} (h : WoMem w wr n P vB vU B U)
include h
theorem WoMem.below (hb : Below wr.heap.size wr wr') : WoMem w wr' n P vB vU B U :=
  ⟨h.ord, h.rv.below hb h.rv.lt, h.dv.below hb h.dv.lt, h.prow.below hb h.prow.lt, h.own.below hb, h.ownU.below hb, h.low.trans (hb.mono h.low.size), Nat.le_trans h.sz hb.size⟩
theorem WoMem.place (i : Nat) (x : Int) : WoMem w (wr.setCell ⟨n + 2, i, none⟩ (.int .i64 x)) n (P.set i x) vB vU B U := by
  have ho := h.ord
  have hg : wr.grownBy (wr.setCell ⟨n + 2, i, none⟩ (.int .i64 x)) (some (n + 2)) := ⟨rfl, rfl, rfl, by simp [World.setCell], fun k _ hne => Below.heap_setCell _ _ _ _ (by intro e; exact hne (by rw [e]))⟩
  have n1 : ∀ b, b ≠ n + 2 → some b ≠ some (n + 2) := fun b hb e => hb (by simpa using e)
  exact ⟨ho, h.rv.kept hg (n1 _ (by omega)), h.dv.kept hg (n1 _ (by omega)), h.prow.store i x, h.own.kept hg (own_far h.own (by intro k e; cases e; omega)), h.ownU.kept hg (own_far h.ownU (by intro k e; cases e; omega)),
    h.low.grown hg h.low.size (by intro k e; cases e; omega), Nat.le_trans h.sz hg.size⟩
theorem WoMem.bags {vB' : Value} {B' : List VS} {w2 : World} (hg : wr.grownBy w2 vB.ownBlock) (h1 : OwnSets w2 (n + 3) vB' B') : WoMem w (w2.setCell ⟨n + 1, 0, none⟩ vB') n P vB' vU B' U := by
  have ho := h.ord
  have hf : ∀ k, vB.ownBlock = some k → n + 3 ≤ k := fun k e => (h.own.lt k e).1
  have n1 : ∀ b, b < n + 3 → some b ≠ vB.ownBlock := fun b hb e => by have := hf b e.symm; omega
  have hg2 : w2.grownBy (w2.setCell ⟨n + 1, 0, none⟩ vB') (some (n + 1)) := ⟨rfl, rfl, rfl, by simp [World.setCell], fun k _ hne => Below.heap_setCell _ _ _ _ (by intro e; exact hne (by rw [e]))⟩
  have n2 : ∀ b, b ≠ n + 1 → some b ≠ some (n + 1) := fun b hb e => hb (by simpa using e)
  have h2 := h.ownU.kept hg (own_apart h.ownU h.own (by decide))
  exact ⟨ho, (h.rv.kept hg (n1 _ (by omega))).kept hg2 (n2 _ (by omega)), (h.dv.kept hg (n1 _ (by omega))).set0 vB', (h.prow.kept hg (n1 _ (by omega))).kept hg2 (n2 _ (by omega)),
    h1.kept hg2 (own_far h1 (by intro k e; cases e; omega)), h2.kept hg2 (own_far h2 (by intro k e; cases e; omega)), (h.low.grown hg h.low.size (by intro k e; have := hf k e; omega)).setCell (p := ⟨n + 1, 0, none⟩) (by show w.heap.size ≤ n + 1; omega) _,
    by have := h.sz; have := hg.size; have := hg2.size; omega⟩
theorem WoMem.ups {vU' : Value} {U' : List Int} {w2 : World} (hg : wr.grownBy w2 vU.ownBlock) (h2 : OwnInts w2 (n + 3) vU' U') : WoMem w (w2.setCell ⟨n + 1, 1, none⟩ vU') n P vB vU' B U' := by
  have ho := h.ord
  have hf : ∀ k, vU.ownBlock = some k → n + 3 ≤ k := fun k e => (h.ownU.lt k e).1
  have n1 : ∀ b, b < n + 3 → some b ≠ vU.ownBlock := fun b hb e => by have := hf b e.symm; omega
  have hg2 : w2.grownBy (w2.setCell ⟨n + 1, 1, none⟩ vU') (some (n + 1)) := ⟨rfl, rfl, rfl, by simp [World.setCell], fun k _ hne => Below.heap_setCell _ _ _ _ (by intro e; exact hne (by rw [e]))⟩
  have n2 : ∀ b, b ≠ n + 1 → some b ≠ some (n + 1) := fun b hb e => hb (by simpa using e)
  have h1 := h.own.kept hg (own_apart h.own h.ownU (by decide))
  exact ⟨ho, (h.rv.kept hg (n1 _ (by omega))).kept hg2 (n2 _ (by omega)), (h.dv.kept hg (n1 _ (by omega))).set1 vU', (h.prow.kept hg (n1 _ (by omega))).kept hg2 (n2 _ (by omega)),
    h1.kept hg2 (own_far h1 (by intro k e; cases e; omega)), h2.kept hg2 (own_far h2 (by intro k e; cases e; omega)), (h.low.grown hg h.low.size (by intro k e; have := hf k e; omega)).setCell (p := ⟨n + 1, 1, none⟩) (by show w.heap.size ≤ n + 1; omega) _,
    by have := h.sz; have := hg.size; have := hg2.size; omega⟩
end
/-- A tree in new memory. -/
def WoPost (B : List VS) (U : List Int) (w : World) (e : Ending) (w' : World) : Prop :=
  ∃ vB vU, e = .returned (.agg #[vB, vU]) ∧ OwnSets w' w.heap.size vB B ∧ OwnInts w' w.heap.size vU U ∧ Below w.heap.size w w'
set_option maxRecDepth 100000 in
set_option maxHeartbeats 16000000 in
theorem without_c (pd gG : Nat) (pb pu : Option Addr) (cb cu : Nat) (B B' : List VS) (U U' : List Int) (G : List Bool) (σ : List Nat) (w : World)
    (hd : Box2 w pd 25 (.slice pb B.length cb) (.slice pu U.length cu)) (hx : SetsAt w (.slice pb B.length cb) B) (hy : IntsAt w (.slice pu U.length cu) U) (hG : WetRow w gG G)
    (hs : Sim B U B' U' σ) (hk : Kept G B.length σ) (hlen : U.length = B.length) (hle : B.length ≤ 1000) :
    Calls Tryd.prog 50 #[.pointer (some ⟨pd, 0, none⟩), .slice (some ⟨gG, 0, none⟩) G.length G.length] w (WoPost B' U' w) := by
  have HX := hid (fun w' (h : Below w.heap.size w w') => hx.below h)
  have HY := hid (fun w' (h : Below w.heap.size w w') => hy.below h)
  have HD := hid (fun w' (h : Below w.heap.size w w') => hd.below h hd.lt)
  have HG := hid (fun w' (h : Below w.heap.size w w') => hG.below h hG.lt)
  have hpd := hd.lt
  have HLEN := hid hlen
  have HS := hid hs
  have HK := hid hk
  have hgl : G.length = B.length := hk.1
  have HGL := hid hgl
  have hmk := fun w' => make_ints w' U.length (by omega) (U.length : Int) (U.length : Int) rfl rfl
  obtain ⟨a0, a1, _, _⟩ := ((hd.alloc (.cells #[.slice none 0 0, .slice none 0 0] 25)).alloc (.cells #[.slice none 0 0, .slice none 0 0] 25)).cells
  obtain ⟨a2, a3, _, _⟩ := (((hd.alloc (.cells #[.slice none 0 0, .slice none 0 0] 25)).alloc (.cells #[.slice none 0 0, .slice none 0 0] 25)).alloc (.cells (madeCells #[.int .i64 0] U.length) 3)).cells
  have b0 := ((Box2.new w 25 (.slice none 0 0) (.slice none 0 0)).alloc (.cells #[.slice none 0 0, .slice none 0 0] 25)).alloc (.cells (madeCells (Value.int .i64 0).cells U.length) 3)
  have b1 := (Box2.new (w.alloc (.cells #[.slice none 0 0, .slice none 0 0] 25)) 25 (.slice none 0 0) (.slice none 0 0)).alloc (.cells (madeCells (Value.int .i64 0).cells U.length) 3)
  have b2 := IntRow.made ((w.alloc (.cells #[.slice none 0 0, .slice none 0 0] 25)).alloc (.cells #[.slice none 0 0, .slice none 0 0] 25)) U.length
  rw [World.size_alloc] at b1
  rw [World.size_alloc, World.size_alloc] at b2
  have hm0 : WoMem w (((w.alloc (.cells #[.slice none 0 0, .slice none 0 0] 25)).alloc (.cells #[.slice none 0 0, .slice none 0 0] 25)).alloc (.cells (madeCells #[.int .i64 0] U.length) 3)) w.heap.size (List.replicate U.length 0) (.slice none 0 0) (.slice none 0 0) [] [] :=
    ⟨Nat.le_refl _, b0, b1, b2, OwnSets.nil _ _, OwnInts.nil _ _, (((Below.refl _ w).alloc (Nat.le_refl _) _).alloc (by simp) _).alloc (by simp; omega) _, by simp⟩
  have HM0 := hid hm0
  clear b0 b1 b2 hm0 hx hy hd hG hs hk hlen hgl
  go_enter Tryd.func50, Tryd.ntmps50
  go_wp2_with fail
  have hm0' : WoMem w (((w.alloc (.cells #[.slice none 0 0, .slice none 0 0] 25)).alloc (.cells #[.slice none 0 0, .slice none 0 0] 25)).alloc (.cells (madeCells #[.int .i64 0] U.length) 3)) w.heap.size (List.replicate U.length 0) (.slice none 0 0) (.slice none 0 0) [] [] := HM0.out
  clear HM0
  generalize ((w.alloc (.cells #[.slice none 0 0, .slice none 0 0] 25)).alloc (.cells #[.slice none 0 0, .slice none 0 0] 25)).alloc (.cells (madeCells #[.int .i64 0] U.length) 3) = w1 at *
  obtain ⟨n, hn⟩ : ∃ n, n = w.heap.size := ⟨_, rfl⟩
  rw [← hn] at hm0' ⊢
  have hpn : pd < n := by omega
  try rw [show n + 1 + 1 = n + 2 from rfl]
  have HM0 := hid hm0'
  clear hn hm0' hmk a0 a1 a2 a3
  go_loopw [22] (fun z wr => ∃ (k p : Nat) (P : List Int) (vB : Value), k ≤ B.length ∧ z = .int .i64 k ∧ Hid (AtP σ k p) ∧ Hid (PlaceSt P σ B.length k) ∧ Hid (WoMem w wr n P vB (.slice none 0 0) (B'.take p) [])) (fun z _ => B.length - (intOf z).toNat)
  case atStart => exact ⟨0, 0, _, _, Nat.zero_le _, rfl, AtP.zero _, by have := PlaceSt.start σ B.length; rw [← HLEN.out] at this; rw [← HLEN.out]; exact this, HM0.out⟩
  case round =>
    clear HM0
    obtain ⟨k, p, P, vB, hk, rfl, hat, hpl, hm⟩ := hrel
    by_cases hkl : k < B.length
    · obtain ⟨b, off, cq, eq, hbl⟩ := (HX.out _ hm.out.low).form (by omega)
      injection eq with e1 _ e2
      subst e1; subst e2
      obtain ⟨s, hs, q0, q1⟩ := (HX.out _ hm.out.low).get k hkl
      have HSG := hid (show gOf B (k : Int) = s from by rw [gOf_nat B k hkl]; exact hs)
      have zk : (0 : Int) ≤ (k : Int) ∧ (k : Int) < (B.length : Int) := by omega
      have zku : (0 : Int) ≤ (k : Int) ∧ (k : Int) < (U.length : Int) := by have := HLEN.out; omega
      have zkg : (0 : Int) ≤ (k : Int) ∧ (k : Int) < (G.length : Int) := by have := HGL.out; omega
      have hlp : (B'.take p).length = p := by rw [List.length_take, HS.out.lenB]; have := hat.out.le; omega
      obtain ⟨pB, cB, eB, _⟩ := hm.out.own.sets
      rw [hlp] at eB
      subst eB
      have hpr : p ≤ 1000 := by have := hat.out.bound HS.out; omega
      have hmS := hm.out.below ((Below.refl _ _).alloc (Nat.le_refl _) (.cells #[.int .u64 ((lw s).toNat : Int), .int .u64 ((hw s).toNat : Int)] 32))
      have hvS := SetVar.new wr s 32
      have hmP := hmS.place k (p : Int)
      have hsz := hm.out.sz
      have hvP := hvS.other (a := ⟨n + 2, k, none⟩) (by show wr.heap.size ≠ n + 2; omega) (.int .i64 (p : Int))
      obtain ⟨v0, v1, _, _⟩ := hvP.cells
      obtain ⟨d0, d1, _, _⟩ := hmS.dv.cells
      obtain ⟨pc, pf⟩ := hmS.prow.at k (by rw [hpl.out.1]; exact hkl)
      obtain ⟨g0, _⟩ := (HG.out _ hmP.low).at k (by rw [HGL.out]; exact hkl)
      have HMP := hid hmP
      have HVP := hid hvP
      clear hbl hlp hmS hvS hmP hvP hs hm
      cases hwk : wet G k
      · obtain ⟨h1, h2, h3⟩ := hat.out.kept HK.out HS.out hkl hwk
        have HAT := hid h3
        have HPL := hid (show PlaceSt (P.set k (p : Int)) σ B.length (k + 1) from by
          have := PlaceSt.kept (p := p) (by rw [h2]; exact hpl.out) HS.out h1 (by rw [h2]; exact hkl)
          rw [h2] at this; exact this)
        have HBG := hid (show B'.take p ++ [s] = B'.take (p + 1) from by
          have := bag_step HS.out h1
          rw [h2, HSG.out] at this; exact this)
        rw [hwk] at g0
        have hul : (B'.take p).length ≤ 1000 := by rw [List.length_take]; omega
        have HMA := hid (HMP.out.below ((Below.refl _ _).alloc (Nat.le_refl _) (.cells #[.int .u64 ((lw s).toNat : Int), .int .u64 ((hw s).toNat : Int)] 32)))
        have hon := one_set ((wr.alloc (.cells #[.int .u64 ((lw s).toNat : Int), .int .u64 ((hw s).toNat : Int)] 32)).setCell ⟨n + 2, k, none⟩ (.int .i64 (p : Int))) s
        rw [show ((wr.alloc (.cells #[.int .u64 ((lw s).toNat : Int), .int .u64 ((hw s).toNat : Int)] 32)).setCell ⟨n + 2, k, none⟩ (.int .i64 (p : Int))).heap.size = wr.heap.size + 1 from by simp [World.setCell]] at hon
        have HON := hid hon
        clear hon
        obtain ⟨d0a, d1a, f0a, f1a⟩ := HMP.out.dv.cells
        obtain ⟨d0b, d1b, f0b, f1b⟩ := HMA.out.dv.cells
        clear hwk h1 h2 h3
        go_wp2_with (at_builtin; refine wpList_append_S rfl _ _ rfl (n + 3) (.slice pB p cB) _ rfl HMA.out.own _ [s] rfl HON.out (by show _ + 1 ≤ 16777216; omega) HMA.out.sz ?_; intro vB2 w12 hown2 hg2 _; have dv2 := HMA.out.dv.kept hg2 (fun e => by have := (HMA.out.own.lt _ e.symm).1; omega); obtain ⟨y0, y1, y2, y3⟩ := dv2.cells; obtain ⟨p12, c12, e12, _⟩ := hown2.sets; generalize (List.take p B' ++ [s]).length = len12 at e12; subst e12)
        have HM12 := HMA.out.bags hg2 hown2
        rw [HBG.out] at HM12
        have HX2 := hid HM12
        clear HM12 hown2 hg2 dv2 y0 y1 y2 y3 d0 d1 d0a d1a f0a f1a d0b d1b f0b f1b
        go_roundw
        case rel => exact ⟨k + 1, p + 1, _, _, by omega, by go_num, HAT.out, HPL.out, HX2.out⟩
        case measure => simp [intOf]; omega
      · have HAT := hid (hat.out.gone HK.out hkl hwk)
        have HPL := hid (hpl.out.gone (p := p) HK.out hkl hwk)
        rw [hwk] at g0
        clear hwk
        go_wp2_with fail
        go_roundw
        case rel => exact ⟨k + 1, p, _, _, by omega, by go_num, HAT.out, HPL.out, HMP.out⟩
        case measure => simp [intOf]; omega
    · obtain rfl : k = B.length := by omega
      have hpf := hat.out.full HS.out
      have hm2 := hm.out
      rw [List.take_of_length_le (by rw [HS.out.lenB]; omega)] at hm2
      have HM1 := hid hm2
      have hbl1 : B'.length ≤ 1000 := by have := HS.out.lenB; have := hat.out.bound HS.out; omega
      have HPL := hid hpl.out
      obtain ⟨c0, c1, _, _⟩ := (HD.out _ hm.out.low).cells
      clear hm hm2 hat hpl hpf
      go_wp2_with fail
      go_loopw [50] (fun z wq => ∃ (k p : Nat) (vU : Value), k ≤ B.length ∧ z = .int .i64 k ∧ Hid (AtP σ k p) ∧ Hid (WoMem w wq n P vB vU B' (U'.take p))) (fun z _ => B.length - (intOf z).toNat)
      case atStart => exact ⟨0, 0, _, Nat.zero_le _, rfl, AtP.zero _, HM1.out⟩
      case round =>
        clear HM1 c0 c1
        obtain ⟨k, p, vU, hk, rfl, hat, hm⟩ := hrel
        by_cases hkl : k < B.length
        · obtain ⟨b, off, cq, eq, hbl, hcs⟩ := (HY.out _ hm.out.low).form (by rw [HLEN.out]; omega)
          injection eq with e1 _ e2
          subst e1; subst e2
          have hku : k < U.length := by rw [HLEN.out]; exact hkl
          have ck := hcs k hku
          rw [← upF_nat U k hku] at ck
          have zku : (0 : Int) ≤ (k : Int) ∧ (k : Int) < (U.length : Int) := by omega
          have zkg : (0 : Int) ≤ (k : Int) ∧ (k : Int) < (G.length : Int) := by have := HGL.out; omega
          obtain ⟨g0, _⟩ := (HG.out _ hm.out.low).at k (by rw [HGL.out]; exact hkl)
          have hul : (U'.take p).length ≤ 1000 := by rw [List.length_take]; have := hat.out.bound HS.out; omega
          clear hbl hcs
          cases hwk : wet G k
          · obtain ⟨h1, h2, h3⟩ := hat.out.kept HK.out HS.out hkl hwk
            have HAT := hid h3
            rw [hwk] at g0
            by_cases hneg : upF U (k : Int) < 0
            · have HUG := hid (show U'.take p ++ [-1] = U'.take (p + 1) from up_neg HS.out h1 (by rw [h2]; exact hneg))
              have HMA := hid (hm.out.below ((Below.refl _ _).alloc (Nat.le_refl _) (.cells #[.int .i64 (-1)] 3)))
              have HON := hid (one_int wr (-1) 3)
              obtain ⟨d0a, d1a, f0a, f1a⟩ := hm.out.dv.cells
              obtain ⟨d0b, d1b, f0b, f1b⟩ := HMA.out.dv.cells
              generalize upF U (k : Int) = u at *
              clear hwk h1 h2 h3
              go_wp2_with (at_builtin; refine wpList_append_I rfl _ _ rfl (n + 3) vU _ rfl HMA.out.ownU _ [-1] rfl HON.out (by show _ + 1 ≤ 16777216; omega) HMA.out.sz ?_; intro vU2 w12 hown2 hg2 _; have dv2 := HMA.out.dv.kept hg2 (fun e => by have := (HMA.out.ownU.lt _ e.symm).1; omega); obtain ⟨y0, y1, y2, y3⟩ := dv2.cells; obtain ⟨p12, c12, e12, _⟩ := hown2.ints; generalize (List.take p U' ++ [-1]).length = len12 at e12; subst e12)
              have HM12 := HMA.out.ups hg2 hown2
              rw [HUG.out] at HM12
              have HX2 := hid HM12
              clear HM12 hown2 hg2 dv2 y0 y1 y2 y3 d0a d1a f0a f1a d0b d1b f0b f1b
              go_roundw
              case rel => exact ⟨k + 1, p + 1, _, by omega, by go_num, HAT.out, HX2.out⟩
              case measure => simp [intOf]; omega
            · obtain ⟨m, e3, hml, hug, hpos⟩ := up_pos HS.out h1 (by rw [h2]; omega) HPL.out
              rw [h2] at e3
              have hmP : m < P.length := by rw [HPL.out.1]; exact hml
              have cm := (hm.out.prow.at m hmP).1
              rw [← upF_nat P m hmP] at cm
              have HUG := hid hug
              have HPLEN := hid HPL.out.1
              have hulen := HLEN.out
              have zm : (0 : Int) ≤ (m : Int) ∧ (m : Int) < (U.length : Int) := by omega
              rw [e3] at ck hneg
              generalize upF P (m : Int) = x at *
              have BB : Hid (Box2 wr.drew (n + 1) 25 vB vU) := hm.out.dv
              have CM : Hid (wr.drew.cell? ⟨n + 2, m, none⟩ = some (.int .i64 x)) := cm
              clear hwk h1 h2 h3 e3 hug cm hulen
              go_wp2_with fail
              refine Go.Proofs.YtmlecpapoeodkaaDoor.wp_region_L 10 7 (fun w' => Box2 w' (n + 1) 25 (vB) (vU) ∧ w'.cell? ⟨n + 2, m, none⟩ = some (.int .i64 x)) (by kernel_rfl) rfl ⟨BB.out, CM.out⟩ (fun _ => ?_)
              refine wpAnyL_pure (i := 0) (v := .pointer (some ⟨n + 1, 1, none⟩)) (by simp only [List.getElem?_toArray, List.getElem?_cons_zero] <;> rfl) (by kernel_rfl) (by kernel_rfl) (by kernel_rfl) (by exact fun _ _ _ h => h) (by decide) (.inr ⟨BB.out, CM.out⟩) (Or.inl ⟨by rfl, fun w _ => (by simp [execOp, go_sem, Act.eval])⟩) (fun _ => ?_)
              simp only [Act.put, List.setIfInBounds_toArray, List.set_cons_zero, List.set_cons_succ]
              refine wpAnyL_load2 (i := 1) (v := vU) (by simp only [List.getElem?_toArray, List.getElem?_cons_zero, List.getElem?_cons_succ] <;> rfl) (by kernel_rfl) (by kernel_rfl) (by kernel_rfl) (by exact fun _ _ _ h => h) (by decide) (Waits.one rfl ⟨⟨1, .data⟩, by simp, rfl, rfl⟩) (by kernel_rfl) (by kernel_rfl) (.inr ⟨BB.out, CM.out⟩) (Or.inl ⟨by rfl, fun w hw => (by obtain ⟨x0, _⟩ := hw; simp [execOp, go_sem, Act.eval, x0.cells.2.1])⟩) (fun _ => ?_)
              simp only [Act.put, List.setIfInBounds_toArray, List.set_cons_zero, List.set_cons_succ]
              refine wpAnyL_pure (i := 2) (v := .slice (some ⟨n + 2, 0, none⟩) U.length U.length) (by simp only [List.getElem?_toArray, List.getElem?_cons_zero, List.getElem?_cons_succ] <;> rfl) (by kernel_rfl) (by kernel_rfl) (by kernel_rfl) (by exact fun _ _ _ h => h) (by decide) (.inr ⟨BB.out, CM.out⟩) (Or.inl ⟨by rfl, fun w _ => (by simp [execOp, go_sem, Act.eval])⟩) (fun _ => ?_)
              simp only [Act.put, List.setIfInBounds_toArray, List.set_cons_zero, List.set_cons_succ]
              refine wpAnyL_pure (i := 3) (v := .int .i64 (m : Int)) (by simp only [List.getElem?_toArray, List.getElem?_cons_zero, List.getElem?_cons_succ] <;> rfl) (by kernel_rfl) (by kernel_rfl) (by kernel_rfl) (by exact fun _ _ _ h => h) (by decide) (.inr ⟨BB.out, CM.out⟩) (Or.inl ⟨by rfl, fun w _ => (by simp [execOp, go_sem, Act.eval])⟩) (fun _ => ?_)
              simp only [Act.put, List.setIfInBounds_toArray, List.set_cons_zero, List.set_cons_succ]
              refine wpAnyL_pure (i := 4) (v := .pointer (some ⟨n + 2, m, none⟩)) (by simp only [List.getElem?_toArray, List.getElem?_cons_zero, List.getElem?_cons_succ] <;> rfl) (by kernel_rfl) (by kernel_rfl) (by kernel_rfl) (by exact fun _ _ _ h => h) (by decide) (.inr ⟨BB.out, CM.out⟩) (Or.inl ⟨by rfl, fun w _ => (by simp [execOp, go_sem, Act.eval, zm])⟩) (fun _ => ?_)
              simp only [Act.put, List.setIfInBounds_toArray, List.set_cons_zero, List.set_cons_succ]
              refine wpAnyL_load2 (i := 5) (v := .int .i64 x) (by simp only [List.getElem?_toArray, List.getElem?_cons_zero, List.getElem?_cons_succ] <;> rfl) (by kernel_rfl) (by kernel_rfl) (by kernel_rfl) (by exact fun _ _ _ h => h) (by decide) (Waits.more (j := 6) rfl ⟨⟨6, .data⟩, by simp, rfl, rfl⟩ (Waits.one rfl ⟨⟨5, .data⟩, by simp, rfl, rfl⟩)) (by kernel_rfl) (by kernel_rfl) (.inr ⟨BB.out, CM.out⟩) (Or.inl ⟨by rfl, fun w hw => (by obtain ⟨_, x1⟩ := hw; simp [execOp, go_sem, Act.eval, x1])⟩) (fun _ => ?_)
              simp only [Act.put, List.setIfInBounds_toArray, List.set_cons_zero, List.set_cons_succ]
              have HM6 := hid ((hm.out.below ((Below.refl _ wr).drew)).below ((Below.refl _ wr.drew).alloc (Nat.le_refl _) (.cells #[.int .i64 x] 3)))
              have FK0 : Hid (Box2 (wr.drew.alloc (.cells #[.int .i64 x] 3)) (n + 1) 25 (vB) (vU)) := HM6.out.dv
              have FK1 : Hid ((wr.drew.alloc (.cells #[.int .i64 x] 3)).cell? ⟨n + 2, m, none⟩ = some (.int .i64 x)) := (((Below.refl _ wr.drew).alloc (Nat.le_refl _) (.cells #[.int .i64 x] 3)).cell (cell_lt CM.out)).trans CM.out
              refine wpAnyL_one (i := 6) (by kernel_rfl) (by simp only [List.getElem?_toArray, List.getElem?_cons_zero, List.getElem?_cons_succ] <;> rfl) (by rfl) ?_
              refine opwp_value (v := .slice (some ⟨wr.drew.heap.size, 0, none⟩) 1 1) (w' := (wr.drew.alloc (.cells #[.int .i64 x] 3))) (by simp [execOp, go_sem, Act.eval]) ⟨.inr ⟨FK0.out, FK1.out⟩, ?_⟩
              simp only [Act.put, List.setIfInBounds_toArray, List.set_cons_zero, List.set_cons_succ]
              refine wpAnyL_one (i := 7) (by kernel_rfl) (by simp only [List.getElem?_toArray, List.getElem?_cons_zero, List.getElem?_cons_succ] <;> rfl) (by rfl) ?_
              refine opwp_append_I _ _ rfl (n + 3) vU _ rfl HM6.out.ownU _ [x] rfl (one_int wr.drew x 3) (by show _ + 1 ≤ 16777216; omega) HM6.out.sz ?_
              intro vU2 w7 hown7 hg7 _
              have DV7 := hid (FK0.out.kept hg7 (fun e => by have := (HM6.out.ownU.lt _ e.symm).1; omega))
              obtain ⟨p7, c7, e7, _⟩ := hown7.ints
              generalize (List.take p U' ++ [x]).length = len7 at e7
              subst e7
              refine ⟨.inl (by kernel_rfl), ?_⟩
              simp only [Act.put, List.setIfInBounds_toArray, List.set_cons_zero, List.set_cons_succ]
              refine wpAnyL_pure (i := 8) (v := .pointer (some ⟨n + 1, 1, none⟩)) (by simp only [List.getElem?_toArray, List.getElem?_cons_zero, List.getElem?_cons_succ] <;> rfl) (by kernel_rfl) (by kernel_rfl) (by kernel_rfl) (by exact fun _ _ _ h => h) (by decide) (.inl (by kernel_rfl)) (Or.inl ⟨by rfl, fun w _ => (by simp [execOp, go_sem, Act.eval])⟩) (fun _ => ?_)
              simp only [Act.put, List.setIfInBounds_toArray, List.set_cons_zero, List.set_cons_succ]
              obtain ⟨_, y0, _, y2⟩ := DV7.out.cells
              refine wpAnyL_one (i := 9) (by kernel_rfl) (by simp only [List.getElem?_toArray, List.getElem?_cons_zero, List.getElem?_cons_succ] <;> rfl) (by rfl) ?_
              refine opwp_skip (w' := (w7.setCell ⟨n + 1, 1, none⟩ (.slice p7 len7 c7))) (by simp [execOp, go_sem, Act.eval, y0, y2]) ⟨.inl (by kernel_rfl), ?_⟩
              simp only [Act.put]
              refine wpAnyL_done (by kernel_rfl) ?_ _
              have HM7 := HM6.out.ups hg7 hown7
              rw [HUG.out] at HM7
              have HX2 := hid HM7
              clear HM7 HM6 hown7 hg7 FK0 FK1 DV7 y0 y2 BB CM
              go_wp2_with fail
              go_roundw
              case rel => exact ⟨k + 1, p + 1, _, by omega, by go_num, HAT.out, HX2.out⟩
              case measure => simp [intOf]; omega
          · have HAT := hid (hat.out.gone HK.out hkl hwk)
            rw [hwk] at g0
            generalize upF U (k : Int) = u at *
            clear hwk
            go_wp2_with fail
            go_roundw
            case rel => exact ⟨k + 1, p, _, by omega, by go_num, HAT.out, hm.out⟩
            case measure => simp [intOf]; omega
        · obtain rfl : k = B.length := by omega
          have hpf := hat.out.full HS.out
          have hul := HLEN.out
          have hm2 := hm.out
          rw [List.take_of_length_le (by rw [HS.out.lenU]; omega)] at hm2
          have HM := hid hm2
          obtain ⟨d0, d1, _, _⟩ := hm2.dv.cells
          obtain ⟨e0, e1, f0, f1⟩ := hm2.rv.cells
          have hord := hm2.ord
          have zend : ¬ (B.length : Int) < (U.length : Int) := by omega
          obtain ⟨qB, dB, eB, _⟩ := hm2.own.sets
          obtain ⟨qU, dU, eU, _⟩ := hm2.ownU.ints
          subst eB; subst eU
          clear hm hm2 hul
          go_wp2_with fail
          have o1 := (HM.out.own.kept (grownBy_01 _ n (.slice qB B'.length dB) (.slice qU U'.length dU)) (own_far HM.out.own (by intro k e; cases e; omega)))
          have o2 := (HM.out.ownU.kept (grownBy_01 _ n (.slice qB B'.length dB) (.slice qU U'.length dU)) (own_far HM.out.ownU (by intro k e; cases e; omega)))
          exact bodyPost_ret (results_box rfl rfl (HM.out.rv.set01 _ _)) rfl ⟨_, _, rfl, o1.mono (by omega), o2.mono (by omega), below_01 HM.out.low (by omega) _ _⟩
end Go.Proofs.YtmlecpapoeodkaaDoor
namespace Go.Proofs.YtmlecpapoeodkaaDoor
open Go.RowKit
attribute [local go_sem ↓] run_eqlS run_neqS run_eqlS0 run_neqS0

/-- Nothing but two rows has changed. -/
structure JoinMem (w w' : World) (gU gG : Nat) : Prop where
  size : w.heap.size ≤ w'.heap.size
  rest : ∀ k, k < w.heap.size → k ≠ gU → k ≠ gG → w'.heap[k]? = w.heap[k]?
  low : ∀ b, b ≤ gU → b ≤ gG → b ≤ w.heap.size → Below b w w'
theorem JoinMem.refl (w : World) (gU gG : Nat) : JoinMem w w gU gG := ⟨Nat.le_refl _, fun _ _ _ _ => rfl, fun _ _ _ _ => Below.refl _ _⟩
section
variable {w wr wr' : World} {gU gG : Nat} (h : JoinMem w wr gU gG)
include h
theorem JoinMem.below (hb : Below wr.heap.size wr wr') : JoinMem w wr' gU gG :=
  ⟨Nat.le_trans h.size hb.size, fun k h1 h2 h3 => (hb.block k (by have := h.size; omega)).trans (h.rest k h1 h2 h3), fun b h1 h2 h3 => (h.low b h1 h2 h3).trans (hb.mono (by have := h.size; omega))⟩
theorem JoinMem.setU (i : Nat) (x : Value) : JoinMem w (wr.setCell ⟨gU, i, none⟩ x) gU gG :=
  ⟨by have := h.size; simpa [World.setCell] using this, fun k h1 h2 h3 => (Below.heap_setCell _ _ _ _ (by intro e; exact h2 e)).trans (h.rest k h1 h2 h3), fun b h1 h2 h3 => (h.low b h1 h2 h3).setCell (p := ⟨gU, i, none⟩) h1 _⟩
theorem JoinMem.setG (i : Nat) (x : Value) : JoinMem w (wr.setCell ⟨gG, i, none⟩ x) gU gG :=
  ⟨by have := h.size; simpa [World.setCell] using this, fun k h1 h2 h3 => (Below.heap_setCell _ _ _ _ (by intro e; exact h3 e)).trans (h.rest k h1 h2 h3), fun b h1 h2 h3 => (h.low b h1 h2 h3).setCell (p := ⟨gG, i, none⟩) h2 _⟩
end
theorem WetRow.other {w : World} {g : Nat} {F : List Bool} (h : WetRow w g F) {a : Addr} (ha : g ≠ a.block) (v : Value) : WetRow (w.setCell a v) g F := h.same (Below.heap_setCell _ _ _ _ ha)
/-- What join does. -/
def JoinPost (B : List VS) (U : List Int) (G : List Bool) (i j gU gG : Nat) (w : World) (e : Ending) (w' : World) : Prop :=
  ∃ r : Bool, e = .returned (.bool r) ∧ JoinMem w w' gU gG ∧
    ((r = false ∧ sub (gOf B (i : Int)) (gOf B (j : Int)) = false ∧ sub (gOf B (j : Int)) (gOf B (i : Int)) = false ∧ IntRow w' gU U ∧ WetRow w' gG G) ∨
     (r = true ∧ sub (gOf B (i : Int)) (gOf B (j : Int)) = true ∧ IntRow w' gU (dropU U i j) ∧ WetRow w' gG (G.set i true)) ∨
     (r = true ∧ sub (gOf B (i : Int)) (gOf B (j : Int)) = false ∧ sub (gOf B (j : Int)) (gOf B (i : Int)) = true ∧ IntRow w' gU (dropU (U.set i (upF U (j : Int))) j i) ∧ WetRow w' gG (G.set j true)))
set_option maxRecDepth 100000 in
set_option maxHeartbeats 16000000 in
theorem join_c (pd gU gG i j : Nat) (pb : Option Addr) (cb cu : Nat) (B : List VS) (U : List Int) (G : List Bool) (w : World)
    (hd : Box2 w pd 25 (.slice pb B.length cb) (.slice (some ⟨gU, 0, none⟩) U.length cu)) (hx : SetsAt w (.slice pb B.length cb) B) (hU : IntRow w gU U) (hG : WetRow w gG G)
    (hpu : pd ≠ gU) (hpg : pd ≠ gG) (hug : gU ≠ gG) (hlen : U.length = B.length) (hgl : G.length = B.length) (hle : B.length ≤ 1000) (hi : i < B.length) (hj : j < B.length) :
    Calls Tryd.prog 49 #[.pointer (some ⟨pd, 0, none⟩), .int .i64 (i : Int), .int .i64 (j : Int), .slice (some ⟨gG, 0, none⟩) G.length G.length] w (JoinPost B U G i j gU gG w) := by
  obtain ⟨b, off, cq, eq, hbl⟩ := hx.form (by omega)
  injection eq with e1 _ e2
  subst e1; subst e2
  obtain ⟨bi, hbi, i0, i1⟩ := hx.get i hi
  obtain ⟨bj, hbj, j0, j1⟩ := hx.get j hj
  have HBI := hid (show gOf B (i : Int) = bi from by rw [gOf_nat B i hi]; exact hbi)
  have HBJ := hid (show gOf B (j : Int) = bj from by rw [gOf_nat B j hj]; exact hbj)
  have HD := hid hd
  have HU := hid hU
  have HG := hid hG
  have HLEN := hid hlen
  have HGL := hid hgl
  have zi : (0 : Int) ≤ (i : Int) ∧ (i : Int) < (B.length : Int) := by omega
  have zj : (0 : Int) ≤ (j : Int) ∧ (j : Int) < (B.length : Int) := by omega
  have ziu : (0 : Int) ≤ (i : Int) ∧ (i : Int) < (U.length : Int) := by omega
  have zju : (0 : Int) ≤ (j : Int) ∧ (j : Int) < (U.length : Int) := by omega
  have hule : U.length ≤ 1000 := by omega
  have HBX := hid (fun wq (h : JoinMem w wq gU gG) => hd.same (h.rest pd hd.lt hpu hpg))
  have BX : Hid (Box2 w.drew pd 25 (.slice (some ⟨b, off, none⟩) B.length cb) (.slice (some ⟨gU, 0, none⟩) U.length cu)) := hd
  have BI : Hid (w.drew.cell? ⟨b, off + i * 2, none⟩ = some (.int .u64 ((lw bi).toNat : Int)) ∧ w.drew.cell? ⟨b, off + i * 2 + 1, none⟩ = some (.int .u64 ((hw bi).toNat : Int))) := ⟨i0, i1⟩
  have BJ : Hid (w.drew.cell? ⟨b, off + j * 2, none⟩ = some (.int .u64 ((lw bj).toNat : Int)) ∧ w.drew.cell? ⟨b, off + j * 2 + 1, none⟩ = some (.int .u64 ((hw bj).toNat : Int))) := ⟨j0, j1⟩
  have HJ0 := hid ((JoinMem.refl w gU gG).below ((Below.refl _ w).drew))
  have BI0 := BI
  have BJ0 := BJ
  clear hbi hbj i0 i1 j0 j1 hx hd hU hG hlen hgl hbl
  go_enter Tryd.func49, Tryd.ntmps49
  go_wp2_with fail
  refine Go.Proofs.YtmlecpapoeodkaaDoor.wp_region_L 16 14 (fun w' => Box2 w' (pd) 25 (.slice (some ⟨b, off, none⟩) B.length cb) (.slice (some ⟨gU, 0, none⟩) U.length cu) ∧ (w'.cell? ⟨b, off + i * 2, none⟩ = some (.int .u64 ((lw (bi)).toNat : Int)) ∧ w'.cell? ⟨b, off + i * 2 + 1, none⟩ = some (.int .u64 ((hw (bi)).toNat : Int))) ∧ (w'.cell? ⟨b, off + j * 2, none⟩ = some (.int .u64 ((lw (bj)).toNat : Int)) ∧ w'.cell? ⟨b, off + j * 2 + 1, none⟩ = some (.int .u64 ((hw (bj)).toNat : Int)))) (by kernel_rfl) rfl ⟨BX.out, BI.out, BJ.out⟩ (fun _ => ?_)
  refine wpAnyL_pure (i := 0) (v := .pointer (some ⟨pd, 0, none⟩)) (by simp only [List.getElem?_toArray, List.getElem?_cons_zero] <;> rfl) (by kernel_rfl) (by kernel_rfl) (by kernel_rfl) (by exact fun _ _ _ h => h) (by decide) (.inr ⟨BX.out, BI.out, BJ.out⟩) (Or.inl ⟨by rfl, fun w _ => (by simp [execOp, go_sem, Act.eval])⟩) (fun _ => ?_)
  simp only [Act.put, List.setIfInBounds_toArray, List.set_cons_zero, List.set_cons_succ]
  refine wpAnyL_pure (i := 1) (v := .pointer (some ⟨pd, 0, none⟩)) (by simp only [List.getElem?_toArray, List.getElem?_cons_zero, List.getElem?_cons_succ] <;> rfl) (by kernel_rfl) (by kernel_rfl) (by kernel_rfl) (by exact fun _ _ _ h => h) (by decide) (.inr ⟨BX.out, BI.out, BJ.out⟩) (Or.inl ⟨by rfl, fun w _ => (by simp [execOp, go_sem, Act.eval])⟩) (fun _ => ?_)
  simp only [Act.put, List.setIfInBounds_toArray, List.set_cons_zero, List.set_cons_succ]
  refine wpAnyL_pure (i := 2) (v := .pointer (some ⟨pd, 0, none⟩)) (by simp only [List.getElem?_toArray, List.getElem?_cons_zero, List.getElem?_cons_succ] <;> rfl) (by kernel_rfl) (by kernel_rfl) (by kernel_rfl) (by exact fun _ _ _ h => h) (by decide) (.inr ⟨BX.out, BI.out, BJ.out⟩) (Or.inl ⟨by rfl, fun w _ => (by simp [execOp, go_sem, Act.eval])⟩) (fun _ => ?_)
  simp only [Act.put, List.setIfInBounds_toArray, List.set_cons_zero, List.set_cons_succ]
  refine wpAnyL_load2 (i := 3) (v := .slice (some ⟨b, off, none⟩) B.length cb) (by simp only [List.getElem?_toArray, List.getElem?_cons_zero, List.getElem?_cons_succ] <;> rfl) (by kernel_rfl) (by kernel_rfl) (by kernel_rfl) (by exact fun _ _ _ h => h) (by decide) (Waits.more (j := 6) rfl ⟨⟨6, .data⟩, by simp, rfl, rfl⟩ (Waits.more (j := 5) rfl ⟨⟨5, .data⟩, by simp, rfl, rfl⟩ (Waits.one rfl ⟨⟨3, .data⟩, by simp, rfl, rfl⟩))) (by kernel_rfl) (by kernel_rfl) (.inr ⟨BX.out, BI.out, BJ.out⟩) (Or.inl ⟨by rfl, fun w hw => (by obtain ⟨x0, _, _⟩ := hw; simp [execOp, go_sem, Act.eval, x0.cells.1])⟩) (fun _ => ?_)
  simp only [Act.put, List.setIfInBounds_toArray, List.set_cons_zero, List.set_cons_succ]
  refine wpAnyL_pure (i := 4) (v := .int .i64 (i : Int)) (by simp only [List.getElem?_toArray, List.getElem?_cons_zero, List.getElem?_cons_succ] <;> rfl) (by kernel_rfl) (by kernel_rfl) (by kernel_rfl) (by exact fun _ _ _ h => h) (by decide) (.inr ⟨BX.out, BI.out, BJ.out⟩) (Or.inl ⟨by rfl, fun w _ => (by simp [execOp, go_sem, Act.eval])⟩) (fun _ => ?_)
  simp only [Act.put, List.setIfInBounds_toArray, List.set_cons_zero, List.set_cons_succ]
  refine wpAnyL_pure (i := 5) (v := .pointer (some ⟨b, off + i * 2, none⟩)) (by simp only [List.getElem?_toArray, List.getElem?_cons_zero, List.getElem?_cons_succ] <;> rfl) (by kernel_rfl) (by kernel_rfl) (by kernel_rfl) (by exact fun _ _ _ h => h) (by decide) (.inr ⟨BX.out, BI.out, BJ.out⟩) (Or.inl ⟨by rfl, fun w _ => (by simp [execOp, go_sem, Act.eval, zi])⟩) (fun _ => ?_)
  simp only [Act.put, List.setIfInBounds_toArray, List.set_cons_zero, List.set_cons_succ]
  refine wpAnyL_load2 (i := 6) (v := encS (bi)) (by simp only [List.getElem?_toArray, List.getElem?_cons_zero, List.getElem?_cons_succ] <;> rfl) (by kernel_rfl) (by kernel_rfl) (by kernel_rfl) (by exact fun _ _ _ h => h) (by decide) (Waits.one rfl ⟨⟨6, .data⟩, by simp, rfl, rfl⟩) (by kernel_rfl) (by kernel_rfl) (.inr ⟨BX.out, BI.out, BJ.out⟩) (Or.inl ⟨by rfl, fun w hw => (by obtain ⟨_, ⟨y1, z1⟩, _⟩ := hw; simp [execOp, go_sem, Act.eval, y1, z1])⟩) (fun _ => ?_)
  simp only [Act.put, List.setIfInBounds_toArray, List.set_cons_zero, List.set_cons_succ]
  refine wpAnyL_pure (i := 7) (v := .pointer (some ⟨pd, 0, none⟩)) (by simp only [List.getElem?_toArray, List.getElem?_cons_zero, List.getElem?_cons_succ] <;> rfl) (by kernel_rfl) (by kernel_rfl) (by kernel_rfl) (by exact fun _ _ _ h => h) (by decide) (.inr ⟨BX.out, BI.out, BJ.out⟩) (Or.inl ⟨by rfl, fun w _ => (by simp [execOp, go_sem, Act.eval])⟩) (fun _ => ?_)
  simp only [Act.put, List.setIfInBounds_toArray, List.set_cons_zero, List.set_cons_succ]
  refine wpAnyL_pure (i := 8) (v := .pointer (some ⟨pd, 0, none⟩)) (by simp only [List.getElem?_toArray, List.getElem?_cons_zero, List.getElem?_cons_succ] <;> rfl) (by kernel_rfl) (by kernel_rfl) (by kernel_rfl) (by exact fun _ _ _ h => h) (by decide) (.inr ⟨BX.out, BI.out, BJ.out⟩) (Or.inl ⟨by rfl, fun w _ => (by simp [execOp, go_sem, Act.eval])⟩) (fun _ => ?_)
  simp only [Act.put, List.setIfInBounds_toArray, List.set_cons_zero, List.set_cons_succ]
  refine wpAnyL_pure (i := 9) (v := .pointer (some ⟨pd, 0, none⟩)) (by simp only [List.getElem?_toArray, List.getElem?_cons_zero, List.getElem?_cons_succ] <;> rfl) (by kernel_rfl) (by kernel_rfl) (by kernel_rfl) (by exact fun _ _ _ h => h) (by decide) (.inr ⟨BX.out, BI.out, BJ.out⟩) (Or.inl ⟨by rfl, fun w _ => (by simp [execOp, go_sem, Act.eval])⟩) (fun _ => ?_)
  simp only [Act.put, List.setIfInBounds_toArray, List.set_cons_zero, List.set_cons_succ]
  refine wpAnyL_load2 (i := 10) (v := .slice (some ⟨b, off, none⟩) B.length cb) (by simp only [List.getElem?_toArray, List.getElem?_cons_zero, List.getElem?_cons_succ] <;> rfl) (by kernel_rfl) (by kernel_rfl) (by kernel_rfl) (by exact fun _ _ _ h => h) (by decide) (Waits.more (j := 13) rfl ⟨⟨13, .data⟩, by simp, rfl, rfl⟩ (Waits.more (j := 12) rfl ⟨⟨12, .data⟩, by simp, rfl, rfl⟩ (Waits.one rfl ⟨⟨10, .data⟩, by simp, rfl, rfl⟩))) (by kernel_rfl) (by kernel_rfl) (.inr ⟨BX.out, BI.out, BJ.out⟩) (Or.inl ⟨by rfl, fun w hw => (by obtain ⟨x0, _, _⟩ := hw; simp [execOp, go_sem, Act.eval, x0.cells.1])⟩) (fun _ => ?_)
  simp only [Act.put, List.setIfInBounds_toArray, List.set_cons_zero, List.set_cons_succ]
  refine wpAnyL_pure (i := 11) (v := .int .i64 (j : Int)) (by simp only [List.getElem?_toArray, List.getElem?_cons_zero, List.getElem?_cons_succ] <;> rfl) (by kernel_rfl) (by kernel_rfl) (by kernel_rfl) (by exact fun _ _ _ h => h) (by decide) (.inr ⟨BX.out, BI.out, BJ.out⟩) (Or.inl ⟨by rfl, fun w _ => (by simp [execOp, go_sem, Act.eval])⟩) (fun _ => ?_)
  simp only [Act.put, List.setIfInBounds_toArray, List.set_cons_zero, List.set_cons_succ]
  refine wpAnyL_pure (i := 12) (v := .pointer (some ⟨b, off + j * 2, none⟩)) (by simp only [List.getElem?_toArray, List.getElem?_cons_zero, List.getElem?_cons_succ] <;> rfl) (by kernel_rfl) (by kernel_rfl) (by kernel_rfl) (by exact fun _ _ _ h => h) (by decide) (.inr ⟨BX.out, BI.out, BJ.out⟩) (Or.inl ⟨by rfl, fun w _ => (by simp [execOp, go_sem, Act.eval, zj])⟩) (fun _ => ?_)
  simp only [Act.put, List.setIfInBounds_toArray, List.set_cons_zero, List.set_cons_succ]
  refine wpAnyL_load2 (i := 13) (v := encS (bj)) (by simp only [List.getElem?_toArray, List.getElem?_cons_zero, List.getElem?_cons_succ] <;> rfl) (by kernel_rfl) (by kernel_rfl) (by kernel_rfl) (by exact fun _ _ _ h => h) (by decide) (Waits.one rfl ⟨⟨13, .data⟩, by simp, rfl, rfl⟩) (by kernel_rfl) (by kernel_rfl) (.inr ⟨BX.out, BI.out, BJ.out⟩) (Or.inl ⟨by rfl, fun w hw => (by obtain ⟨_, _, ⟨y2, z2⟩⟩ := hw; simp [execOp, go_sem, Act.eval, y2, z2])⟩) (fun _ => ?_)
  simp only [Act.put, List.setIfInBounds_toArray, List.set_cons_zero, List.set_cons_succ]
  refine wpAnyL_one (i := 14) (by kernel_rfl) (by simp only [List.getElem?_toArray, List.getElem?_cons_zero, List.getElem?_cons_succ] <;> rfl) (by rfl) ?_
  refine opwp_call (f := 31) (args := #[encS (bi), encS (bj)]) (w' := w.drew) (by simp [go_sem, Act.eval]) ?_
  refine (Sub_c bi bj w.drew).mono ?_
  rintro e w2 ⟨rfl, hb2⟩
  refine .inl ⟨_, rfl, .inl (by kernel_rfl), ?_⟩
  simp only [Act.put, List.setIfInBounds_toArray, List.set_cons_zero, List.set_cons_succ]
  refine wpAnyL_pure (i := 15) (v := .bool (sub bi bj)) (by simp only [List.getElem?_toArray, List.getElem?_cons_zero, List.getElem?_cons_succ] <;> rfl) (by kernel_rfl) (by kernel_rfl) (by kernel_rfl) (by exact fun _ _ _ h => h) (by decide) (.inl (by kernel_rfl)) (Or.inl ⟨by rfl, fun w _ => (by simp [execOp, go_sem, Act.eval])⟩) (fun _ => ?_)
  simp only [Act.put, List.setIfInBounds_toArray, List.set_cons_zero, List.set_cons_succ]
  refine wpAnyL_done (by kernel_rfl) ?_ _
  have HJ2 := hid (HJ0.out.below hb2)
  have hbw2 := ((Below.refl w.heap.size w).drew).trans hb2
  have HU2 := hid (HU.out.below hbw2 HU.out.lt)
  have HG2 := hid (HG.out.below hbw2 HG.out.lt)
  clear BX BI BJ HJ0
  cases hs1 : sub bi bj
  · have HS1 := hid hs1
    clear hs1
    have BX : Hid (Box2 w2.drew pd 25 (.slice (some ⟨b, off, none⟩) B.length cb) (.slice (some ⟨gU, 0, none⟩) U.length cu)) := HBX.out _ (HJ2.out.below (Below.refl _ w2).drew)
    have BI : Hid (w2.drew.cell? ⟨b, off + i * 2, none⟩ = some (.int .u64 ((lw bi).toNat : Int)) ∧ w2.drew.cell? ⟨b, off + i * 2 + 1, none⟩ = some (.int .u64 ((hw bi).toNat : Int))) := ⟨(hb2.cell (cell_lt BI0.out.1)).trans BI0.out.1, (hb2.cell (cell_lt BI0.out.2)).trans BI0.out.2⟩
    have BJ : Hid (w2.drew.cell? ⟨b, off + j * 2, none⟩ = some (.int .u64 ((lw bj).toNat : Int)) ∧ w2.drew.cell? ⟨b, off + j * 2 + 1, none⟩ = some (.int .u64 ((hw bj).toNat : Int))) := ⟨(hb2.cell (cell_lt BJ0.out.1)).trans BJ0.out.1, (hb2.cell (cell_lt BJ0.out.2)).trans BJ0.out.2⟩
    have hbd2 := (Below.refl w2.heap.size w2).drew
    go_wp2_with fail
    refine Go.Proofs.YtmlecpapoeodkaaDoor.wp_region_L 16 14 (fun w' => Box2 w' (pd) 25 (.slice (some ⟨b, off, none⟩) B.length cb) (.slice (some ⟨gU, 0, none⟩) U.length cu) ∧ (w'.cell? ⟨b, off + i * 2, none⟩ = some (.int .u64 ((lw (bi)).toNat : Int)) ∧ w'.cell? ⟨b, off + i * 2 + 1, none⟩ = some (.int .u64 ((hw (bi)).toNat : Int))) ∧ (w'.cell? ⟨b, off + j * 2, none⟩ = some (.int .u64 ((lw (bj)).toNat : Int)) ∧ w'.cell? ⟨b, off + j * 2 + 1, none⟩ = some (.int .u64 ((hw (bj)).toNat : Int)))) (by kernel_rfl) rfl ⟨BX.out, BI.out, BJ.out⟩ (fun _ => ?_)
    refine wpAnyL_pure (i := 0) (v := .pointer (some ⟨pd, 0, none⟩)) (by simp only [List.getElem?_toArray, List.getElem?_cons_zero] <;> rfl) (by kernel_rfl) (by kernel_rfl) (by kernel_rfl) (by exact fun _ _ _ h => h) (by decide) (.inr ⟨BX.out, BI.out, BJ.out⟩) (Or.inl ⟨by rfl, fun w _ => (by simp [execOp, go_sem, Act.eval])⟩) (fun _ => ?_)
    simp only [Act.put, List.setIfInBounds_toArray, List.set_cons_zero, List.set_cons_succ]
    refine wpAnyL_pure (i := 1) (v := .pointer (some ⟨pd, 0, none⟩)) (by simp only [List.getElem?_toArray, List.getElem?_cons_zero, List.getElem?_cons_succ] <;> rfl) (by kernel_rfl) (by kernel_rfl) (by kernel_rfl) (by exact fun _ _ _ h => h) (by decide) (.inr ⟨BX.out, BI.out, BJ.out⟩) (Or.inl ⟨by rfl, fun w _ => (by simp [execOp, go_sem, Act.eval])⟩) (fun _ => ?_)
    simp only [Act.put, List.setIfInBounds_toArray, List.set_cons_zero, List.set_cons_succ]
    refine wpAnyL_pure (i := 2) (v := .pointer (some ⟨pd, 0, none⟩)) (by simp only [List.getElem?_toArray, List.getElem?_cons_zero, List.getElem?_cons_succ] <;> rfl) (by kernel_rfl) (by kernel_rfl) (by kernel_rfl) (by exact fun _ _ _ h => h) (by decide) (.inr ⟨BX.out, BI.out, BJ.out⟩) (Or.inl ⟨by rfl, fun w _ => (by simp [execOp, go_sem, Act.eval])⟩) (fun _ => ?_)
    simp only [Act.put, List.setIfInBounds_toArray, List.set_cons_zero, List.set_cons_succ]
    refine wpAnyL_load2 (i := 3) (v := .slice (some ⟨b, off, none⟩) B.length cb) (by simp only [List.getElem?_toArray, List.getElem?_cons_zero, List.getElem?_cons_succ] <;> rfl) (by kernel_rfl) (by kernel_rfl) (by kernel_rfl) (by exact fun _ _ _ h => h) (by decide) (Waits.more (j := 6) rfl ⟨⟨6, .data⟩, by simp, rfl, rfl⟩ (Waits.more (j := 5) rfl ⟨⟨5, .data⟩, by simp, rfl, rfl⟩ (Waits.one rfl ⟨⟨3, .data⟩, by simp, rfl, rfl⟩))) (by kernel_rfl) (by kernel_rfl) (.inr ⟨BX.out, BI.out, BJ.out⟩) (Or.inl ⟨by rfl, fun w hw => (by obtain ⟨x0, _, _⟩ := hw; simp [execOp, go_sem, Act.eval, x0.cells.1])⟩) (fun _ => ?_)
    simp only [Act.put, List.setIfInBounds_toArray, List.set_cons_zero, List.set_cons_succ]
    refine wpAnyL_pure (i := 4) (v := .int .i64 (j : Int)) (by simp only [List.getElem?_toArray, List.getElem?_cons_zero, List.getElem?_cons_succ] <;> rfl) (by kernel_rfl) (by kernel_rfl) (by kernel_rfl) (by exact fun _ _ _ h => h) (by decide) (.inr ⟨BX.out, BI.out, BJ.out⟩) (Or.inl ⟨by rfl, fun w _ => (by simp [execOp, go_sem, Act.eval])⟩) (fun _ => ?_)
    simp only [Act.put, List.setIfInBounds_toArray, List.set_cons_zero, List.set_cons_succ]
    refine wpAnyL_pure (i := 5) (v := .pointer (some ⟨b, off + j * 2, none⟩)) (by simp only [List.getElem?_toArray, List.getElem?_cons_zero, List.getElem?_cons_succ] <;> rfl) (by kernel_rfl) (by kernel_rfl) (by kernel_rfl) (by exact fun _ _ _ h => h) (by decide) (.inr ⟨BX.out, BI.out, BJ.out⟩) (Or.inl ⟨by rfl, fun w _ => (by simp [execOp, go_sem, Act.eval, zj])⟩) (fun _ => ?_)
    simp only [Act.put, List.setIfInBounds_toArray, List.set_cons_zero, List.set_cons_succ]
    refine wpAnyL_load2 (i := 6) (v := encS (bj)) (by simp only [List.getElem?_toArray, List.getElem?_cons_zero, List.getElem?_cons_succ] <;> rfl) (by kernel_rfl) (by kernel_rfl) (by kernel_rfl) (by exact fun _ _ _ h => h) (by decide) (Waits.one rfl ⟨⟨6, .data⟩, by simp, rfl, rfl⟩) (by kernel_rfl) (by kernel_rfl) (.inr ⟨BX.out, BI.out, BJ.out⟩) (Or.inl ⟨by rfl, fun w hw => (by obtain ⟨_, _, ⟨y2, z2⟩⟩ := hw; simp [execOp, go_sem, Act.eval, y2, z2])⟩) (fun _ => ?_)
    simp only [Act.put, List.setIfInBounds_toArray, List.set_cons_zero, List.set_cons_succ]
    refine wpAnyL_pure (i := 7) (v := .pointer (some ⟨pd, 0, none⟩)) (by simp only [List.getElem?_toArray, List.getElem?_cons_zero, List.getElem?_cons_succ] <;> rfl) (by kernel_rfl) (by kernel_rfl) (by kernel_rfl) (by exact fun _ _ _ h => h) (by decide) (.inr ⟨BX.out, BI.out, BJ.out⟩) (Or.inl ⟨by rfl, fun w _ => (by simp [execOp, go_sem, Act.eval])⟩) (fun _ => ?_)
    simp only [Act.put, List.setIfInBounds_toArray, List.set_cons_zero, List.set_cons_succ]
    refine wpAnyL_pure (i := 8) (v := .pointer (some ⟨pd, 0, none⟩)) (by simp only [List.getElem?_toArray, List.getElem?_cons_zero, List.getElem?_cons_succ] <;> rfl) (by kernel_rfl) (by kernel_rfl) (by kernel_rfl) (by exact fun _ _ _ h => h) (by decide) (.inr ⟨BX.out, BI.out, BJ.out⟩) (Or.inl ⟨by rfl, fun w _ => (by simp [execOp, go_sem, Act.eval])⟩) (fun _ => ?_)
    simp only [Act.put, List.setIfInBounds_toArray, List.set_cons_zero, List.set_cons_succ]
    refine wpAnyL_pure (i := 9) (v := .pointer (some ⟨pd, 0, none⟩)) (by simp only [List.getElem?_toArray, List.getElem?_cons_zero, List.getElem?_cons_succ] <;> rfl) (by kernel_rfl) (by kernel_rfl) (by kernel_rfl) (by exact fun _ _ _ h => h) (by decide) (.inr ⟨BX.out, BI.out, BJ.out⟩) (Or.inl ⟨by rfl, fun w _ => (by simp [execOp, go_sem, Act.eval])⟩) (fun _ => ?_)
    simp only [Act.put, List.setIfInBounds_toArray, List.set_cons_zero, List.set_cons_succ]
    refine wpAnyL_load2 (i := 10) (v := .slice (some ⟨b, off, none⟩) B.length cb) (by simp only [List.getElem?_toArray, List.getElem?_cons_zero, List.getElem?_cons_succ] <;> rfl) (by kernel_rfl) (by kernel_rfl) (by kernel_rfl) (by exact fun _ _ _ h => h) (by decide) (Waits.more (j := 13) rfl ⟨⟨13, .data⟩, by simp, rfl, rfl⟩ (Waits.more (j := 12) rfl ⟨⟨12, .data⟩, by simp, rfl, rfl⟩ (Waits.one rfl ⟨⟨10, .data⟩, by simp, rfl, rfl⟩))) (by kernel_rfl) (by kernel_rfl) (.inr ⟨BX.out, BI.out, BJ.out⟩) (Or.inl ⟨by rfl, fun w hw => (by obtain ⟨x0, _, _⟩ := hw; simp [execOp, go_sem, Act.eval, x0.cells.1])⟩) (fun _ => ?_)
    simp only [Act.put, List.setIfInBounds_toArray, List.set_cons_zero, List.set_cons_succ]
    refine wpAnyL_pure (i := 11) (v := .int .i64 (i : Int)) (by simp only [List.getElem?_toArray, List.getElem?_cons_zero, List.getElem?_cons_succ] <;> rfl) (by kernel_rfl) (by kernel_rfl) (by kernel_rfl) (by exact fun _ _ _ h => h) (by decide) (.inr ⟨BX.out, BI.out, BJ.out⟩) (Or.inl ⟨by rfl, fun w _ => (by simp [execOp, go_sem, Act.eval])⟩) (fun _ => ?_)
    simp only [Act.put, List.setIfInBounds_toArray, List.set_cons_zero, List.set_cons_succ]
    refine wpAnyL_pure (i := 12) (v := .pointer (some ⟨b, off + i * 2, none⟩)) (by simp only [List.getElem?_toArray, List.getElem?_cons_zero, List.getElem?_cons_succ] <;> rfl) (by kernel_rfl) (by kernel_rfl) (by kernel_rfl) (by exact fun _ _ _ h => h) (by decide) (.inr ⟨BX.out, BI.out, BJ.out⟩) (Or.inl ⟨by rfl, fun w _ => (by simp [execOp, go_sem, Act.eval, zi])⟩) (fun _ => ?_)
    simp only [Act.put, List.setIfInBounds_toArray, List.set_cons_zero, List.set_cons_succ]
    refine wpAnyL_load2 (i := 13) (v := encS (bi)) (by simp only [List.getElem?_toArray, List.getElem?_cons_zero, List.getElem?_cons_succ] <;> rfl) (by kernel_rfl) (by kernel_rfl) (by kernel_rfl) (by exact fun _ _ _ h => h) (by decide) (Waits.one rfl ⟨⟨13, .data⟩, by simp, rfl, rfl⟩) (by kernel_rfl) (by kernel_rfl) (.inr ⟨BX.out, BI.out, BJ.out⟩) (Or.inl ⟨by rfl, fun w hw => (by obtain ⟨_, ⟨y1, z1⟩, _⟩ := hw; simp [execOp, go_sem, Act.eval, y1, z1])⟩) (fun _ => ?_)
    simp only [Act.put, List.setIfInBounds_toArray, List.set_cons_zero, List.set_cons_succ]
    refine wpAnyL_one (i := 14) (by kernel_rfl) (by simp only [List.getElem?_toArray, List.getElem?_cons_zero, List.getElem?_cons_succ] <;> rfl) (by rfl) ?_
    refine opwp_call (f := 31) (args := #[encS (bj), encS (bi)]) (w' := w2.drew) (by simp [go_sem, Act.eval]) ?_
    refine (Sub_c bj bi w2.drew).mono ?_
    rintro e w4 ⟨rfl, hb4⟩
    refine .inl ⟨_, rfl, .inl (by kernel_rfl), ?_⟩
    simp only [Act.put, List.setIfInBounds_toArray, List.set_cons_zero, List.set_cons_succ]
    refine wpAnyL_pure (i := 15) (v := .bool (sub bj bi)) (by simp only [List.getElem?_toArray, List.getElem?_cons_zero, List.getElem?_cons_succ] <;> rfl) (by kernel_rfl) (by kernel_rfl) (by kernel_rfl) (by exact fun _ _ _ h => h) (by decide) (.inl (by kernel_rfl)) (Or.inl ⟨by rfl, fun w _ => (by simp [execOp, go_sem, Act.eval])⟩) (fun _ => ?_)
    simp only [Act.put, List.setIfInBounds_toArray, List.set_cons_zero, List.set_cons_succ]
    refine wpAnyL_done (by kernel_rfl) ?_ _
    have hb24 := hbd2.trans hb4
    have HJ4 := hid (HJ2.out.below hb24)
    have HU4 := hid (HU2.out.below hb24 HU2.out.lt)
    have HG4 := hid (HG2.out.below hb24 HG2.out.lt)
    clear BX BI BJ hbd2 hb24 HJ2 HU2 HG2
    cases hs2 : sub bj bi
    · have HS2 := hid hs2
      clear hs2
      go_wp2_with fail
      go_ret
      exact ⟨_, rfl, HJ4.out, .inl ⟨rfl, by rw [HBI.out, HBJ.out]; exact HS1.out, by rw [HBI.out, HBJ.out]; exact HS2.out, HU4.out, HG4.out⟩⟩
    · have HS2 := hid hs2
      clear hs2
      have hju : j < U.length := by rw [HLEN.out]; exact hj
      obtain ⟨cj, _⟩ := HU4.out.at j hju
      obtain ⟨_, fi⟩ := HU4.out.at i (by rw [HLEN.out]; exact hi)
      obtain ⟨ci, _⟩ := HU4.out.at i (by rw [HLEN.out]; exact hi)
      rw [← upF_nat U j hju] at cj
      have BX : Hid (Box2 w4.drew pd 25 (.slice (some ⟨b, off, none⟩) B.length cb) (.slice (some ⟨gU, 0, none⟩) U.length cu)) := HBX.out _ (HJ4.out.below (Below.refl _ w4).drew)
      obtain ⟨x, hx⟩ : ∃ x, upF U (j : Int) = x := ⟨_, rfl⟩
      rw [hx] at cj
      have HXX := hid hx
      have CJ : Hid (w4.drew.cell? ⟨gU, j, none⟩ = some (.int .i64 x)) := cj
      have HU5 := hid (show IntRow w4.drew gU U from HU4.out)
      have HJ5 := hid (HJ4.out.below (Below.refl _ w4).drew)
      have HG5 := hid (show WetRow w4.drew gG G from HG4.out)
      have CI : Hid (w4.drew.cell? ⟨gU, i, none⟩ = some (.int .i64 U[i])) := ci
      have FI : Hid (w4.drew.frozen? ⟨gU, i, none⟩ = false) := fi
      clear hju cj hx ci fi
      go_wp2_with fail
      refine Go.Proofs.YtmlecpapoeodkaaDoor.wp_region_L 14 13 (fun w' => Box2 w' (pd) 25 (.slice (some ⟨b, off, none⟩) B.length cb) (.slice (some ⟨gU, 0, none⟩) U.length cu) ∧ w'.cell? ⟨gU, j, none⟩ = some (.int .i64 x)) (by kernel_rfl) rfl ⟨BX.out, CJ.out⟩ (fun _ => ?_)
      refine wpAnyL_pure (i := 0) (v := .pointer (some ⟨pd, 0, none⟩)) (by simp only [List.getElem?_toArray, List.getElem?_cons_zero] <;> rfl) (by kernel_rfl) (by kernel_rfl) (by kernel_rfl) (by exact fun _ _ _ h => h) (by decide) (.inr ⟨BX.out, CJ.out⟩) (Or.inl ⟨by rfl, fun w _ => (by simp [execOp, go_sem, Act.eval])⟩) (fun _ => ?_)
      simp only [Act.put, List.setIfInBounds_toArray, List.set_cons_zero, List.set_cons_succ]
      refine wpAnyL_pure (i := 1) (v := .pointer (some ⟨pd, 0, none⟩)) (by simp only [List.getElem?_toArray, List.getElem?_cons_zero, List.getElem?_cons_succ] <;> rfl) (by kernel_rfl) (by kernel_rfl) (by kernel_rfl) (by exact fun _ _ _ h => h) (by decide) (.inr ⟨BX.out, CJ.out⟩) (Or.inl ⟨by rfl, fun w _ => (by simp [execOp, go_sem, Act.eval])⟩) (fun _ => ?_)
      simp only [Act.put, List.setIfInBounds_toArray, List.set_cons_zero, List.set_cons_succ]
      refine wpAnyL_pure (i := 2) (v := .pointer (some ⟨pd, 1, none⟩)) (by simp only [List.getElem?_toArray, List.getElem?_cons_zero, List.getElem?_cons_succ] <;> rfl) (by kernel_rfl) (by kernel_rfl) (by kernel_rfl) (by exact fun _ _ _ h => h) (by decide) (.inr ⟨BX.out, CJ.out⟩) (Or.inl ⟨by rfl, fun w _ => (by simp [execOp, go_sem, Act.eval])⟩) (fun _ => ?_)
      simp only [Act.put, List.setIfInBounds_toArray, List.set_cons_zero, List.set_cons_succ]
      refine wpAnyL_load2 (i := 3) (v := .slice (some ⟨gU, 0, none⟩) U.length cu) (by simp only [List.getElem?_toArray, List.getElem?_cons_zero, List.getElem?_cons_succ] <;> rfl) (by kernel_rfl) (by kernel_rfl) (by kernel_rfl) (by exact fun _ _ _ h => h) (by decide) (Waits.one rfl ⟨⟨3, .phase⟩, by simp, rfl, rfl⟩) (by kernel_rfl) (by kernel_rfl) (.inr ⟨BX.out, CJ.out⟩) (Or.inl ⟨by rfl, fun w hw => (by obtain ⟨x0, _⟩ := hw; simp [execOp, go_sem, Act.eval, x0.cells.2.1])⟩) (fun _ => ?_)
      simp only [Act.put, List.setIfInBounds_toArray, List.set_cons_zero, List.set_cons_succ]
      refine wpAnyL_pure (i := 4) (v := .int .i64 (i : Int)) (by simp only [List.getElem?_toArray, List.getElem?_cons_zero, List.getElem?_cons_succ] <;> rfl) (by kernel_rfl) (by kernel_rfl) (by kernel_rfl) (by exact fun _ _ _ h => h) (by decide) (.inr ⟨BX.out, CJ.out⟩) (Or.inl ⟨by rfl, fun w _ => (by simp [execOp, go_sem, Act.eval])⟩) (fun _ => ?_)
      simp only [Act.put, List.setIfInBounds_toArray, List.set_cons_zero, List.set_cons_succ]
      refine wpAnyL_pure (i := 5) (v := .pointer (some ⟨pd, 0, none⟩)) (by simp only [List.getElem?_toArray, List.getElem?_cons_zero, List.getElem?_cons_succ] <;> rfl) (by kernel_rfl) (by kernel_rfl) (by kernel_rfl) (by exact fun _ _ _ h => h) (by decide) (.inr ⟨BX.out, CJ.out⟩) (Or.inl ⟨by rfl, fun w _ => (by simp [execOp, go_sem, Act.eval])⟩) (fun _ => ?_)
      simp only [Act.put, List.setIfInBounds_toArray, List.set_cons_zero, List.set_cons_succ]
      refine wpAnyL_pure (i := 6) (v := .pointer (some ⟨pd, 0, none⟩)) (by simp only [List.getElem?_toArray, List.getElem?_cons_zero, List.getElem?_cons_succ] <;> rfl) (by kernel_rfl) (by kernel_rfl) (by kernel_rfl) (by exact fun _ _ _ h => h) (by decide) (.inr ⟨BX.out, CJ.out⟩) (Or.inl ⟨by rfl, fun w _ => (by simp [execOp, go_sem, Act.eval])⟩) (fun _ => ?_)
      simp only [Act.put, List.setIfInBounds_toArray, List.set_cons_zero, List.set_cons_succ]
      refine wpAnyL_pure (i := 7) (v := .pointer (some ⟨pd, 1, none⟩)) (by simp only [List.getElem?_toArray, List.getElem?_cons_zero, List.getElem?_cons_succ] <;> rfl) (by kernel_rfl) (by kernel_rfl) (by kernel_rfl) (by exact fun _ _ _ h => h) (by decide) (.inr ⟨BX.out, CJ.out⟩) (Or.inl ⟨by rfl, fun w _ => (by simp [execOp, go_sem, Act.eval])⟩) (fun _ => ?_)
      simp only [Act.put, List.setIfInBounds_toArray, List.set_cons_zero, List.set_cons_succ]
      refine wpAnyL_load2 (i := 8) (v := .slice (some ⟨gU, 0, none⟩) U.length cu) (by simp only [List.getElem?_toArray, List.getElem?_cons_zero, List.getElem?_cons_succ] <;> rfl) (by kernel_rfl) (by kernel_rfl) (by kernel_rfl) (by exact fun _ _ _ h => h) (by decide) (Waits.one rfl ⟨⟨8, .phase⟩, by simp, rfl, rfl⟩) (by kernel_rfl) (by kernel_rfl) (.inr ⟨BX.out, CJ.out⟩) (Or.inl ⟨by rfl, fun w hw => (by obtain ⟨x0, _⟩ := hw; simp [execOp, go_sem, Act.eval, x0.cells.2.1])⟩) (fun _ => ?_)
      simp only [Act.put, List.setIfInBounds_toArray, List.set_cons_zero, List.set_cons_succ]
      refine wpAnyL_pure (i := 9) (v := .int .i64 (j : Int)) (by simp only [List.getElem?_toArray, List.getElem?_cons_zero, List.getElem?_cons_succ] <;> rfl) (by kernel_rfl) (by kernel_rfl) (by kernel_rfl) (by exact fun _ _ _ h => h) (by decide) (.inr ⟨BX.out, CJ.out⟩) (Or.inl ⟨by rfl, fun w _ => (by simp [execOp, go_sem, Act.eval])⟩) (fun _ => ?_)
      simp only [Act.put, List.setIfInBounds_toArray, List.set_cons_zero, List.set_cons_succ]
      refine wpAnyL_pure (i := 10) (v := .pointer (some ⟨gU, j, none⟩)) (by simp only [List.getElem?_toArray, List.getElem?_cons_zero, List.getElem?_cons_succ] <;> rfl) (by kernel_rfl) (by kernel_rfl) (by kernel_rfl) (by exact fun _ _ _ h => h) (by decide) (.inr ⟨BX.out, CJ.out⟩) (Or.inl ⟨by rfl, fun w _ => (by simp [execOp, go_sem, Act.eval, zju])⟩) (fun _ => ?_)
      simp only [Act.put, List.setIfInBounds_toArray, List.set_cons_zero, List.set_cons_succ]
      refine wpAnyL_load2 (i := 11) (v := .int .i64 x) (by simp only [List.getElem?_toArray, List.getElem?_cons_zero, List.getElem?_cons_succ] <;> rfl) (by kernel_rfl) (by kernel_rfl) (by kernel_rfl) (by exact fun _ _ _ h => h) (by decide) (Waits.one rfl ⟨⟨11, .data⟩, by simp, rfl, rfl⟩) (by kernel_rfl) (by kernel_rfl) (.inr ⟨BX.out, CJ.out⟩) (Or.inl ⟨by rfl, fun w hw => (by obtain ⟨_, x1⟩ := hw; simp [execOp, go_sem, Act.eval, x1])⟩) (fun _ => ?_)
      simp only [Act.put, List.setIfInBounds_toArray, List.set_cons_zero, List.set_cons_succ]
      refine wpAnyL_pure (i := 12) (v := .pointer (some ⟨gU, i, none⟩)) (by simp only [List.getElem?_toArray, List.getElem?_cons_zero, List.getElem?_cons_succ] <;> rfl) (by kernel_rfl) (by kernel_rfl) (by kernel_rfl) (by exact fun _ _ _ h => h) (by decide) (.inr ⟨BX.out, CJ.out⟩) (Or.inl ⟨by rfl, fun w _ => (by simp [execOp, go_sem, Act.eval, ziu])⟩) (fun _ => ?_)
      simp only [Act.put, List.setIfInBounds_toArray, List.set_cons_zero, List.set_cons_succ]
      have y0 := CI.out; have y2 := FI.out
      refine wpAnyL_one (i := 13) (by kernel_rfl) (by simp only [List.getElem?_toArray, List.getElem?_cons_zero, List.getElem?_cons_succ] <;> rfl) (by rfl) ?_
      refine opwp_skip (w' := (w4.drew.setCell ⟨gU, i, none⟩ (.int .i64 x))) (by simp [execOp, go_sem, Act.eval, y0, y2]) ⟨.inl (by kernel_rfl), ?_⟩
      simp only [Act.put]
      refine wpAnyL_done (by kernel_rfl) ?_ _
      have HU6 := hid (HU5.out.store i x)
      have HJ6 := hid (HJ5.out.setU i (.int .i64 x))
      have HG6 := hid (HG5.out.other (a := ⟨gU, i, none⟩) (Ne.symm hug) (.int .i64 x))
      generalize w4.drew.setCell ⟨gU, i, none⟩ (.int .i64 x) = w6 at *
      clear y0 y2 CI FI BX CJ HU5 HJ5 HG5 HU4 HJ4 HG4 hb4
      obtain ⟨_, z0⟩ := (HG6.out).at j (by rw [HGL.out]; omega)
      have zg : (0 : Int) ≤ (j : Int) ∧ (j : Int) < (G.length : Int) := by have := HGL.out; omega
      obtain ⟨z1, _⟩ := (HG6.out).at j (by rw [HGL.out]; omega)
      have HWS := hid ((HG6.out).store j)
      have HUS := hid ((HU6.out).other (a := ⟨gG, j, none⟩) hug (.bool true))
      have HJS := hid ((HJ6.out).setG j (.bool true))
      obtain ⟨c0, c1, _, _⟩ := (HBX.out _ HJS.out).cells
      have HP0 := hid (show IntRow (w6.setCell ⟨gG, j, none⟩ (.bool true)) gU (passU (U.set i x) (j : Int) (i : Int) 0) from by rw [passU_zero]; exact HUS.out)
      go_wp2_with fail
      generalize w6.setCell ⟨gG, j, none⟩ (.bool true) = w7 at *
      clear z0 z1 c0 c1 HUS
      go_loopw [70] (fun z wq => ∃ (k : Nat), k ≤ U.length ∧ z = .int .i64 k ∧ Hid (IntRow wq gU (passU (U.set i x) (j : Int) (i : Int) k)) ∧ Hid (WetRow wq gG (G.set j true)) ∧ Hid (JoinMem w wq gU gG)) (fun z _ => U.length - (intOf z).toNat)
      case atStart => exact ⟨0, Nat.zero_le _, rfl, HP0.out, HWS.out, HJS.out⟩
      case round =>
        clear HP0 HWS HJS
        obtain ⟨k, hk, rfl, hrow, hwet, hjm⟩ := hrel
        obtain ⟨c0, c1, _, _⟩ := (HBX.out _ hjm.out).cells
        by_cases hkl : k < U.length
        · have hkv : k < (U.set i x).length := by rw [List.length_set]; exact hkl
          obtain ⟨q0, q1⟩ := hrow.out.at k (by rw [passU_length]; exact hkv)
          rw [passU_here _ _ _ k hkv] at q0
          have HCH := hid (fun h1 h2 => passU_change (U.set i x) (j : Int) (i : Int) k hkv h1 h2)
          have HKE := hid (fun h => passU_keep (U.set i x) (j : Int) (i : Int) k hkv h)
          generalize (U.set i x)[k] = u at *
          have zk : (0 : Int) ≤ (k : Int) ∧ (k : Int) < (U.length : Int) := by omega
          clear hkv
          by_cases hu : u = (j : Int)
          · have zu : (u == (j : Int)) = true := by rw [hu]; simp
            by_cases hkk : (k : Int) = (i : Int)
            · have zkk : ((k : Int) != (i : Int)) = false := by rw [hkk]; simp
              have HN := hid (show IntRow wr gU (passU (U.set i x) (j : Int) (i : Int) (k + 1)) from by rw [← HKE.out (fun h => h.2 hkk)]; exact hrow.out)
              clear hu hkk
              go_wp2_with fail
              go_roundw
              case rel => exact ⟨k + 1, by omega, by go_num, HN.out, hwet.out, hjm.out⟩
              case measure => simp [intOf]; omega
            · have zkk : ((k : Int) != (i : Int)) = true := by simpa using hkk
              have HN := hid (show IntRow (wr.setCell ⟨gU, k, none⟩ (.int .i64 (i : Int))) gU (passU (U.set i x) (j : Int) (i : Int) (k + 1)) from by rw [← HCH.out hu hkk]; exact hrow.out.store k (i : Int))
              have HW2 := hid (hwet.out.other (a := ⟨gU, k, none⟩) (Ne.symm hug) (.int .i64 (i : Int)))
              have HJ3 := hid (hjm.out.setU k (.int .i64 (i : Int)))
              clear hu hkk
              go_wp2_with fail
              go_roundw
              case rel => exact ⟨k + 1, by omega, by go_num, HN.out, HW2.out, HJ3.out⟩
              case measure => simp [intOf]; omega
          · have zu : (u == (j : Int)) = false := by simpa using hu
            have HN := hid (show IntRow wr gU (passU (U.set i x) (j : Int) (i : Int) (k + 1)) from by rw [← HKE.out (fun h => hu h.1)]; exact hrow.out)
            clear hu
            go_wp2_with fail
            go_roundw
            case rel => exact ⟨k + 1, by omega, by go_num, HN.out, hwet.out, hjm.out⟩
            case measure => simp [intOf]; omega
        · obtain rfl : k = U.length := by omega
          obtain ⟨_, q1⟩ := hrow.out.at j (by rw [passU_length, List.length_set]; omega)
          obtain ⟨q0, _⟩ := hrow.out.at j (by rw [passU_length, List.length_set]; omega)
          have HN := hid (show IntRow (wr.setCell ⟨gU, j, none⟩ (.int .i64 (-1))) gU (dropU (U.set i x) j i) from by
            have := hrow.out.store j (-1)
            unfold dropU; rw [List.length_set]; exact this)
          have HW2 := hid (hwet.out.other (a := ⟨gU, j, none⟩) (Ne.symm hug) (.int .i64 (-1)))
          have HJ3 := hid (hjm.out.setU j (.int .i64 (-1)))
          clear hrow hwet hjm
          go_wp2_with fail
          go_ret
          exact ⟨_, rfl, HJ3.out, .inr (.inr ⟨rfl, by rw [HBI.out, HBJ.out]; exact HS1.out, by rw [HBI.out, HBJ.out]; exact HS2.out, by rw [HXX.out]; exact HN.out, HW2.out⟩)⟩
  · have HS1 := hid hs1
    clear hs1
    obtain ⟨_, z0⟩ := (HG2.out).at i (by rw [HGL.out]; omega)
    have zg : (0 : Int) ≤ (i : Int) ∧ (i : Int) < (G.length : Int) := by have := HGL.out; omega
    obtain ⟨z1, _⟩ := (HG2.out).at i (by rw [HGL.out]; omega)
    have HWS := hid ((HG2.out).store i)
    have HUS := hid ((HU2.out).other (a := ⟨gG, i, none⟩) hug (.bool true))
    have HJS := hid ((HJ2.out).setG i (.bool true))
    obtain ⟨c0, c1, _, _⟩ := (HBX.out _ HJS.out).cells
    have HP0 := hid (show IntRow (w2.setCell ⟨gG, i, none⟩ (.bool true)) gU (passU (U) (i : Int) (j : Int) 0) from by rw [passU_zero]; exact HUS.out)
    go_wp2_with fail
    generalize w2.setCell ⟨gG, i, none⟩ (.bool true) = w7 at *
    clear z0 z1 c0 c1 HUS
    go_loopw [70] (fun z wq => ∃ (k : Nat), k ≤ U.length ∧ z = .int .i64 k ∧ Hid (IntRow wq gU (passU (U) (i : Int) (j : Int) k)) ∧ Hid (WetRow wq gG (G.set i true)) ∧ Hid (JoinMem w wq gU gG)) (fun z _ => U.length - (intOf z).toNat)
    case atStart => exact ⟨0, Nat.zero_le _, rfl, HP0.out, HWS.out, HJS.out⟩
    case round =>
      clear HP0 HWS HJS
      obtain ⟨k, hk, rfl, hrow, hwet, hjm⟩ := hrel
      obtain ⟨c0, c1, _, _⟩ := (HBX.out _ hjm.out).cells
      by_cases hkl : k < U.length
      · have hkv : k < (U).length := hkl
        obtain ⟨q0, q1⟩ := hrow.out.at k (by rw [passU_length]; exact hkv)
        rw [passU_here _ _ _ k hkv] at q0
        have HCH := hid (fun h1 h2 => passU_change (U) (i : Int) (j : Int) k hkv h1 h2)
        have HKE := hid (fun h => passU_keep (U) (i : Int) (j : Int) k hkv h)
        generalize (U)[k] = u at *
        have zk : (0 : Int) ≤ (k : Int) ∧ (k : Int) < (U.length : Int) := by omega
        clear hkv
        by_cases hu : u = (i : Int)
        · have zu : (u == (i : Int)) = true := by rw [hu]; simp
          by_cases hkk : (k : Int) = (j : Int)
          · have zkk : ((k : Int) != (j : Int)) = false := by rw [hkk]; simp
            have HN := hid (show IntRow wr gU (passU (U) (i : Int) (j : Int) (k + 1)) from by rw [← HKE.out (fun h => h.2 hkk)]; exact hrow.out)
            clear hu hkk
            go_wp2_with fail
            go_roundw
            case rel => exact ⟨k + 1, by omega, by go_num, HN.out, hwet.out, hjm.out⟩
            case measure => simp [intOf]; omega
          · have zkk : ((k : Int) != (j : Int)) = true := by simpa using hkk
            have HN := hid (show IntRow (wr.setCell ⟨gU, k, none⟩ (.int .i64 (j : Int))) gU (passU (U) (i : Int) (j : Int) (k + 1)) from by rw [← HCH.out hu hkk]; exact hrow.out.store k (j : Int))
            have HW2 := hid (hwet.out.other (a := ⟨gU, k, none⟩) (Ne.symm hug) (.int .i64 (j : Int)))
            have HJ3 := hid (hjm.out.setU k (.int .i64 (j : Int)))
            clear hu hkk
            go_wp2_with fail
            go_roundw
            case rel => exact ⟨k + 1, by omega, by go_num, HN.out, HW2.out, HJ3.out⟩
            case measure => simp [intOf]; omega
        · have zu : (u == (i : Int)) = false := by simpa using hu
          have HN := hid (show IntRow wr gU (passU (U) (i : Int) (j : Int) (k + 1)) from by rw [← HKE.out (fun h => hu h.1)]; exact hrow.out)
          clear hu
          go_wp2_with fail
          go_roundw
          case rel => exact ⟨k + 1, by omega, by go_num, HN.out, hwet.out, hjm.out⟩
          case measure => simp [intOf]; omega
      · obtain rfl : k = U.length := by omega
        obtain ⟨_, q1⟩ := hrow.out.at i (by rw [passU_length]; omega)
        obtain ⟨q0, _⟩ := hrow.out.at i (by rw [passU_length]; omega)
        have HN := hid (show IntRow (wr.setCell ⟨gU, i, none⟩ (.int .i64 (-1))) gU (dropU (U) i j) from by
          have := hrow.out.store i (-1)
          unfold dropU; exact this)
        have HW2 := hid (hwet.out.other (a := ⟨gU, i, none⟩) (Ne.symm hug) (.int .i64 (-1)))
        have HJ3 := hid (hjm.out.setU i (.int .i64 (-1)))
        clear hrow hwet hjm
        go_wp2_with fail
        go_ret
        exact ⟨_, rfl, HJ3.out, .inr (.inl ⟨rfl, by rw [HBI.out, HBJ.out]; exact HS1.out, HN.out, HW2.out⟩)⟩
end Go.Proofs.YtmlecpapoeodkaaDoor
namespace Go.Proofs.YtmlecpapoeodkaaDoor
open Go.RowKit
attribute [local go_sem ↓] run_eqlS run_neqS run_eqlS0 run_neqS0

set_option maxRecDepth 100000 in
set_option maxHeartbeats 1000000 in
theorem cloneS_c (v : Value) (L : List VS) (w : World) (hI : SetsAt w v L) (hl : L.length ≤ 1000) :
    Calls Tryd.prog 40 #[v] w fun e w' => ∃ v', e = .returned v' ∧ OwnSets w' w.heap.size v' L ∧ Below w.heap.size w w' := by
  obtain ⟨p, c, rfl, h⟩ := id hI
  cases p with
  | none =>
    obtain rfl : L = [] := by
      rcases h with h | ⟨b, off, e, _⟩
      · exact h
      · cases e
    have hnil : ∀ W, (binOp .eql 22 (.slice none 0 c) (.slice none 0 0)).run Tryd.prog W = .ok (.bool true) W := fun W => Lib.run_eql_slice_nil_nil W _ _ Tryd.underlying22
    clear h hI
    go_enter Tryd.func40, Tryd.ntmps40
    go_wp2_with fail
    go_ret
    exact ⟨_, rfl, OwnSets.nil _ _, Below.refl _ _⟩
  | some ad =>
    have hnil : ∀ W, (binOp .eql 22 (.slice (some ad) L.length c) (.slice none 0 0)).run Tryd.prog W = .ok (.bool false) W := fun W => Lib.run_eql_slice_some_nil W _ _ _ Tryd.underlying22
    have hba : Below w.heap.size w (w.alloc (.cells #[] 32)) := (Below.refl _ w).alloc (Nat.le_refl _) _
    have HN1 := hid (own_noneS w (B := w.heap.size) (Nat.le_refl _))
    have HIA := hid (hI.below hba)
    have HBA := hid hba
    clear h hI hba
    go_enter Tryd.func40, Tryd.ntmps40
    go_wp2_with (at_builtin; refine wpList_append_S rfl _ _ rfl w.heap.size (.slice (some ⟨w.heap.size, 0, none⟩) 0 0) [] rfl HN1.out (.slice (some ad) L.length c) L rfl HIA.out (by show 0 + _ ≤ 16777216; omega) HBA.out.size ?_; intro v5 w3 ho3 hg3 _; rw [List.nil_append] at ho3)
    have hb3 : Below w.heap.size w w3 := below_app HBA.out (Nat.le_refl _) HN1.out hg3
    go_ret
    exact ⟨_, rfl, ho3, hb3⟩
set_option maxRecDepth 100000 in
set_option maxHeartbeats 1000000 in
theorem cloneI_c (v : Value) (L : List Int) (w : World) (hI : IntsAt w v L) (hl : L.length ≤ 1000) :
    Calls Tryd.prog 47 #[v] w fun e w' => ∃ v', e = .returned v' ∧ OwnInts w' w.heap.size v' L ∧ Below w.heap.size w w' := by
  obtain ⟨p, c, rfl, h⟩ := id hI
  cases p with
  | none =>
    obtain rfl : L = [] := by
      rcases h with h | ⟨b, off, e, _⟩
      · exact h
      · cases e
    have hnil : ∀ W, (binOp .eql 23 (.slice none 0 c) (.slice none 0 0)).run Tryd.prog W = .ok (.bool true) W := fun W => Lib.run_eql_slice_nil_nil W _ _ Tryd.underlying23
    clear h hI
    go_enter Tryd.func47, Tryd.ntmps47
    go_wp2_with fail
    go_ret
    exact ⟨_, rfl, OwnInts.nil _ _, Below.refl _ _⟩
  | some ad =>
    have hnil : ∀ W, (binOp .eql 23 (.slice (some ad) L.length c) (.slice none 0 0)).run Tryd.prog W = .ok (.bool false) W := fun W => Lib.run_eql_slice_some_nil W _ _ _ Tryd.underlying23
    have hba : Below w.heap.size w (w.alloc (.cells #[] 3)) := (Below.refl _ w).alloc (Nat.le_refl _) _
    have HN1 := hid (own_noneI w (B := w.heap.size) (Nat.le_refl _))
    have HIA := hid (hI.below hba)
    have HBA := hid hba
    clear h hI hba
    go_enter Tryd.func47, Tryd.ntmps47
    go_wp2_with (at_builtin; refine wpList_append_I rfl _ _ rfl w.heap.size (.slice (some ⟨w.heap.size, 0, none⟩) 0 0) [] rfl HN1.out (.slice (some ad) L.length c) L rfl HIA.out (by show 0 + _ ≤ 16777216; omega) HBA.out.size ?_; intro v5 w3 ho3 hg3 _; rw [List.nil_append] at ho3)
    have hb3 : Below w.heap.size w w3 := below_app HBA.out (Nat.le_refl _) HN1.out hg3
    go_ret
    exact ⟨_, rfl, ho3, hb3⟩
end Go.Proofs.YtmlecpapoeodkaaDoor
namespace Go.Proofs.YtmlecpapoeodkaaDoor
open Go.RowKit
attribute [local go_sem ↓] run_eqlS run_neqS run_eqlS0 run_neqS0

theorem OwnInts.row {w : World} {B : Nat} {v : Value} {l : List Int} (h : OwnInts w B v l) (hne : 0 < l.length) : ∃ g c, v = .slice (some ⟨g, 0, none⟩) l.length c ∧ B ≤ g ∧ IntRow w g l := by
  obtain ⟨_, h | ⟨g, cap, cur, rfl, hB, hg, hn, _, _, ht⟩⟩ := h
  · have := h.2; omega
  · refine ⟨g, cap, rfl, hB, cur, _, hg, ?_, fun i hi => ?_⟩
    · have : ((cur.toList.take (l.length * 1)).length) = l.length := by rw [ht]; simp
      simp at this; omega
    · have : (l.map (Value.int .i64))[i]? = some (.int .i64 l[i]) := by simp [hi]
      rw [← ht, List.getElem?_take] at this
      simp [hi] at this
      simpa using this
/-- What is in memory when the clone of a tree lies in its variable. -/
structure CutM (w wr : World) (n q : Nat) (vB vU : Value) (x y : Value) (B : List VS) (U : List Int) : Prop where
  av : Box2 wr n 25 x y
  rv : Box2 wr (n + 1) 25 (.slice none 0 0) (.slice none 0 0)
  qv : Box2 wr q 25 vB vU
  own : OwnSets wr (n + 2) vB B
  ownU : OwnInts wr (n + 2) vU U
  low : Below w.heap.size w wr
  qn : n + 2 ≤ q
theorem CutM.of {w wr : World} {n q : Nat} {vB vU x y : Value} {B : List VS} {U : List Int} (hn : w.heap.size ≤ n) (av : Box2 wr n 25 x y) (rv : Box2 wr (n + 1) 25 (.slice none 0 0) (.slice none 0 0))
    {z z' : Value} (qv : Box2 wr q 25 z z') (own : OwnSets wr (n + 2) vB B) (ownU : OwnInts wr (n + 2) vU U) (low : Below w.heap.size w wr) (qn : n + 2 ≤ q) :
    CutM w ((wr.setCell ⟨q, 0, none⟩ vB).setCell ⟨q, 1, none⟩ vU) n q vB vU x y B U := by
  have hg := grownBy_01 wr q vB vU
  have n1 : ∀ b, b ≠ q → some b ≠ some q := fun b hb e => hb (by simpa using e)
  exact ⟨av.kept hg (n1 _ (by omega)), rv.kept hg (n1 _ (by omega)), qv.set01 _ _, own.kept hg (.inr (own_ne_box own qv (by decide))), ownU.kept hg (.inr (own_ne_box ownU qv (by decide))), below_01 low (by omega) _ _, qn⟩
/-- What is in memory while bags are merged. -/
structure MgMem (w wr : World) (n q gB gU gG : Nat) (pB pU : Option Addr) (cB cU : Nat) (B : List VS) (U : List Int) (G : List Bool) : Prop where
  ord : w.heap.size ≤ n
  rv : Box2 wr (n + 1) 25 (.slice none 0 0) (.slice none 0 0)
  qv : Box2 wr q 25 (.slice pB B.length cB) (.slice pU B.length cU)
  sets : SetsAt wr (.slice pB B.length cB) B
  ints : IntsAt wr (.slice pU B.length cU) U
  len : U.length = B.length
  glen : G.length = B.length
  pos : 0 < B.length → pB = some ⟨gB, 0, none⟩ ∧ pU = some ⟨gU, 0, none⟩ ∧ SetRow wr gB B ∧ IntRow wr gU U ∧ gB ≠ gU ∧ gB ≠ gG ∧ gU ≠ gG ∧ q ≠ gU ∧ n + 2 ≤ gU
  wet : WetRow wr gG G
  far : n + 2 ≤ q ∧ n + 2 ≤ gG ∧ q ≠ gG
  low : Below w.heap.size w wr
section
variable {w wr wr' : World} {n q gB gU gG : Nat} {pB pU : Option Addr} {cB cU : Nat} {B : List VS} {U : List Int} {G : List Bool} (h : MgMem w wr n q gB gU gG pB pU cB cU B U G)
include h
theorem MgMem.below (hb : Below wr.heap.size wr wr') : MgMem w wr' n q gB gU gG pB pU cB cU B U G :=
  ⟨h.ord, h.rv.below hb h.rv.lt, h.qv.below hb h.qv.lt, h.sets.below hb, h.ints.below hb, h.len, h.glen, fun hp => by
    obtain ⟨a, b, c, d, e⟩ := h.pos hp
    exact ⟨a, b, c.below hb c.lt, d.below hb d.lt, e⟩, h.wet.below hb h.wet.lt, h.far, h.low.trans (hb.mono h.low.size)⟩
theorem MgMem.join (hp : 0 < B.length) (hj : JoinMem wr wr' gU gG) {U' : List Int} {G' : List Bool} (hU : IntRow wr' gU U') (hG : WetRow wr' gG G') (hl : U'.length = B.length) (hgl : G'.length = B.length) : MgMem w wr' n q gB gU gG pB pU cB cU B U' G' := by
  obtain ⟨a, b, c, d, e1, e2, e3, e4, e5⟩ := h.pos hp
  have ho := h.ord
  obtain ⟨f1, f2, f3⟩ := h.far
  have hr := c.same (hj.rest gB c.lt e1 e2)
  subst a; subst b
  refine ⟨ho, h.rv.same (hj.rest _ h.rv.lt (by omega) (by omega)), h.qv.same (hj.rest _ h.qv.lt e4 f3), hr.sets cB, ?_, hl, hgl, fun _ => ⟨rfl, rfl, hr, hU, e1, e2, e3, e4, e5⟩, hG, h.far, h.low.trans (hj.low _ (by omega) (by omega) h.low.size)⟩
  have := hU.ints cU
  rw [hl] at this; exact this
end
/-- What Merge returns. -/
def MergePost (B : List VS) (U : List Int) (w : World) (e : Ending) (w' : World) : Prop :=
  ∃ vB vU B2 U2, e = .returned (.agg #[vB, vU]) ∧ OwnSets w' w.heap.size vB B2 ∧ OwnInts w' w.heap.size vU U2 ∧ Below w.heap.size w w' ∧ ((formedB B.length U = false ∧ B2 = B ∧ U2 = U) ∨ (formedB B.length U = true ∧ MRun B U 0 B2 U2))
set_option maxRecDepth 100000 in
set_option maxHeartbeats 16000000 in
theorem Merge_c (v v2 : Value) (B : List VS) (U : List Int) (w : World) (hx : SetsAt w v B) (hy : IntsAt w v2 U) (hl : B.length ≤ 1000) (hlu : U.length ≤ 1000) :
    Calls Tryd.prog 18 #[.agg #[v, v2]] w (MergePost B U w) := by
  have HX := hid (fun w' (h : Below w.heap.size w w') => hx.below h)
  have HY := hid (fun w' (h : Below w.heap.size w w') => hy.below h)
  obtain ⟨px, cx, rfl, hdrop⟩ := id hx
  obtain ⟨py, cy, rfl, hdrop2⟩ := id hy
  clear hdrop hdrop2 hx hy
  have b0 := (Box2.new w 25 (.slice px B.length cx) (.slice py U.length cy)).alloc (.cells #[.slice none 0 0, .slice none 0 0] 25)
  have b1 := Box2.new (w.alloc (.cells #[.slice px B.length cx, .slice py U.length cy] 25)) 25 (.slice none 0 0) (.slice none 0 0)
  rw [World.size_alloc] at b1
  have bl : Below w.heap.size w ((w.alloc (.cells #[.slice px B.length cx, .slice py U.length cy] 25)).alloc (.cells #[.slice none 0 0, .slice none 0 0] 25)) := ((Below.refl _ w).alloc (Nat.le_refl _) _).alloc (by simp) _
  have hs0 : ((w.alloc (.cells #[.slice px B.length cx, .slice py U.length cy] 25)).alloc (.cells #[.slice none 0 0, .slice none 0 0] 25)).heap.size = w.heap.size + 2 := by simp
  have HB0 := hid b0
  have HB1 := hid b1
  have HBL := hid bl
  have HS0 := hid hs0
  clear b0 b1 bl hs0
  go_enter Tryd.func18, Tryd.ntmps18
  go_upto_region 1 with fail
  generalize (w.alloc (.cells #[.slice px B.length cx, .slice py U.length cy] 25)).alloc (.cells #[.slice none 0 0, .slice none 0 0] 25) = w1 at *
  obtain ⟨n, hn⟩ : ∃ n, n = w.heap.size := ⟨_, rfl⟩
  rw [← hn] at HB0 HB1 HS0 ⊢
  have HN := hid (show w.heap.size ≤ n by omega)
  clear hn
  go_cut [3] (fun s3 wx => ∃ (q : Nat) (vB vU : Value), s3 = .pointer (some ⟨q, 0, none⟩) ∧ Hid (CutM w wx n q vB vU (.slice px B.length cx) (.slice py U.length cy) B U))
  case first =>
    have BA : Hid (Box2 w1.drew n 25 (.slice px B.length cx) (.slice py U.length cy)) := HB0.out
    have ta0 : Box2 w1.drew n 25 (.slice px B.length cx) (.slice py U.length cy) := HB0.out
    have tr0 : Box2 w1.drew (n + 1) 25 (.slice none 0 0) (.slice none 0 0) := HB1.out
    have tb0 : Below w.heap.size w w1.drew := HBL.out.drew
    have ts0 : n + 2 ≤ w1.drew.heap.size := by show n + 2 ≤ w1.heap.size; rw [HS0.out]; exact Nat.le_refl _
    refine Go.Proofs.YtmlecpapoeodkaaDoor.wp_region_L 9 5 (fun w' => Box2 w' (n) 25 (.slice px B.length cx) (.slice py U.length cy)) (by kernel_rfl) rfl BA.out (fun _ => ?_)
    refine wpAnyL_pure (i := 0) (v := .pointer (some ⟨n, 0, none⟩)) (by simp only [List.getElem?_toArray, List.getElem?_cons_zero] <;> rfl) (by kernel_rfl) (by kernel_rfl) (by kernel_rfl) (by exact fun _ _ _ h => h) (by decide) (.inr BA.out) (Or.inl ⟨by rfl, fun w _ => (by simp [execOp, go_sem, Act.eval])⟩) (fun _ => ?_)
    simp only [Act.put, List.setIfInBounds_toArray, List.set_cons_zero, List.set_cons_succ]
    refine wpAnyL_load2 (i := 1) (v := .slice px B.length cx) (by simp only [List.getElem?_toArray, List.getElem?_cons_zero, List.getElem?_cons_succ] <;> rfl) (by kernel_rfl) (by kernel_rfl) (by kernel_rfl) (by exact fun _ _ _ h => h) (by decide) (Waits.more (j := 2) rfl ⟨⟨2, .chain⟩, by simp, rfl, rfl⟩ (Waits.one rfl ⟨⟨1, .data⟩, by simp, rfl, rfl⟩)) (by kernel_rfl) (by kernel_rfl) (.inr BA.out) (Or.inl ⟨by rfl, fun w hw => (by have x0 := hw; simp [execOp, go_sem, Act.eval, x0.cells.1])⟩) (fun _ => ?_)
    simp only [Act.put, List.setIfInBounds_toArray, List.set_cons_zero, List.set_cons_succ]
    refine wpAnyL_pure (i := 3) (v := .pointer (some ⟨n, 1, none⟩)) (by simp only [List.getElem?_toArray, List.getElem?_cons_zero, List.getElem?_cons_succ] <;> rfl) (by kernel_rfl) (by kernel_rfl) (by kernel_rfl) (by exact fun _ _ _ h => h) (by decide) (.inr BA.out) (Or.inl ⟨by rfl, fun w _ => (by simp [execOp, go_sem, Act.eval])⟩) (fun _ => ?_)
    simp only [Act.put, List.setIfInBounds_toArray, List.set_cons_zero, List.set_cons_succ]
    refine wpAnyL_load2 (i := 4) (v := .slice py U.length cy) (by simp only [List.getElem?_toArray, List.getElem?_cons_zero, List.getElem?_cons_succ] <;> rfl) (by kernel_rfl) (by kernel_rfl) (by kernel_rfl) (by exact fun _ _ _ h => h) (by decide) (Waits.one rfl ⟨⟨4, .data⟩, by simp, rfl, rfl⟩) (by kernel_rfl) (by kernel_rfl) (.inr BA.out) (Or.inl ⟨by rfl, fun w hw => (by have x0 := hw; simp [execOp, go_sem, Act.eval, x0.cells.2.1])⟩) (fun _ => ?_)
    simp only [Act.put, List.setIfInBounds_toArray, List.set_cons_zero, List.set_cons_succ]
    refine wpAnyL_two (i := 2) (j := 7) (by kernel_rfl) (by simp only [List.getElem?_toArray, List.getElem?_cons_zero, List.getElem?_cons_succ] <;> rfl) (by rfl) (by simp only [List.getElem?_toArray, List.getElem?_cons_zero, List.getElem?_cons_succ] <;> rfl) (by rfl) ?_ ?_
    · refine opwp_call (f := 40) (args := #[.slice px B.length cx]) (w' := w1.drew) (by simp [go_sem, Act.eval]) ?_
      refine (cloneS_c _ B w1.drew (HX.out _ tb0) hl).mono ?_
      rintro e wa1 ⟨va1, rfl, hoa1, hba1⟩
      have hca1_0 := hid (BA.out.below hba1 BA.out.lt)
      obtain ⟨pa1, ca1, ea1, _⟩ := OwnSets.sets hoa1
      subst ea1
      have tAa2 : Box2 wa1 n 25 (.slice px B.length cx) (.slice py U.length cy) := ta0.below hba1 ta0.lt
      have tRa2 : Box2 wa1 (n + 1) 25 (.slice none 0 0) (.slice none 0 0) := tr0.below hba1 tr0.lt
      have tBa2 : Below w.heap.size w wa1 := tb0.trans (hba1.mono tb0.size)
      have tZa2 : n + 2 ≤ wa1.heap.size := Nat.le_trans ts0 hba1.size
      have tSa1 : OwnSets wa1 (n + 2) (.slice pa1 B.length ca1) B := World.ownsRow.mono hoa1 ts0
      refine .inl ⟨_, rfl, .inr hca1_0.out, ?_⟩
      simp only [Act.put, List.setIfInBounds_toArray, List.set_cons_zero, List.set_cons_succ]
      refine wpAnyL_two (i := 5) (j := 7) (by kernel_rfl) (by simp only [List.getElem?_toArray, List.getElem?_cons_zero, List.getElem?_cons_succ] <;> rfl) (by rfl) (by simp only [List.getElem?_toArray, List.getElem?_cons_zero, List.getElem?_cons_succ] <;> rfl) (by rfl) ?_ ?_
      · refine opwp_call (f := 47) (args := #[.slice py U.length cy]) (w' := wa1) (by simp [go_sem, Act.eval]) ?_
        refine (cloneI_c _ U wa1 (HY.out _ tBa2) hlu).mono ?_
        rintro e waa3 ⟨vaa3, rfl, hoaa3, hbaa3⟩
        obtain ⟨paa3, caa3, eaa3, _⟩ := OwnInts.ints hoaa3
        subst eaa3
        have tAaa4 : Box2 waa3 n 25 (.slice px B.length cx) (.slice py U.length cy) := tAa2.below hbaa3 tAa2.lt
        have tRaa4 : Box2 waa3 (n + 1) 25 (.slice none 0 0) (.slice none 0 0) := tRa2.below hbaa3 tRa2.lt
        have tBaa4 : Below w.heap.size w waa3 := tBa2.trans (hbaa3.mono tBa2.size)
        have tZaa4 : n + 2 ≤ waa3.heap.size := Nat.le_trans tZa2 hbaa3.size
        have tSaa4 : OwnSets waa3 (n + 2) (.slice pa1 B.length ca1) B := OwnSets.below tSa1 hbaa3
        have tIaa3 : OwnInts waa3 (n + 2) (.slice paa3 U.length caa3) U := World.ownsRow.mono hoaa3 tZa2
        refine .inl ⟨_, rfl, .inl (by kernel_rfl), ?_⟩
        simp only [Act.put, List.setIfInBounds_toArray, List.set_cons_zero, List.set_cons_succ]
        refine wpAnyL_two (i := 6) (j := 7) (by kernel_rfl) (by simp only [List.getElem?_toArray, List.getElem?_cons_zero, List.getElem?_cons_succ] <;> rfl) (by rfl) (by simp only [List.getElem?_toArray, List.getElem?_cons_zero, List.getElem?_cons_succ] <;> rfl) (by rfl) ?_ ?_
        · refine opwp_value (v := .agg #[(.slice pa1 B.length ca1), (.slice paa3 U.length caa3)]) (w' := waa3) (by simp [execOp, go_sem, Act.eval]) ⟨.inl (by kernel_rfl), ?_⟩
          simp only [Act.put, List.setIfInBounds_toArray, List.set_cons_zero, List.set_cons_succ]
          have tAaaa6 : Box2 (waa3.alloc (.cells #[.slice none 0 0, .slice none 0 0] 25)) n 25 (.slice px B.length cx) (.slice py U.length cy) := tAaa4.alloc _
          have tRaaa6 : Box2 (waa3.alloc (.cells #[.slice none 0 0, .slice none 0 0] 25)) (n + 1) 25 (.slice none 0 0) (.slice none 0 0) := tRaa4.alloc _
          have tBaaa6 : Below w.heap.size w (waa3.alloc (.cells #[.slice none 0 0, .slice none 0 0] 25)) := tBaa4.alloc tBaa4.size _
          have tZaaa6 : n + 2 ≤ (waa3.alloc (.cells #[.slice none 0 0, .slice none 0 0] 25)).heap.size := Nat.le_trans tZaa4 (by simp)
          have tSaaa6 : OwnSets (waa3.alloc (.cells #[.slice none 0 0, .slice none 0 0] 25)) (n + 2) (.slice pa1 B.length ca1) B := World.ownsRow.alloc tSaa4 _
          have tIaaa6 : OwnInts (waa3.alloc (.cells #[.slice none 0 0, .slice none 0 0] 25)) (n + 2) (.slice paa3 U.length caa3) U := World.ownsRow.alloc tIaa3 _
          have tQaaa5 : Box2 (waa3.alloc (.cells #[.slice none 0 0, .slice none 0 0] 25)) waa3.heap.size 25 (.slice none 0 0) (.slice none 0 0) := Box2.new waa3 25 _ _
          have tLaaa5 : n + 2 ≤ waa3.heap.size := tZaa4
          refine wpAnyL_one (i := 7) (by kernel_rfl) (by simp only [List.getElem?_toArray, List.getElem?_cons_zero, List.getElem?_cons_succ] <;> rfl) (by rfl) ?_
          refine opwp_value (v := .pointer (some ⟨waa3.heap.size, 0, none⟩)) (w' := (waa3.alloc (.cells #[.slice none 0 0, .slice none 0 0] 25))) (by simp [execOp, go_sem]) ⟨.inl (by kernel_rfl), ?_⟩
          simp only [Act.put, List.setIfInBounds_toArray, List.set_cons_zero, List.set_cons_succ]
          obtain ⟨z0, z1, z2, z3⟩ := tQaaa5.cells
          refine wpAnyL_one (i := 8) (by kernel_rfl) (by simp only [List.getElem?_toArray, List.getElem?_cons_zero, List.getElem?_cons_succ] <;> rfl) (by rfl) ?_
          refine opwp_skip (w' := (((waa3.alloc (.cells #[.slice none 0 0, .slice none 0 0] 25)).setCell ⟨waa3.heap.size, 0, none⟩ (.slice pa1 B.length ca1)).setCell ⟨waa3.heap.size, 1, none⟩ (.slice paa3 U.length caa3))) (by simp [execOp, go_sem, Act.eval, z0, z2]) ⟨.inl (by kernel_rfl), ?_⟩
          simp only [Act.put]
          refine wpAnyL_done (by kernel_rfl) ?_ _
          have hfin := hid (CutM.of HN.out tAaaa6 tRaaa6 tQaaa5 tSaaa6 tIaaa6 tBaaa6 tLaaa5)
          go_wp2_with fail
          go_meet
          exact ⟨_, _, _, rfl, hfin.out⟩
        · have tAaab6 : Box2 (waa3.alloc (.cells #[.slice none 0 0, .slice none 0 0] 25)) n 25 (.slice px B.length cx) (.slice py U.length cy) := tAaa4.alloc _
          have tRaab6 : Box2 (waa3.alloc (.cells #[.slice none 0 0, .slice none 0 0] 25)) (n + 1) 25 (.slice none 0 0) (.slice none 0 0) := tRaa4.alloc _
          have tBaab6 : Below w.heap.size w (waa3.alloc (.cells #[.slice none 0 0, .slice none 0 0] 25)) := tBaa4.alloc tBaa4.size _
          have tZaab6 : n + 2 ≤ (waa3.alloc (.cells #[.slice none 0 0, .slice none 0 0] 25)).heap.size := Nat.le_trans tZaa4 (by simp)
          have tSaab6 : OwnSets (waa3.alloc (.cells #[.slice none 0 0, .slice none 0 0] 25)) (n + 2) (.slice pa1 B.length ca1) B := World.ownsRow.alloc tSaa4 _
          have tIaab6 : OwnInts (waa3.alloc (.cells #[.slice none 0 0, .slice none 0 0] 25)) (n + 2) (.slice paa3 U.length caa3) U := World.ownsRow.alloc tIaa3 _
          have tQaab5 : Box2 (waa3.alloc (.cells #[.slice none 0 0, .slice none 0 0] 25)) waa3.heap.size 25 (.slice none 0 0) (.slice none 0 0) := Box2.new waa3 25 _ _
          have tLaab5 : n + 2 ≤ waa3.heap.size := tZaa4
          refine opwp_value (v := .pointer (some ⟨waa3.heap.size, 0, none⟩)) (w' := (waa3.alloc (.cells #[.slice none 0 0, .slice none 0 0] 25))) (by simp [execOp, go_sem]) ⟨.inl (by kernel_rfl), ?_⟩
          simp only [Act.put, List.setIfInBounds_toArray, List.set_cons_zero, List.set_cons_succ]
          refine wpAnyL_one (i := 6) (by kernel_rfl) (by simp only [List.getElem?_toArray, List.getElem?_cons_zero, List.getElem?_cons_succ] <;> rfl) (by rfl) ?_
          refine opwp_value (v := .agg #[(.slice pa1 B.length ca1), (.slice paa3 U.length caa3)]) (w' := (waa3.alloc (.cells #[.slice none 0 0, .slice none 0 0] 25))) (by simp [execOp, go_sem, Act.eval]) ⟨.inl (by kernel_rfl), ?_⟩
          simp only [Act.put, List.setIfInBounds_toArray, List.set_cons_zero, List.set_cons_succ]
          obtain ⟨z0, z1, z2, z3⟩ := tQaab5.cells
          refine wpAnyL_one (i := 8) (by kernel_rfl) (by simp only [List.getElem?_toArray, List.getElem?_cons_zero, List.getElem?_cons_succ] <;> rfl) (by rfl) ?_
          refine opwp_skip (w' := (((waa3.alloc (.cells #[.slice none 0 0, .slice none 0 0] 25)).setCell ⟨waa3.heap.size, 0, none⟩ (.slice pa1 B.length ca1)).setCell ⟨waa3.heap.size, 1, none⟩ (.slice paa3 U.length caa3))) (by simp [execOp, go_sem, Act.eval, z0, z2]) ⟨.inl (by kernel_rfl), ?_⟩
          simp only [Act.put]
          refine wpAnyL_done (by kernel_rfl) ?_ _
          have hfin := hid (CutM.of HN.out tAaab6 tRaab6 tQaab5 tSaab6 tIaab6 tBaab6 tLaab5)
          go_wp2_with fail
          go_meet
          exact ⟨_, _, _, rfl, hfin.out⟩
      · have tAab4 : Box2 (wa1.alloc (.cells #[.slice none 0 0, .slice none 0 0] 25)) n 25 (.slice px B.length cx) (.slice py U.length cy) := tAa2.alloc _
        have tRab4 : Box2 (wa1.alloc (.cells #[.slice none 0 0, .slice none 0 0] 25)) (n + 1) 25 (.slice none 0 0) (.slice none 0 0) := tRa2.alloc _
        have tBab4 : Below w.heap.size w (wa1.alloc (.cells #[.slice none 0 0, .slice none 0 0] 25)) := tBa2.alloc tBa2.size _
        have tZab4 : n + 2 ≤ (wa1.alloc (.cells #[.slice none 0 0, .slice none 0 0] 25)).heap.size := Nat.le_trans tZa2 (by simp)
        have tSab4 : OwnSets (wa1.alloc (.cells #[.slice none 0 0, .slice none 0 0] 25)) (n + 2) (.slice pa1 B.length ca1) B := World.ownsRow.alloc tSa1 _
        have faab3_0 : Hid (Box2 (wa1.alloc (.cells #[.slice none 0 0, .slice none 0 0] 25)) (n) 25 (.slice px B.length cx) (.slice py U.length cy)) := hca1_0.out.alloc _
        have tQab3 : Box2 (wa1.alloc (.cells #[.slice none 0 0, .slice none 0 0] 25)) wa1.heap.size 25 (.slice none 0 0) (.slice none 0 0) := Box2.new wa1 25 _ _
        have tLab3 : n + 2 ≤ wa1.heap.size := tZa2
        refine opwp_value (v := .pointer (some ⟨wa1.heap.size, 0, none⟩)) (w' := (wa1.alloc (.cells #[.slice none 0 0, .slice none 0 0] 25))) (by simp [execOp, go_sem]) ⟨.inr faab3_0.out, ?_⟩
        simp only [Act.put, List.setIfInBounds_toArray, List.set_cons_zero, List.set_cons_succ]
        refine wpAnyL_one (i := 5) (by kernel_rfl) (by simp only [List.getElem?_toArray, List.getElem?_cons_zero, List.getElem?_cons_succ] <;> rfl) (by rfl) ?_
        refine opwp_call (f := 47) (args := #[.slice py U.length cy]) (w' := (wa1.alloc (.cells #[.slice none 0 0, .slice none 0 0] 25))) (by simp [go_sem, Act.eval]) ?_
        refine (cloneI_c _ U (wa1.alloc (.cells #[.slice none 0 0, .slice none 0 0] 25)) (HY.out _ tBab4) hlu).mono ?_
        rintro e wab5 ⟨vab5, rfl, hoab5, hbab5⟩
        obtain ⟨pab5, cab5, eab5, _⟩ := OwnInts.ints hoab5
        subst eab5
        have tAab6 : Box2 wab5 n 25 (.slice px B.length cx) (.slice py U.length cy) := tAab4.below hbab5 tAab4.lt
        have tRab6 : Box2 wab5 (n + 1) 25 (.slice none 0 0) (.slice none 0 0) := tRab4.below hbab5 tRab4.lt
        have tBab6 : Below w.heap.size w wab5 := tBab4.trans (hbab5.mono tBab4.size)
        have tZab6 : n + 2 ≤ wab5.heap.size := Nat.le_trans tZab4 hbab5.size
        have tSab6 : OwnSets wab5 (n + 2) (.slice pa1 B.length ca1) B := OwnSets.below tSab4 hbab5
        have tQab6 : Box2 wab5 wa1.heap.size 25 (.slice none 0 0) (.slice none 0 0) := tQab3.below hbab5 tQab3.lt
        have tIab5 : OwnInts wab5 (n + 2) (.slice pab5 U.length cab5) U := World.ownsRow.mono hoab5 tZab4
        refine .inl ⟨_, rfl, .inl (by kernel_rfl), ?_⟩
        simp only [Act.put, List.setIfInBounds_toArray, List.set_cons_zero, List.set_cons_succ]
        refine wpAnyL_one (i := 6) (by kernel_rfl) (by simp only [List.getElem?_toArray, List.getElem?_cons_zero, List.getElem?_cons_succ] <;> rfl) (by rfl) ?_
        refine opwp_value (v := .agg #[(.slice pa1 B.length ca1), (.slice pab5 U.length cab5)]) (w' := wab5) (by simp [execOp, go_sem, Act.eval]) ⟨.inl (by kernel_rfl), ?_⟩
        simp only [Act.put, List.setIfInBounds_toArray, List.set_cons_zero, List.set_cons_succ]
        obtain ⟨z0, z1, z2, z3⟩ := tQab6.cells
        refine wpAnyL_one (i := 8) (by kernel_rfl) (by simp only [List.getElem?_toArray, List.getElem?_cons_zero, List.getElem?_cons_succ] <;> rfl) (by rfl) ?_
        refine opwp_skip (w' := ((wab5.setCell ⟨wa1.heap.size, 0, none⟩ (.slice pa1 B.length ca1)).setCell ⟨wa1.heap.size, 1, none⟩ (.slice pab5 U.length cab5))) (by simp [execOp, go_sem, Act.eval, z0, z1, z2, z3]) ⟨.inl (by kernel_rfl), ?_⟩
        simp only [Act.put]
        refine wpAnyL_done (by kernel_rfl) ?_ _
        have hfin := hid (CutM.of HN.out tAab6 tRab6 tQab6 tSab6 tIab5 tBab6 tLab3)
        go_wp2_with fail
        go_meet
        exact ⟨_, _, _, rfl, hfin.out⟩
    · have tAb2 : Box2 (w1.drew.alloc (.cells #[.slice none 0 0, .slice none 0 0] 25)) n 25 (.slice px B.length cx) (.slice py U.length cy) := ta0.alloc _
      have tRb2 : Box2 (w1.drew.alloc (.cells #[.slice none 0 0, .slice none 0 0] 25)) (n + 1) 25 (.slice none 0 0) (.slice none 0 0) := tr0.alloc _
      have tBb2 : Below w.heap.size w (w1.drew.alloc (.cells #[.slice none 0 0, .slice none 0 0] 25)) := tb0.alloc tb0.size _
      have tZb2 : n + 2 ≤ (w1.drew.alloc (.cells #[.slice none 0 0, .slice none 0 0] 25)).heap.size := Nat.le_trans ts0 (by simp)
      have fab1_0 : Hid (Box2 (w1.drew.alloc (.cells #[.slice none 0 0, .slice none 0 0] 25)) (n) 25 (.slice px B.length cx) (.slice py U.length cy)) := BA.out.alloc _
      have tQb1 : Box2 (w1.drew.alloc (.cells #[.slice none 0 0, .slice none 0 0] 25)) w1.heap.size 25 (.slice none 0 0) (.slice none 0 0) := Box2.new w1.drew 25 _ _
      have tLb1 : n + 2 ≤ w1.heap.size := ts0
      refine opwp_value (v := .pointer (some ⟨w1.heap.size, 0, none⟩)) (w' := (w1.drew.alloc (.cells #[.slice none 0 0, .slice none 0 0] 25))) (by simp [execOp, go_sem]) ⟨.inr fab1_0.out, ?_⟩
      simp only [Act.put, List.setIfInBounds_toArray, List.set_cons_zero, List.set_cons_succ]
      refine wpAnyL_one (i := 2) (by kernel_rfl) (by simp only [List.getElem?_toArray, List.getElem?_cons_zero, List.getElem?_cons_succ] <;> rfl) (by rfl) ?_
      refine opwp_call (f := 40) (args := #[.slice px B.length cx]) (w' := (w1.drew.alloc (.cells #[.slice none 0 0, .slice none 0 0] 25))) (by simp [go_sem, Act.eval]) ?_
      refine (cloneS_c _ B (w1.drew.alloc (.cells #[.slice none 0 0, .slice none 0 0] 25)) (HX.out _ tBb2) hl).mono ?_
      rintro e wb3 ⟨vb3, rfl, hob3, hbb3⟩
      have hcb1_0 := hid (fab1_0.out.below hbb3 fab1_0.out.lt)
      obtain ⟨pb3, cb3, eb3, _⟩ := OwnSets.sets hob3
      subst eb3
      have tAb4 : Box2 wb3 n 25 (.slice px B.length cx) (.slice py U.length cy) := tAb2.below hbb3 tAb2.lt
      have tRb4 : Box2 wb3 (n + 1) 25 (.slice none 0 0) (.slice none 0 0) := tRb2.below hbb3 tRb2.lt
      have tBb4 : Below w.heap.size w wb3 := tBb2.trans (hbb3.mono tBb2.size)
      have tZb4 : n + 2 ≤ wb3.heap.size := Nat.le_trans tZb2 hbb3.size
      have tQb4 : Box2 wb3 w1.heap.size 25 (.slice none 0 0) (.slice none 0 0) := tQb1.below hbb3 tQb1.lt
      have tSb3 : OwnSets wb3 (n + 2) (.slice pb3 B.length cb3) B := World.ownsRow.mono hob3 tZb2
      refine .inl ⟨_, rfl, .inr hcb1_0.out, ?_⟩
      simp only [Act.put, List.setIfInBounds_toArray, List.set_cons_zero, List.set_cons_succ]
      refine wpAnyL_one (i := 5) (by kernel_rfl) (by simp only [List.getElem?_toArray, List.getElem?_cons_zero, List.getElem?_cons_succ] <;> rfl) (by rfl) ?_
      refine opwp_call (f := 47) (args := #[.slice py U.length cy]) (w' := wb3) (by simp [go_sem, Act.eval]) ?_
      refine (cloneI_c _ U wb3 (HY.out _ tBb4) hlu).mono ?_
      rintro e wb5 ⟨vb5, rfl, hob5, hbb5⟩
      obtain ⟨pb5, cb5, eb5, _⟩ := OwnInts.ints hob5
      subst eb5
      have tAb6 : Box2 wb5 n 25 (.slice px B.length cx) (.slice py U.length cy) := tAb4.below hbb5 tAb4.lt
      have tRb6 : Box2 wb5 (n + 1) 25 (.slice none 0 0) (.slice none 0 0) := tRb4.below hbb5 tRb4.lt
      have tBb6 : Below w.heap.size w wb5 := tBb4.trans (hbb5.mono tBb4.size)
      have tZb6 : n + 2 ≤ wb5.heap.size := Nat.le_trans tZb4 hbb5.size
      have tQb6 : Box2 wb5 w1.heap.size 25 (.slice none 0 0) (.slice none 0 0) := tQb4.below hbb5 tQb4.lt
      have tSb6 : OwnSets wb5 (n + 2) (.slice pb3 B.length cb3) B := OwnSets.below tSb3 hbb5
      have tIb5 : OwnInts wb5 (n + 2) (.slice pb5 U.length cb5) U := World.ownsRow.mono hob5 tZb4
      refine .inl ⟨_, rfl, .inl (by kernel_rfl), ?_⟩
      simp only [Act.put, List.setIfInBounds_toArray, List.set_cons_zero, List.set_cons_succ]
      refine wpAnyL_one (i := 6) (by kernel_rfl) (by simp only [List.getElem?_toArray, List.getElem?_cons_zero, List.getElem?_cons_succ] <;> rfl) (by rfl) ?_
      refine opwp_value (v := .agg #[(.slice pb3 B.length cb3), (.slice pb5 U.length cb5)]) (w' := wb5) (by simp [execOp, go_sem, Act.eval]) ⟨.inl (by kernel_rfl), ?_⟩
      simp only [Act.put, List.setIfInBounds_toArray, List.set_cons_zero, List.set_cons_succ]
      obtain ⟨z0, z1, z2, z3⟩ := tQb6.cells
      refine wpAnyL_one (i := 8) (by kernel_rfl) (by simp only [List.getElem?_toArray, List.getElem?_cons_zero, List.getElem?_cons_succ] <;> rfl) (by rfl) ?_
      refine opwp_skip (w' := ((wb5.setCell ⟨w1.heap.size, 0, none⟩ (.slice pb3 B.length cb3)).setCell ⟨w1.heap.size, 1, none⟩ (.slice pb5 U.length cb5))) (by simp [execOp, go_sem, Act.eval, z0, z1, z2, z3]) ⟨.inl (by kernel_rfl), ?_⟩
      simp only [Act.put]
      refine wpAnyL_done (by kernel_rfl) ?_ _
      have hfin := hid (CutM.of HN.out tAb6 tRb6 tQb6 tSb6 tIb5 tBb6 tLb1)
      go_wp2_with fail
      go_meet
      exact ⟨_, _, _, rfl, hfin.out⟩
  case rest =>
    obtain ⟨q, vB, vU, rfl, hcm⟩ := hcut
    obtain ⟨d0, d1, _, _⟩ := hcm.out.qv.cells
    obtain ⟨a0, a1, _, _⟩ := hcm.out.av.cells
    have HBW := hid (below_c px py B.length cx cy U wc (HY.out _ hcm.out.low) (by omega) (by omega))
    go_wp2_with fail
    refine HBW.out.mono ?_
    rintro e w3 ⟨⟨vd, vr, rfl⟩, hb3⟩
    have hqn := hcm.out.qn
    have C3av := hcm.out.av.below hb3 hcm.out.av.lt
    have C3rv := hcm.out.rv.below hb3 hcm.out.rv.lt
    have C3qv := hcm.out.qv.below hb3 hcm.out.qv.lt
    have C3own := OwnSets.below hcm.out.own hb3
    have C3ownU := OwnInts.below hcm.out.ownU hb3
    have C3low := hcm.out.low.trans (hb3.mono hcm.out.low.size)
    obtain ⟨pB, cB, eB, _⟩ := OwnSets.sets C3own
    obtain ⟨pU, cU, eU, _⟩ := OwnInts.ints C3ownU
    subst eB; subst eU
    clear d0 d1 a0 a1 HBW hcm hb3
    cases hf : formedB B.length U
    · have HF := hid hf
      obtain ⟨d0, d1, _, _⟩ := C3qv.cells
      obtain ⟨e0, e1, f0, f1⟩ := C3rv.cells
      have R3 := hid C3rv
      have L3 := hid C3low
      have O3 := hid C3own
      have U3 := hid C3ownU
      clear hf C3av C3rv C3qv C3own C3ownU C3low
      go_wp2_with fail
      have o1 := (O3.out.kept (grownBy_01 _ (n + 1) (.slice pB B.length cB) (.slice pU U.length cU)) (own_far O3.out (by intro k e; cases e; omega)))
      have o2 := (U3.out.kept (grownBy_01 _ (n + 1) (.slice pB B.length cB) (.slice pU U.length cU)) (own_far U3.out (by intro k e; cases e; omega)))
      have hn := HN.out
      exact bodyPost_ret (results_box rfl rfl (R3.out.set01 _ _)) rfl ⟨_, _, B, U, rfl, o1.mono (by omega), o2.mono (by omega), below_01 L3.out (by omega) _ _, .inl ⟨HF.out, rfl, rfl⟩⟩
    · have HF := hid hf
      have hfm := formedB_iff.1 hf
      have hlen := hfm.len
      have hmk := fun w' => make_bools w' U.length (by omega) (U.length : Int) (U.length : Int) rfl rfl
      obtain ⟨d0, d1, _, _⟩ := C3qv.cells
      have hsz3 : n + 2 ≤ w3.heap.size := by have := C3qv.lt; omega
      have hal : Below w3.heap.size w3 (w3.alloc (.cells (madeCells #[.bool false] U.length) 4)) := (Below.refl _ w3).alloc (Nat.le_refl _) _
      obtain ⟨gB, gU, hpos⟩ : ∃ gB gU, 0 < B.length → pB = some ⟨gB, 0, none⟩ ∧ pU = some ⟨gU, 0, none⟩ ∧ SetRow w3 gB B ∧ IntRow w3 gU U ∧ gB ≠ gU ∧ gB ≠ w3.heap.size ∧ gU ≠ w3.heap.size ∧ q ≠ gU ∧ n + 2 ≤ gU := by
        by_cases h0 : 0 < B.length
        · obtain ⟨gB, c1, e1, h1, r1⟩ := OwnSets.row C3own h0
          obtain ⟨gU, c2, e2, h2, r2⟩ := OwnInts.row C3ownU (by omega)
          injection e1 with e1 _ _
          injection e2 with e2 _ _
          have hap := own_apart C3own C3ownU (by decide)
          have hqu := own_ne_box C3ownU C3qv (by decide)
          refine ⟨gB, gU, fun _ => ⟨e1, e2, r1, r2, ?_, by have := r1.lt; omega, by have := r2.lt; omega, ?_, h2⟩⟩
          · intro e
            subst e1; subst e2; subst e
            rcases hap with h | h
            · cases h
            · exact h rfl
          · intro e
            subst e2; subst e
            exact hqu rfl
        · exact ⟨0, 0, fun h => absurd h h0⟩
      have hm0 : MgMem w (w3.alloc (.cells (madeCells #[.bool false] U.length) 4)) n q gB gU w3.heap.size pB pU cB cU B U (List.replicate U.length false) := by
        refine ⟨HN.out, C3rv.alloc _, ?_, (OwnSets.sets C3own).below hal, ?_, hlen, by simp [hlen], fun h => ?_, WetRow.made w3 U.length, ⟨hqn, hsz3, by have := C3qv.lt; omega⟩, C3low.alloc C3low.size _⟩
        · have := C3qv.alloc (.cells (madeCells #[.bool false] U.length) 4)
          rw [hlen] at this ⊢; exact this
        · have := (OwnInts.ints C3ownU).below hal
          rw [hlen] at this ⊢; exact this
        · obtain ⟨x1, x2, x3, x4, x5⟩ := hpos h
          exact ⟨x1, x2, x3.alloc _, x4.alloc _, x5⟩
      have HM0 := hid hm0
      have HST0 := hid (show MergeSt B U U (List.replicate U.length false) 0 B U (List.range B.length) 0 from by rw [hlen]; exact MergeSt.start hfm)
      have HLEN := hid hlen
      clear hf hfm hpos hm0 hal hlen C3av C3rv C3qv C3own C3ownU C3low
      go_wp2_with fail
      clear d0 d1 hmk
      generalize w3.alloc (.cells (madeCells #[.bool false] U.length) 4) = w4 at *
      have hgG := HM0.out.far.2.1
      generalize w3.heap.size = gG at *
      rw [HLEN.out] at HM0 HST0
      rw [HLEN.out]
      go_loopg [8] (B.length * 2000 + B.length) (fun m z wr => ∃ (i p : Nat) (U1 : List Int) (G : List Bool) (B' : List VS) (U' : List Int) (σ : List Nat), i ≤ B.length ∧ z = .int .i64 i ∧ Hid (m = σ.length * 2000 + (B.length - i)) ∧ Hid (MergeSt B U U1 G i B' U' σ p) ∧ Hid (MgMem w wr n q gB gU gG pB pU cB cU B U1 G))
      case atStart => exact ⟨0, 0, _, _, _, _, _, Nat.zero_le _, rfl, by show _ = _; simp, HST0.out, HM0.out⟩
      case round =>
        clear HM0 HST0
        obtain ⟨i, p, U1, G, B', U', σ, hi, rfl, hmz, hst, hm⟩ := hrel
        obtain ⟨d0, d1, _, _⟩ := hm.out.qv.cells
        by_cases hil : i < B.length
        · obtain ⟨x1, x2, x3, x4, x5⟩ := hm.out.pos (by omega)
          subst x1; subst x2
          have hiu : i < U1.length := by rw [hm.out.len]; exact hil
          obtain ⟨c1, _⟩ := x4.at i hiu
          rw [← upF_nat U1 i hiu] at c1
          obtain ⟨g1, _⟩ := hm.out.wet.at i (by rw [hm.out.glen]; exact hil)
          have zi : (0 : Int) ≤ (i : Int) ∧ (i : Int) < (B.length : Int) := by omega
          clear hiu x3 x4 x5
          cases hwk : wet G i
          · have HWK := hid hwk
            rw [hwk] at g1
            by_cases hneg : upF U1 (i : Int) < 0
            · have HS := hid (hst.out.root hil hwk hneg)
              have zn : ¬ 0 ≤ upF U1 (i : Int) := by omega
              generalize upF U1 (i : Int) = u at *
              clear hwk
              go_wp2_with fail
              go_roundg (σ.length * 2000 + (B.length - (i + 1)))
              case measure => have := hmz.out; omega
              case rel => exact ⟨i + 1, p + 1, U1, G, B', U', σ, by omega, by go_num, rfl, HS.out, hm.out⟩
            · obtain ⟨h1, h2, qq, hq, e1, e2, hql, b1, b2⟩ := hst.out.upAt hil hwk (by omega)
              obtain ⟨j, hj⟩ : ∃ j, j = ge σ qq := ⟨_, rfl⟩
              rw [← hj] at e2 hql b2
              have HE2 := hid e2
              rw [e2] at c1
              obtain ⟨x1, x2, x3, x4, e5, e6, e7, e8, e9⟩ := hm.out.pos (by omega)
              have hq1 : Box2 wr q 25 (.slice (some ⟨gB, 0, none⟩) B.length cB) (.slice (some ⟨gU, 0, none⟩) U1.length cU) := by rw [hm.out.len]; exact hm.out.qv
              have hjc := join_c q gU gG i j (some ⟨gB, 0, none⟩) cB cU B U1 G wr hq1 hm.out.sets x4 hm.out.wet e8 hm.out.far.2.2 e7 hm.out.len hm.out.glen hl hil hql
              rw [hm.out.glen] at hjc
              have HJC := hid hjc
              have zj : (0 : Int) ≤ (j : Int) := by omega
              clear hwk h1 h2 hq e1 e2 b1 b2 hj hneg x1 x2 x3 x4 e5 e6 e7 e8 e9 hq1 hjc
              go_wp2_with fail
              refine HJC.out.mono ?_
              rintro e w5 ⟨r, rfl, hjm, hcase⟩
              rcases hcase with ⟨rfl, n1, n2, hu2, hg2⟩ | ⟨rfl, n1, hu2, hg2⟩ | ⟨rfl, n1, n2, hu2, hg2⟩
              · have HS := hid (hst.out.next hil HWK.out HE2.out n1 n2)
                have HM2 := hid (hm.out.join (by omega) hjm hu2 hg2 hm.out.len hm.out.glen)
                clear n1 n2 hu2 hg2 hjm HJC
                go_wp2_with fail
                go_roundg (σ.length * 2000 + (B.length - (i + 1)))
                case measure => have := hmz.out; omega
                case rel => exact ⟨i + 1, p + 1, U1, G, B', U', σ, by omega, by go_num, rfl, HS.out, HM2.out⟩
              · obtain ⟨qx, hs2, hp2⟩ := hst.out.low hil HWK.out HE2.out n1
                have HS := hid hs2
                have HM2 := hid (hm.out.join (by omega) hjm hu2 hg2 (by rw [dropU_length]; exact hm.out.len) (by rw [List.length_set]; exact hm.out.glen))
                have HLE := hid (show (σ.eraseIdx p).length + 1 = σ.length from by rw [List.length_eraseIdx, if_pos hp2]; omega)
                clear n1 hu2 hg2 hjm HJC hs2 hp2
                go_wp2_with fail
                go_roundg ((σ.eraseIdx p).length * 2000 + (B.length - 0))
                case measure => have := hmz.out; have := HLE.out; omega
                case rel => exact ⟨0, 0, _, _, _, _, _, by omega, rfl, rfl, HS.out, HM2.out⟩
              · obtain ⟨qx, hs2, hp2⟩ := hst.out.high hil HWK.out HE2.out n1 n2
                have HS := hid hs2
                have HM2 := hid (hm.out.join (by omega) hjm hu2 hg2 (by rw [dropU_length, List.length_set]; exact hm.out.len) (by rw [List.length_set]; exact hm.out.glen))
                have HLE := hid (show (σ.eraseIdx qx).length + 1 = σ.length from by rw [List.length_eraseIdx, if_pos hp2]; omega)
                clear n1 n2 hu2 hg2 hjm HJC hs2 hp2
                go_wp2_with fail
                go_roundg ((σ.eraseIdx qx).length * 2000 + (B.length - 0))
                case measure => have := hmz.out; have := HLE.out; omega
                case rel => exact ⟨0, 0, _, _, _, _, _, by omega, rfl, rfl, HS.out, HM2.out⟩
          · have HS := hid (hst.out.gone hil hwk)
            rw [hwk] at g1
            generalize upF U1 (i : Int) = u at *
            clear hwk
            go_wp2_with fail
            go_roundg (σ.length * 2000 + (B.length - (i + 1)))
            case measure => have := hmz.out; omega
            case rel => exact ⟨i + 1, p, U1, G, B', U', σ, by omega, by go_num, rfl, HS.out, hm.out⟩
        · obtain rfl : i = B.length := by omega
          have HRUN := hid hst.out.done
          have hq1 : Box2 wr q 25 (.slice pB B.length cB) (.slice pU U1.length cU) := by rw [hm.out.len]; exact hm.out.qv
          have hy1 : IntsAt wr (.slice pU U1.length cU) U1 := by rw [hm.out.len]; exact hm.out.ints
          have hwo := without_c q gG pB pU cB cU B B' U1 U' G σ wr hq1 hm.out.sets hy1 hm.out.wet hst.out.sim hst.out.kept hm.out.len hl
          rw [hm.out.glen] at hwo
          have HWO := hid hwo
          clear hq1 hy1 hwo
          go_wp2_with fail
          refine HWO.out.mono ?_
          rintro e w5 ⟨vB', vU', rfl, o1, o2, hb5⟩
          have hn := HN.out
          have hrl := hm.out.rv.lt
          have RV := hid (hm.out.rv.below hb5 hm.out.rv.lt)
          have LO := hid (hm.out.low.trans (hb5.mono hm.out.low.size))
          have hls := hm.out.low.size
          obtain ⟨qB, dB, eB, _⟩ := o1.sets
          obtain ⟨qU, dU, eU, _⟩ := o2.ints
          subst eB; subst eU
          obtain ⟨e0, e1, f0, f1⟩ := RV.out.cells
          have O1 := hid o1
          have O2 := hid o2
          clear o1 o2 HWO hb5
          go_wp2_with fail
          have p1 := (O1.out.kept (grownBy_01 _ (n + 1) (.slice qB B'.length dB) (.slice qU U'.length dU)) (own_far O1.out (by intro k e; cases e; omega)))
          have p2 := (O2.out.kept (grownBy_01 _ (n + 1) (.slice qB B'.length dB) (.slice qU U'.length dU)) (own_far O2.out (by intro k e; cases e; omega)))
          exact bodyPost_ret (results_box rfl rfl (RV.out.set01 _ _)) rfl ⟨_, _, B', U', rfl, p1.mono (by omega), p2.mono (by omega), below_01 LO.out (by omega) _ _, .inr ⟨HF.out, HRUN.out⟩⟩
end Go.Proofs.YtmlecpapoeodkaaDoor
