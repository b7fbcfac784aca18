/- Plain mathematics: trees whose bags are merged. No program in sight. -/
import Derived.Test.YtmlecpapoeodkaaDoorWDec
namespace Go.Proofs.YtmlecpapoeodkaaDoor

def ge (σ : List Nat) (p : Nat) : Nat := σ.getD p 0
/-- The tree (B', U') is what of (B, U) is at the places σ. -/
structure Sim (B : List VS) (U : List Int) (B' : List VS) (U' : List Int) (σ : List Nat) : Prop where
  lenB : B'.length = σ.length
  lenU : U'.length = σ.length
  asc : ∀ p q, p < q → q < σ.length → ge σ p < ge σ q
  lt : ∀ p, p < σ.length → ge σ p < B.length
  bag : ∀ p, p < σ.length → gOf B' (p : Int) = gOf B (ge σ p : Int)
  up : ∀ p, p < σ.length → (upF U' (p : Int) = -1 ∧ upF U (ge σ p : Int) = -1) ∨ ∃ q, q < σ.length ∧ upF U' (p : Int) = (q : Int) ∧ upF U (ge σ p : Int) = (ge σ q : Int)
theorem Sim.inj {B B' : List VS} {U U' : List Int} {σ : List Nat} (h : Sim B U B' U' σ) {p q : Nat} (hp : p < σ.length) (hq : q < σ.length) (e : ge σ p = ge σ q) : p = q := by
  rcases Nat.lt_trichotomy p q with h1 | h1 | h1
  · have := h.asc p q h1 hq; omega
  · exact h1
  · have := h.asc q p h1 hp; omega
/-- Two trees at the same places are the same. -/
theorem Sim.same {B B1 B2 : List VS} {U U1 U2 : List Int} {σ : List Nat} (h1 : Sim B U B1 U1 σ) (h2 : Sim B U B2 U2 σ) : B1 = B2 ∧ U1 = U2 := by
  refine ⟨List.ext_getElem (by rw [h1.lenB, h2.lenB]) fun i a b => ?_, List.ext_getElem (by rw [h1.lenU, h2.lenU]) fun i a b => ?_⟩
  · rw [← gOf_nat B1 i a, ← gOf_nat B2 i b, h1.bag i (by rw [← h1.lenB]; exact a), h2.bag i (by rw [← h1.lenB]; exact a)]
  · have hi : i < σ.length := by rw [← h1.lenU]; exact a
    rw [← upF_nat U1 i a, ← upF_nat U2 i b]
    rcases h1.up i hi with ⟨e1, e2⟩ | ⟨q, hq, e1, e2⟩ <;> rcases h2.up i hi with ⟨e3, e4⟩ | ⟨q', hq', e3, e4⟩
    · omega
    · omega
    · omega
    · rw [e1, e3]
      have := h1.inj hq hq' (by omega)
      omega
theorem ge_erase (σ : List Nat) (i p : Nat) : ge (σ.eraseIdx i) p = if p < i then ge σ p else ge σ (p + 1) := by
  unfold ge
  rw [List.getD_eq_getElem?_getD, List.getElem?_eraseIdx]
  split <;> rw [List.getD_eq_getElem?_getD]
theorem gOf_erase (B : List VS) (i p : Nat) : gOf (B.eraseIdx i) (p : Int) = if p < i then gOf B (p : Int) else gOf B ((p + 1 : Nat) : Int) := by
  have e : ∀ (X : List VS) (k : Nat), gOf X (k : Int) = X[k]?.getD (0) := fun X k => by unfold gOf; rw [if_pos (by omega), Int.toNat_natCast, List.getD_eq_getElem?_getD]
  rw [e, e, e, List.getElem?_eraseIdx]
  split <;> rfl
theorem upF_erase (U : List Int) (i p : Nat) : upF (U.eraseIdx i) (p : Int) = if p < i then upF U (p : Int) else upF U ((p + 1 : Nat) : Int) := by
  have e : ∀ (X : List Int) (k : Nat), upF X (k : Int) = X[k]?.getD (-1) := fun X k => by unfold upF; rw [if_pos (by omega), Int.toNat_natCast, List.getD_eq_getElem?_getD]
  rw [e, e, e, List.getElem?_eraseIdx]
  split <;> rfl
/-- The new index above k, when i goes and its neighbours become neighbours of t: first by the old numbers, then by the new ones. -/
def upOld (U : List Int) (i t : Int) (k : Int) : Int := if upF U k = i then (if k = t then upF U i else t) else upF U k
def down1 (i x : Int) : Int := if i < x then x - 1 else x
def remB (B : List VS) (i : Int) : List VS := B.eraseIdx i.toNat
def remU (U : List Int) (i t : Int) : List Int := (((List.range U.length).map fun k : Nat => down1 i (upOld U i t (k : Int)))).eraseIdx i.toNat
theorem remB_length {B : List VS} {i : Nat} (h : i < B.length) : (remB B (i : Int)).length + 1 = B.length := by
  unfold remB
  rw [Int.toNat_natCast, List.length_eraseIdx, if_pos h]; omega
theorem remU_length {U : List Int} {i : Nat} {t : Int} (h : i < U.length) : (remU U (i : Int) t).length + 1 = U.length := by
  unfold remU
  rw [Int.toNat_natCast, List.length_eraseIdx]
  simp only [List.length_map, List.length_range]
  rw [if_pos h]; omega
theorem upF_map (f : Nat → Int) (n p : Nat) (h : p < n) : upF ((List.range n).map f) (p : Int) = f p := by
  rw [upF_nat _ p (by simpa using h)]; simp
theorem upF_remU {U : List Int} {i : Nat} {t : Int} (_h : i < U.length) (p : Nat) (hp : p + 1 < U.length) : upF (remU U (i : Int) t) (p : Int) = down1 (i : Int) (upOld U (i : Int) t ((if p < i then p else p + 1 : Nat) : Int)) := by
  unfold remU
  rw [Int.toNat_natCast, upF_erase]
  split
  · rw [upF_map _ _ _ (by omega)]
  · rw [upF_map _ _ _ hp]
theorem gOf_remB {B : List VS} {i : Nat} (p : Nat) : gOf (remB B (i : Int)) (p : Int) = gOf B ((if p < i then p else p + 1 : Nat) : Int) := by
  unfold remB
  rw [Int.toNat_natCast, gOf_erase]
  split <;> rfl
/-- The run of merging from the place i on. -/
inductive MRun : List VS → List Int → Nat → List VS → List Int → Prop
  | done {B : List VS} {U : List Int} {i : Nat} (h : B.length ≤ i) : MRun B U i B U
  | low {B B' : List VS} {U U' : List Int} {i : Nat} (h : i < B.length) (hu : 0 ≤ upF U (i : Int)) (hs : sub (gOf B (i : Int)) (gOf B (upF U (i : Int))) = true)
      (hr : MRun (remB B (i : Int)) (remU U (i : Int) (upF U (i : Int))) 0 B' U') : MRun B U i B' U'
  | high {B B' : List VS} {U U' : List Int} {i : Nat} (h : i < B.length) (hu : 0 ≤ upF U (i : Int)) (hn : sub (gOf B (i : Int)) (gOf B (upF U (i : Int))) = false) (hs : sub (gOf B (upF U (i : Int))) (gOf B (i : Int)) = true)
      (hr : MRun (remB B (upF U (i : Int))) (remU U (upF U (i : Int)) (i : Int)) 0 B' U') : MRun B U i B' U'
  | next {B B' : List VS} {U U' : List Int} {i : Nat} (h : i < B.length) (hn : upF U (i : Int) < 0 ∨ (sub (gOf B (i : Int)) (gOf B (upF U (i : Int))) = false ∧ sub (gOf B (upF U (i : Int))) (gOf B (i : Int)) = false))
      (hr : MRun B U (i + 1) B' U') : MRun B U i B' U'
theorem MRun.det {B B1 B2 : List VS} {U U1 U2 : List Int} {i : Nat} (h1 : MRun B U i B1 U1) (h2 : MRun B U i B2 U2) : B1 = B2 ∧ U1 = U2 := by
  induction h1 with
  | done h => cases h2 <;> first | exact ⟨rfl, rfl⟩ | omega
  | low h hu hs _ ih =>
    cases h2 with
    | done _ => omega
    | low _ _ _ hr => exact ih hr
    | high _ _ hn _ _ => rw [hs] at hn; cases hn
    | next _ hn _ => rcases hn with hn | ⟨hn, _⟩; omega; rw [hs] at hn; cases hn
  | high h hu hn hs _ ih =>
    cases h2 with
    | done _ => omega
    | low _ _ hs' _ => rw [hs'] at hn; cases hn
    | high _ _ _ _ hr => exact ih hr
    | next _ hn' _ => rcases hn' with hn' | ⟨_, hn'⟩; omega; rw [hs] at hn'; cases hn'
  | next h hn _ ih =>
    cases h2 with
    | done _ => omega
    | low _ _ hs _ => rcases hn with hn | ⟨hn, _⟩; omega; rw [hs] at hn; cases hn
    | high _ _ _ hs _ => rcases hn with hn | ⟨_, hn⟩; omega; rw [hs] at hn; cases hn
    | next _ _ hr => exact ih hr
/-- What goes, and what it goes into: neighbours, the one a part of the other. -/
structure Goes (B : List VS) (U : List Int) (i t : Nat) : Prop where
  hi : i < B.length
  ht : t < B.length
  nb : upF U (i : Int) = (t : Int) ∨ upF U (t : Int) = (i : Int)
  part : ∀ v, has (gOf B (i : Int)) v = true → has (gOf B (t : Int)) v = true
/-- The old place of a new one. -/
def old (i p : Nat) : Nat := if p < i then p else p + 1
def new (i p : Nat) : Nat := if i < p then p - 1 else p
theorem old_new {i p : Nat} (h : p ≠ i) : old i (new i p) = p := by unfold old new; split <;> split <;> omega
theorem old_ne (i p : Nat) : old i p ≠ i := by unfold old; split <;> omega
theorem old_inj {i p q : Nat} (h : old i p = old i q) : p = q := by unfold old at h; split at h <;> split at h <;> omega
section
variable {B : List VS} {U : List Int} {i t : Nat} (hf : Formed B.length U) (hg : Goes B U i t)
include hf hg
theorem goes_ne : i ≠ t := by
  obtain ⟨f, hh⟩ := hf.rank
  have hi := hg.hi
  have ht := hg.ht
  intro e
  subst e
  rcases hg.nb with e | e <;>
  · have := hh (i : Int) (by omega) (by omega) (by omega)
    rw [e] at this; omega
/-- The rank behind the merge, by the old numbers. -/
theorem rank_goes : ∃ h : Int → Nat, ∀ k : Int, 0 ≤ k → k < (B.length : Int) → k ≠ (i : Int) → 0 ≤ upOld U (i : Int) (t : Int) k → upOld U (i : Int) (t : Int) k ≠ (i : Int) ∧ upOld U (i : Int) (t : Int) k < (B.length : Int) ∧ h (upOld U (i : Int) (t : Int) k) < h k := by
  obtain ⟨f, hh⟩ := hf.rank
  have hne := goes_ne hf hg
  have hi := hg.hi
  have ht := hg.ht
  have hr := hf.range
  rcases hg.nb with e | e
  · -- i below t
    refine ⟨f, fun k h0 h1 hki hu => ?_⟩
    unfold upOld at hu ⊢
    have h3 := hh (i : Int) (by omega) (by omega) (by omega)
    rw [e] at h3
    by_cases hk : upF U k = (i : Int)
    · have h2 := hh k h0 h1 (by omega)
      rw [hk] at h2
      rw [if_pos hk] at hu ⊢
      by_cases hkt : k = (t : Int)
      · subst hkt; omega
      · rw [if_neg hkt] at hu ⊢
        exact ⟨by omega, by omega, by omega⟩
    · rw [if_neg hk] at hu ⊢
      exact ⟨hk, (hr k h0 h1).2, hh k h0 h1 hu⟩
  · -- t below i
    refine ⟨fun x => if x = (t : Int) then f (i : Int) else f x, fun k h0 h1 hki hu => ?_⟩
    have h3 := hh (t : Int) (by omega) (by omega) (by omega)
    rw [e] at h3
    have hii : upF U (i : Int) ≠ (i : Int) := fun e' => by
      have := hh (i : Int) (by omega) (by omega) (by omega)
      rw [e'] at this; omega
    have hit : upF U (i : Int) ≠ (t : Int) := fun e' => by
      have := hh (i : Int) (by omega) (by omega) (by omega)
      rw [e'] at this; omega
    unfold upOld at hu ⊢
    by_cases hk : upF U k = (i : Int)
    · have h2 := hh k h0 h1 (by omega)
      rw [hk] at h2
      rw [if_pos hk] at hu ⊢
      by_cases hkt : k = (t : Int)
      · subst hkt
        rw [if_pos rfl] at hu ⊢
        refine ⟨hii, (hr _ (by omega) (by omega)).2, ?_⟩
        show (if upF U (i : Int) = (t : Int) then f (i : Int) else f (upF U (i : Int))) < (if (t : Int) = (t : Int) then f (i : Int) else f (t : Int))
        rw [if_neg hit, if_pos rfl]
        exact hh (i : Int) (by omega) (by omega) hu
      · rw [if_neg hkt] at hu ⊢
        refine ⟨by omega, by omega, ?_⟩
        show (if (t : Int) = (t : Int) then f (i : Int) else f (t : Int)) < (if k = (t : Int) then f (i : Int) else f k)
        rw [if_pos rfl, if_neg hkt]; exact h2
    · rw [if_neg hk] at hu ⊢
      refine ⟨hk, (hr k h0 h1).2, ?_⟩
      have h2 := hh k h0 h1 hu
      have hkt : k ≠ (t : Int) := fun e' => hk (e' ▸ e)
      show (if upF U k = (t : Int) then f (i : Int) else f (upF U k)) < (if k = (t : Int) then f (i : Int) else f k)
      rw [if_neg hkt]
      split
      · rename_i e'
        rw [e'] at h2; omega
      · exact h2
theorem upOld_range {k : Int} (h0 : 0 ≤ k) (h1 : k < (B.length : Int)) (hk : k ≠ (i : Int)) : upOld U (i : Int) (t : Int) k = -1 ∨ ∃ q : Nat, q ≠ i ∧ q < B.length ∧ upOld U (i : Int) (t : Int) k = (q : Int) := by
  obtain ⟨h, hh⟩ := rank_goes hf hg
  have hi := hg.hi
  have ht := hg.ht
  by_cases hu : 0 ≤ upOld U (i : Int) (t : Int) k
  · obtain ⟨a, b, _⟩ := hh k h0 h1 hk hu
    exact .inr ⟨(upOld U (i : Int) (t : Int) k).toNat, by omega, by omega, by omega⟩
  · left
    unfold upOld at hu ⊢
    have h2 := hf.range k h0 h1
    have h3 := hf.range (i : Int) (by omega) (by omega)
    split
    · rename_i e1
      rw [if_pos e1] at hu
      split
      · rename_i e2; rw [if_pos e2] at hu; omega
      · rename_i e2; rw [if_neg e2] at hu; omega
    · rename_i e1
      rw [if_neg e1] at hu
      omega
theorem rem_at {p : Nat} (hp : p + 1 < B.length) : gOf (remB B (i : Int)) (p : Int) = gOf B (old i p : Int) ∧
    ((upF (remU U (i : Int) (t : Int)) (p : Int) = -1 ∧ upOld U (i : Int) (t : Int) (old i p : Int) = -1) ∨ ∃ q : Nat, q + 1 < B.length ∧ upF (remU U (i : Int) (t : Int)) (p : Int) = (q : Int) ∧ upOld U (i : Int) (t : Int) (old i p : Int) = (old i q : Int)) := by
  have hi := hg.hi
  have hle := hf.len
  have ho : old i p < B.length := by unfold old; split <;> omega
  refine ⟨gOf_remB p, ?_⟩
  rw [upF_remU (by omega) p (by omega)]
  show (down1 (i : Int) (upOld U (i : Int) (t : Int) (old i p : Int)) = -1 ∧ _) ∨ _
  rcases upOld_range hf hg (k := (old i p : Int)) (by omega) (by omega) (by have := old_ne i p; omega) with e | ⟨q, hq, hql, e⟩
  · left
    refine ⟨?_, e⟩
    show down1 (i : Int) (upOld U (i : Int) (t : Int) (old i p : Int)) = -1
    rw [e]; unfold down1; rw [if_neg (by omega)]
  · right
    refine ⟨new i q, by unfold new; split <;> omega, ?_, ?_⟩
    · show down1 (i : Int) (upOld U (i : Int) (t : Int) (old i p : Int)) = _
      rw [e]; unfold down1 new; split <;> split <;> omega
    · rw [e, old_new hq]
theorem formed_rem : Formed (remB B (i : Int)).length (remU U (i : Int) (t : Int)) := by
  obtain ⟨h, hh⟩ := rank_goes hf hg
  have hi := hg.hi
  have ht := hg.ht
  have hne := goes_ne hf hg
  have hlb := remB_length hi
  have hlu := remU_length (U := U) (t := (t : Int)) (i := i) (by rw [hf.len]; exact hi)
  have hle := hf.le
  have hlen := hf.len
  have nat : ∀ k : Int, 0 ≤ k → k < ((remB B (i : Int)).length : Int) → ∃ p : Nat, k = (p : Int) ∧ p + 1 < B.length := fun k h0 h1 => ⟨k.toNat, by omega, by omega⟩
  have oldlt : ∀ p, p + 1 < B.length → old i p < B.length := fun p hp => by unfold old; split <;> omega
  -- a root behind is a root ahead, or t when i was the root
  have rootOld : ∀ p, p + 1 < B.length → upOld U (i : Int) (t : Int) (old i p : Int) = -1 → upF U (old i p : Int) = -1 ∨ (old i p = t ∧ upF U (t : Int) = (i : Int) ∧ upF U (i : Int) = -1) := fun p hp e => by
    unfold upOld at e
    split at e
    · rename_i e1
      split at e
      · rename_i e2
        right
        rw [e2] at e1
        exact ⟨by omega, e1, e⟩
      · omega
    · exact .inl e
  refine ⟨by omega, by omega, fun k h0 h1 => ?_, fun a b h0 h1 h2 h3 h4 h5 => ?_, fun _ => ?_, ⟨fun k => h (old i k.toNat : Int), fun k h0 h1 hu => ?_⟩⟩
  · obtain ⟨p, rfl, hp⟩ := nat k h0 h1
    rcases (rem_at hf hg hp).2 with ⟨e, _⟩ | ⟨q, hq, e, _⟩ <;> omega
  · obtain ⟨p, rfl, hp⟩ := nat a h0 h1
    obtain ⟨q, rfl, hq⟩ := nat b h2 h3
    have e1 : upOld U (i : Int) (t : Int) (old i p : Int) = -1 := by rcases (rem_at hf hg hp).2 with ⟨_, e⟩ | ⟨_, _, e, _⟩; exact e; omega
    have e2 : upOld U (i : Int) (t : Int) (old i q : Int) = -1 := by rcases (rem_at hf hg hq).2 with ⟨_, e⟩ | ⟨_, _, e, _⟩; exact e; omega
    have l1 := oldlt p hp
    have l2 := oldlt q hq
    have key : old i p = old i q := by
      rcases rootOld p hp e1 with r1 | ⟨a1, a2, a3⟩ <;> rcases rootOld q hq e2 with r2 | ⟨b1, b2, b3⟩
      · have := hf.one _ _ (by omega) (by omega) (by omega) (by omega) r1 r2; omega
      · have := hf.one (old i p : Int) (i : Int) (by omega) (by omega) (by omega) (by omega) r1 b3
        have := old_ne i p; omega
      · have := hf.one (old i q : Int) (i : Int) (by omega) (by omega) (by omega) (by omega) r2 a3
        have := old_ne i q; omega
      · omega
    have := old_inj key
    omega
  · obtain ⟨r, hr0, hr1, hr2⟩ := hf.root (by omega)
    obtain ⟨rn, rfl⟩ : ∃ rn : Nat, r = (rn : Int) := ⟨r.toNat, by omega⟩
    by_cases hri : rn = i
    · -- i was the root: then t was below it
      subst hri
      have hti : upF U (t : Int) = (rn : Int) := by rcases hg.nb with e | e <;> omega
      have e1 : upOld U (rn : Int) (t : Int) (old rn (new rn t) : Int) = -1 := by
        rw [old_new hne.symm]; unfold upOld; rw [if_pos hti, if_pos rfl]; exact hr2
      have hp : new rn t + 1 < B.length := by unfold new; split <;> omega
      refine ⟨(new rn t : Int), by omega, by omega, ?_⟩
      rcases (rem_at hf hg hp).2 with ⟨e, _⟩ | ⟨_, _, _, e⟩
      · exact e
      · omega
    · have e1 : upOld U (i : Int) (t : Int) (old i (new i rn) : Int) = -1 := by
        rw [old_new hri]; unfold upOld; rw [if_neg (by omega)]; exact hr2
      have hp : new i rn + 1 < B.length := by unfold new; split <;> omega
      refine ⟨(new i rn : Int), by omega, by omega, ?_⟩
      rcases (rem_at hf hg hp).2 with ⟨e, _⟩ | ⟨_, _, _, e⟩
      · exact e
      · omega
  · obtain ⟨p, rfl, hp⟩ := nat k h0 h1
    rcases (rem_at hf hg hp).2 with ⟨e, _⟩ | ⟨q, hq, e, e2⟩
    · omega
    · have l1 := oldlt p hp
      obtain ⟨_, _, h3⟩ := hh (old i p : Int) (by omega) (by omega) (by have := old_ne i p; omega) (by omega)
      rw [e2] at h3
      rw [e]
      simpa using h3
theorem above_rem {p : Nat} (hp : p + 1 < B.length) : aboveB (remB B (i : Int)) (remU U (i : Int) (t : Int)) (p : Int) = if 0 ≤ upOld U (i : Int) (t : Int) (old i p : Int) then gOf B (upOld U (i : Int) (t : Int) (old i p : Int)) else 0 := by
  unfold aboveB
  rcases (rem_at hf hg hp).2 with ⟨e, e2⟩ | ⟨q, hq, e, e2⟩
  · rw [if_neg (by omega), if_neg (by omega)]
  · rw [if_pos (by omega), if_pos (by omega), e, e2]; exact (rem_at hf hg hq).1
/-- A top behind was one ahead, or i was one. -/
theorem top_rem {p : Nat} (hp : p + 1 < B.length) {v : Int} (h : Top (remB B (i : Int)) (remU U (i : Int) (t : Int)) v (p : Int)) : Top B U v (old i p : Int) ∨ (old i p = t ∧ Top B U v (i : Int)) := by
  obtain ⟨h1, h2⟩ := h
  rw [above_rem hf hg hp] at h2
  rw [(rem_at hf hg hp).1] at h1
  unfold upOld at h2
  by_cases e1 : upF U (old i p : Int) = (i : Int)
  · rw [if_pos e1] at h2
    by_cases e2 : (old i p : Int) = (t : Int)
    · rw [if_pos e2] at h2
      cases hi : has (gOf B (i : Int)) v
      · left
        exact ⟨h1, by unfold aboveB; rw [e1, if_pos (by omega)]; exact hi⟩
      · right
        exact ⟨by omega, hi, h2⟩
    · rw [if_neg e2, if_pos (by omega)] at h2
      left
      refine ⟨h1, ?_⟩
      unfold aboveB
      rw [e1, if_pos (by omega)]
      cases hi : has (gOf B (i : Int)) v
      · rfl
      · rw [hg.part v hi] at h2; cases h2
  · rw [if_neg e1] at h2
    exact .inl ⟨h1, h2⟩
theorem conn_rem (hc : Conn B U) : Conn (remB B (i : Int)) (remU U (i : Int) (t : Int)) := by
  have hi := hg.hi
  have hlb := remB_length hi
  intro v a b ha hb
  obtain ⟨a0, a1⟩ := bag_range ha.1
  obtain ⟨b0, b1⟩ := bag_range hb.1
  obtain ⟨p, rfl⟩ : ∃ p : Nat, a = (p : Int) := ⟨a.toNat, by omega⟩
  obtain ⟨q, rfl⟩ : ∃ q : Nat, b = (q : Int) := ⟨b.toNat, by omega⟩
  have n1 := old_ne i p
  have n2 := old_ne i q
  have key : old i p = old i q := by
    rcases top_rem hf hg (by omega) ha with x | ⟨x, y⟩ <;> rcases top_rem hf hg (by omega) hb with z | ⟨z, u⟩
    · have := hc v _ _ x z; omega
    · have := hc v _ _ x u; omega
    · have := hc v _ _ y z; omega
    · omega
  have := old_inj key
  omega
theorem tog_rem {v w : Int} (h : Tog B v w) : Tog (remB B (i : Int)) v w := by
  have hi := hg.hi
  have ht := hg.ht
  have hne := goes_ne hf hg
  obtain ⟨j, h1, h2⟩ := h
  obtain ⟨j0, j1⟩ := bag_range h1
  obtain ⟨jn, rfl⟩ : ∃ jn : Nat, j = (jn : Int) := ⟨j.toNat, by omega⟩
  have key : ∀ m, m < B.length → m ≠ i → gOf (remB B (i : Int)) (new i m : Int) = gOf B (m : Int) := fun m hm hmi => by
    rw [(rem_at hf hg (p := new i m) (by unfold new; split <;> omega)).1, old_new hmi]
  by_cases e : jn = i
  · subst e
    exact ⟨(new jn t : Int), by rw [key t ht hne.symm]; exact hg.part v h1, by rw [key t ht hne.symm]; exact hg.part w h2⟩
  · exact ⟨(new i jn : Int), by rw [key jn (by omega) e]; exact h1, by rw [key jn (by omega) e]; exact h2⟩
omit hf hg in
theorem mem_erase {B : List VS} {i : Nat} {b : VS} (h : b ∈ remB B (i : Int)) : b ∈ B := List.mem_of_mem_eraseIdx h
theorem width_rem : widthT (remB B (i : Int)) = widthT B := by
  have hi := hg.hi
  have ht := hg.ht
  have hne := goes_ne hf hg
  have hlb := remB_length hi
  have ne1 : B ≠ [] := by intro e; rw [e] at hi; simp at hi
  have ne2 : remB B (i : Int) ≠ [] := by intro e; rw [e] at hlb; simp at hlb; omega
  obtain ⟨b, hb, e1⟩ := widthT_at ne1
  obtain ⟨c, hc, e2⟩ := widthT_at ne2
  have h1 := le_widthT (mem_erase hc)
  obtain ⟨j, hj, rfl⟩ := List.getElem_of_mem hb
  have key : ∀ m, m < B.length → m ≠ i → gOf B (m : Int) ∈ remB B (i : Int) := fun m hm hmi => by
    have hn : new i m < (remB B (i : Int)).length := by unfold new; split <;> omega
    have e : gOf (remB B (i : Int)) (new i m : Int) = gOf B (m : Int) := by
      rw [(rem_at hf hg (p := new i m) (by unfold new; split <;> omega)).1, old_new hmi]
    rw [← e, gOf_nat _ _ hn]
    exact List.getElem_mem hn
  have h2 : len B[j] - 1 ≤ widthT (remB B (i : Int)) := by
    by_cases e : j = i
    · subst e
      have h3 := le_widthT (key t ht hne.symm)
      have h4 := len_mono hg.part
      rw [gOf_nat B j hj] at h4
      omega
    · have h3 := le_widthT (key j hj e)
      rw [gOf_nat B j hj] at h3
      exact h3
  omega
theorem deco_rem {L : List VS} (h : Deco L B U) : Deco L (remB B (i : Int)) (remU U (i : Int) (t : Int)) :=
  ⟨h.ok, formed_rem hf hg, fun b hb => h.inn b (mem_erase hb), fun v w h1 h2 h3 => tog_rem hf hg (h.cov v w h1 h2 h3), conn_rem hf hg h.conn⟩
end
theorem goes_low {B : List VS} {U : List Int} (hf : Formed B.length U) {i : Nat} (h : i < B.length) (hu : 0 ≤ upF U (i : Int)) (hs : sub (gOf B (i : Int)) (gOf B (upF U (i : Int))) = true) : ∃ t : Nat, upF U (i : Int) = (t : Int) ∧ Goes B U i t := by
  have := hf.range (i : Int) (by omega) (by omega)
  refine ⟨(upF U (i : Int)).toNat, by omega, ⟨h, by omega, .inl (by omega), fun v hv => ?_⟩⟩
  rw [Int.toNat_of_nonneg hu]
  exact (sub_iff _ _).1 hs v hv
theorem goes_high {B : List VS} {U : List Int} (hf : Formed B.length U) {i : Nat} (h : i < B.length) (hu : 0 ≤ upF U (i : Int)) (hs : sub (gOf B (upF U (i : Int))) (gOf B (i : Int)) = true) : ∃ t : Nat, upF U (i : Int) = (t : Int) ∧ Goes B U t i := by
  have := hf.range (i : Int) (by omega) (by omega)
  refine ⟨(upF U (i : Int)).toNat, by omega, ⟨by omega, h, .inr (by omega), fun v hv => ?_⟩⟩
  rw [Int.toNat_of_nonneg hu] at hv
  exact (sub_iff _ _).1 hs v hv
/-- No bag is a part of a neighbour, from i on downwards. -/
def Apart (B : List VS) (U : List Int) (i : Nat) : Prop := ∀ k : Nat, k < i → k < B.length → upF U (k : Int) < 0 ∨ (sub (gOf B (k : Int)) (gOf B (upF U (k : Int))) = false ∧ sub (gOf B (upF U (k : Int))) (gOf B (k : Int)) = false)
theorem MRun.good {L B B' : List VS} {U U' : List Int} {i : Nat} (h : MRun B U i B' U') : Deco L B U → Apart B U i → Deco L B' U' ∧ Apart B' U' B'.length ∧ widthT B' = widthT B ∧ B'.length ≤ B.length := by
  induction h with
  | done h => exact fun hd ha => ⟨hd, fun k h1 h2 => ha k (by omega) h2, rfl, Nat.le_refl _⟩
  | low h hu hs hr ih =>
    intro hd _
    obtain ⟨t, e, hg⟩ := goes_low hd.formed h hu hs
    rw [e] at ih
    obtain ⟨h1, h2, h3, h4⟩ := ih (deco_rem hd.formed hg hd) (fun k hk => by omega)
    refine ⟨h1, h2, h3.trans (width_rem hd.formed hg), ?_⟩
    have := remB_length h; omega
  | high h hu hn hs hr ih =>
    intro hd _
    obtain ⟨t, e, hg⟩ := goes_high hd.formed h hu hs
    rw [e] at ih
    obtain ⟨h1, h2, h3, h4⟩ := ih (deco_rem hd.formed hg hd) (fun k hk => by omega)
    refine ⟨h1, h2, h3.trans (width_rem hd.formed hg), ?_⟩
    have := remB_length hg.hi; omega
  | next h hn hr ih =>
    intro hd ha
    refine ih hd fun k hk hl => ?_
    rename_i i
    by_cases e : k = i
    · subst e; exact hn
    · exact ha k (by omega) hl
theorem MRun.stay {B : List VS} {U : List Int} (h : Apart B U B.length) (i : Nat) : MRun B U i B U := by
  generalize hm : B.length - i = m
  induction m generalizing i with
  | zero => exact .done (by omega)
  | succ m ih => exact .next (by omega) (h i (by omega) (by omega)) (ih (i + 1) (by omega))
end Go.Proofs.YtmlecpapoeodkaaDoor
