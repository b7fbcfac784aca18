/- Plain mathematics of nets: the values of nodes in sixty-four assignments at once; which nets are deterministic. No program in sight. -/
import Derived.Test.YtpdbfbjfodckgaaDoorHPlain
namespace Go.Proofs.YtpdbfbjfodckgaaDoor

theorem snoc_ind {α : Type} {P : List α → Prop} (h0 : P []) (h1 : ∀ l x, P l → P (l ++ [x])) (l : List α) : P l := by
  have : ∀ k, k ≤ l.length → P (l.take k) := by
    intro k
    induction k with
    | zero => intro _; exact h0
    | succ k ih => intro h; rw [List.take_succ_eq_append_getElem (by omega)]; exact h1 _ _ (ih (by omega))
  have h := this l.length (Nat.le_refl _)
  rwa [List.take_length] at h
abbrev WD := BitVec 64
def not64 (a : WD) : WD := ~~~ a
def wOf (M : List WD) (i : Int) : WD := if 0 ≤ i then M.getD i.toNat 0 else 0
theorem wOf_nat (M : List WD) (k : Nat) (h : k < M.length) : wOf M (k : Int) = M[k] := by
  unfold wOf; rw [if_pos (by omega), Int.toNat_natCast, List.getD_eq_getElem?_getD, List.getElem?_eq_getElem h, Option.getD_some]
theorem wOf_take (M : List WD) (k : Nat) (i : Int) (h : i < (k : Int)) : wOf (M.take k) i = wOf M i := by
  unfold wOf
  by_cases h0 : 0 ≤ i
  · rw [if_pos h0, if_pos h0, List.getD_eq_getElem?_getD, List.getD_eq_getElem?_getD, List.getElem?_take, if_pos (by omega)]
  · rw [if_neg h0, if_neg h0]
def wAnd (M : List WD) (s : WD) (l : List Int) : WD := l.foldl (fun s k => and64 s (wOf M k)) s
def wOr (M : List WD) (s : WD) (l : List Int) : WD := l.foldl (fun s k => or64 s (wOf M k)) s
theorem wAnd_snoc (M : List WD) (s : WD) (l : List Int) (x : Int) : wAnd M s (l ++ [x]) = and64 (wAnd M s l) (wOf M x) := by unfold wAnd; rw [List.foldl_append]; rfl
theorem wOr_snoc (M : List WD) (s : WD) (l : List Int) (x : Int) : wOr M s (l ++ [x]) = or64 (wOr M s l) (wOf M x) := by unfold wOr; rw [List.foldl_append]; rfl
theorem wAnd_congr {M N : List WD} {s : WD} : ∀ {l : List Int}, (∀ x ∈ l, wOf M x = wOf N x) → wAnd M s l = wAnd N s l := by
  intro l
  induction l generalizing s with
  | nil => intro _; rfl
  | cons x l ih =>
    intro h
    show wAnd M (and64 s (wOf M x)) l = wAnd N (and64 s (wOf N x)) l
    rw [h x List.mem_cons_self]
    exact ih fun y hy => h y (List.mem_cons_of_mem _ hy)
theorem wOr_congr {M N : List WD} {s : WD} : ∀ {l : List Int}, (∀ x ∈ l, wOf M x = wOf N x) → wOr M s l = wOr N s l := by
  intro l
  induction l generalizing s with
  | nil => intro _; rfl
  | cons x l ih =>
    intro h
    show wOr M (or64 s (wOf M x)) l = wOr N (or64 s (wOf N x)) l
    rw [h x List.mem_cons_self]
    exact ih fun y hy => h y (List.mem_cons_of_mem _ hy)
/-- No two of the inputs, and what was there, have a bit in common. -/
def wdisj (M : List WD) : WD → List Int → Bool
  | _, [] => true
  | s, k :: l => (and64 s (wOf M k) == 0) && wdisj M (or64 s (wOf M k)) l
theorem wdisj_take_bad {M : List WD} : ∀ (l : List Int) (s : WD) (k : Nat) (h : k < l.length), (and64 (wOr M s (l.take k)) (wOf M l[k]) == 0) = false → wdisj M s l = false
  | x :: l, s, 0, _, e => by
    show ((and64 s (wOf M x) == 0) && wdisj M (or64 s (wOf M x)) l) = false
    have e2 : (and64 s (wOf M x) == 0) = false := e
    rw [e2]; rfl
  | x :: l, s, k + 1, h, e => by
    show ((and64 s (wOf M x) == 0) && wdisj M (or64 s (wOf M x)) l) = false
    rw [wdisj_take_bad l (or64 s (wOf M x)) k (by simpa using h) e, Bool.and_false]
theorem wdisj_all {M : List WD} : ∀ (l : List Int) (s : WD), (∀ k (h : k < l.length), (and64 (wOr M s (l.take k)) (wOf M l[k]) == 0) = true) → wdisj M s l = true
  | [], _, _ => rfl
  | x :: l, s, h => by
    show ((and64 s (wOf M x) == 0) && wdisj M (or64 s (wOf M x)) l) = true
    have h0 := h 0 (by simp)
    have h1 : (and64 s (wOf M x) == 0) = true := h0
    rw [h1, wdisj_all l (or64 s (wOf M x)) fun k hk => h (k + 1) (by simpa using hk)]; rfl
theorem wdisj_congr {M N : List WD} : ∀ {l : List Int} {s : WD}, (∀ x ∈ l, wOf M x = wOf N x) → wdisj M s l = wdisj N s l
  | [], _, _ => rfl
  | x :: l, s, h => by
    show ((and64 s (wOf M x) == 0) && wdisj M (or64 s (wOf M x)) l) = ((and64 s (wOf N x) == 0) && wdisj N (or64 s (wOf N x)) l)
    rw [h x List.mem_cons_self, wdisj_congr (l := l) fun y hy => h y (List.mem_cons_of_mem _ hy)]
def ones64 : WD := BitVec.allOnes 64
/-- The values of a node. -/
def wNode (W : Int → WD) (M : List WD) (x : NodeT) : WD :=
  if x.kind = 1 then ones64 else if x.kind = 2 then (if x.lit < 0 then not64 (W (litVar x.lit)) else W (litVar x.lit))
  else if x.kind = 3 then wAnd M ones64 x.ins else if x.kind = 4 then wOr M 0 x.ins else 0
def wsOf (W : Int → WD) (L : List NodeT) : List WD := scanF (wNode W) L
theorem wsOf_length (W : Int → WD) (L : List NodeT) : (wsOf W L).length = L.length := scanF_length _ _
def sepB (W : Int → WD) (L : List NodeT) : Bool := L.all fun x => x.kind != 4 || wdisj (wsOf W L) 0 x.ins
theorem wsOf_get {n : Int} {L : List NodeT} (W : Int → WD) (h : formedTo n L L.length) {k : Nat} (hk : k < L.length) : wOf (wsOf W L) (k : Int) = wNode W (wsOf W L) L[k] := by
  rw [wOf_nat _ k (by rw [wsOf_length]; exact hk)]
  have hg : (wsOf W L)[k]'(by rw [wsOf_length]; exact hk) = wNode W (scanF (wNode W) (L.take k)) L[k] := scanF_get (wNode W) L k hk
  rw [hg]
  have hc : ∀ x ∈ L[k].ins, wOf (scanF (wNode W) (L.take k)) x = wOf (wsOf W L) x := fun x hx => by
    have hx2 := ins_lt h hk x hx
    rw [← scanF_take (wNode W) L k (by omega)]
    exact wOf_take _ k x hx2.2
  unfold wNode
  split
  · rfl
  · split
    · rfl
    · split
      · exact wAnd_congr hc
      · split
        · exact wOr_congr hc
        · rfl
/-! ### one assignment at a time -/
def bOf (M : List Bool) (i : Int) : Bool := if 0 ≤ i then M.getD i.toNat false else false
theorem bOf_nat (M : List Bool) (k : Nat) (h : k < M.length) : bOf M (k : Int) = M[k] := by
  unfold bOf; rw [if_pos (by omega), Int.toNat_natCast, List.getD_eq_getElem?_getD, List.getElem?_eq_getElem h, Option.getD_some]
theorem bOf_take (M : List Bool) (k : Nat) (i : Int) (h : i < (k : Int)) : bOf (M.take k) i = bOf M i := by
  unfold bOf
  by_cases h0 : 0 ≤ i
  · rw [if_pos h0, if_pos h0, List.getD_eq_getElem?_getD, List.getD_eq_getElem?_getD, List.getElem?_take, if_pos (by omega)]
  · rw [if_neg h0, if_neg h0]
/-- The value of a literal in an assignment. -/
def litB (A : Int → Bool) (l : Int) : Bool := if l < 0 then !A (litVar l) else A (litVar l)
def bNode (A : Int → Bool) (M : List Bool) (x : NodeT) : Bool :=
  if x.kind = 1 then true else if x.kind = 2 then litB A x.lit
  else if x.kind = 3 then x.ins.all (bOf M) else if x.kind = 4 then x.ins.any (bOf M) else false
def bsOf (A : Int → Bool) (L : List NodeT) : List Bool := scanF (bNode A) L
theorem bsOf_length (A : Int → Bool) (L : List NodeT) : (bsOf A L).length = L.length := scanF_length _ _
theorem bNode_congr {A : Int → Bool} {M N : List Bool} {x : NodeT} (h : ∀ k ∈ x.ins, bOf M k = bOf N k) : bNode A M x = bNode A N x := by
  have h1 : x.ins.all (bOf M) = x.ins.all (bOf N) := by
    rw [Bool.eq_iff_iff, List.all_eq_true, List.all_eq_true]
    exact ⟨fun g k hk => (h k hk) ▸ g k hk, fun g k hk => (h k hk).symm ▸ g k hk⟩
  have h2 : x.ins.any (bOf M) = x.ins.any (bOf N) := by
    rw [Bool.eq_iff_iff, List.any_eq_true, List.any_eq_true]
    exact ⟨fun ⟨k, hk, g⟩ => ⟨k, hk, (h k hk) ▸ g⟩, fun ⟨k, hk, g⟩ => ⟨k, hk, (h k hk).symm ▸ g⟩⟩
  unfold bNode
  rw [h1, h2]
theorem bsOf_get {n : Int} {L : List NodeT} (A : Int → Bool) (h : formedTo n L L.length) {k : Nat} (hk : k < L.length) : bOf (bsOf A L) (k : Int) = bNode A (bsOf A L) L[k] := by
  rw [bOf_nat _ k (by rw [bsOf_length]; exact hk)]
  have hg : (bsOf A L)[k]'(by rw [bsOf_length]; exact hk) = bNode A (scanF (bNode A) (L.take k)) L[k] := scanF_get (bNode A) L k hk
  rw [hg]
  refine bNode_congr fun x hx => ?_
  have hx2 := ins_lt h hk x hx
  rw [← scanF_take (bNode A) L k (by omega)]
  exact bOf_take _ k x hx2.2
/-- No two of the inputs are true. -/
def bdisj (M : List Bool) : Bool → List Int → Bool
  | _, [] => true
  | s, k :: l => !(s && bOf M k) && bdisj M (s || bOf M k) l
def orOk (A : Int → Bool) (L : List NodeT) : Bool := L.all fun x => x.kind != 4 || bdisj (bsOf A L) false x.ins
theorem wsOf_bit (W : Int → WD) (t : Nat) (ht : t < 64) (L : List NodeT) : ∀ i : Int, (wOf (wsOf W L) i).getLsbD t = bOf (bsOf (fun v => (W v).getLsbD t) L) i := by
  have hnode : ∀ (M : List WD) (N : List Bool) (x : NodeT), (∀ i, (wOf M i).getLsbD t = bOf N i) → (wNode W M x).getLsbD t = bNode (fun v => (W v).getLsbD t) N x := by
    intro M N x h
    have hone : ones64.getLsbD t = true := by unfold ones64; rw [BitVec.getLsbD_allOnes]; simp [ht]
    have hA : ∀ (l : List Int) (s : WD), (wAnd M s l).getLsbD t = (s.getLsbD t && l.all (bOf N)) := by
      intro l
      induction l with
      | nil => intro s; simp [wAnd]
      | cons a l ih =>
        intro s
        show (wAnd M (and64 s (wOf M a)) l).getLsbD t = _
        rw [ih]
        unfold and64
        rw [BitVec.getLsbD_and, h a, List.all_cons, Bool.and_assoc]
    have hO : ∀ (l : List Int) (s : WD), (wOr M s l).getLsbD t = (s.getLsbD t || l.any (bOf N)) := by
      intro l
      induction l with
      | nil => intro s; simp [wOr]
      | cons a l ih =>
        intro s
        show (wOr M (or64 s (wOf M a)) l).getLsbD t = _
        rw [ih]
        unfold or64
        rw [BitVec.getLsbD_or, h a, List.any_cons, Bool.or_assoc]
    unfold wNode bNode litB
    split
    · exact hone
    · split
      · split
        · unfold not64; simp [ht]
        · rfl
      · split
        · rw [hA, hone, Bool.true_and]
        · split
          · rw [hO, show (0 : WD).getLsbD t = false from BitVec.getLsbD_zero, Bool.false_or]
          · exact BitVec.getLsbD_zero
  have hscan : ∀ (l : List NodeT) (i : Int), (wOf (scanF (wNode W) l) i).getLsbD t = bOf (scanF (bNode fun v => (W v).getLsbD t) l) i := by
    intro l
    induction l using snoc_ind with
    | h0 => intro i; unfold wOf bOf; rw [scanF_nil, scanF_nil]; split <;> simp
    | h1 l x ih =>
      intro i
      rw [scanF_snoc, scanF_snoc]
      have hx := hnode _ _ x ih
      unfold wOf bOf
      by_cases h0 : 0 ≤ i
      · rw [if_pos h0, if_pos h0, List.getD_eq_getElem?_getD, List.getD_eq_getElem?_getD]
        have hi := ih i
        unfold wOf bOf at hi
        rw [if_pos h0, if_pos h0, List.getD_eq_getElem?_getD, List.getD_eq_getElem?_getD] at hi
        have l1 := scanF_length (wNode W) l
        have l2 := scanF_length (bNode fun v => (W v).getLsbD t) l
        by_cases hlt : i.toNat < l.length
        · rw [List.getElem?_append_left (by omega), List.getElem?_append_left (by omega)]; exact hi
        · rw [List.getElem?_append_right (by omega), List.getElem?_append_right (by omega), l1, l2]
          by_cases e : i.toNat - l.length = 0
          · rw [e]; exact hx
          · rw [List.getElem?_eq_none (by simp; omega), List.getElem?_eq_none (by simp; omega)]; simp
      · rw [if_neg h0, if_neg h0]; simp
  exact hscan L
theorem wdisj_bits {M : List WD} {N : Nat → List Bool} (h : ∀ t, t < 64 → ∀ i, (wOf M i).getLsbD t = bOf (N t) i) : ∀ (l : List Int) (s : WD), wdisj M s l = true ↔ ∀ t, t < 64 → bdisj (N t) (s.getLsbD t) l = true
  | [], s => ⟨fun _ _ _ => rfl, fun _ => rfl⟩
  | k :: l, s => by
    show ((and64 s (wOf M k) == 0) && wdisj M (or64 s (wOf M k)) l) = true ↔ ∀ t, t < 64 → (!(s.getLsbD t && bOf (N t) k) && bdisj (N t) (s.getLsbD t || bOf (N t) k) l) = true
    have e1 : (and64 s (wOf M k) == 0) = true ↔ ∀ t, t < 64 → (s.getLsbD t && bOf (N t) k) = false := by
      rw [beq_iff_eq]
      constructor
      · intro e t ht
        have := congrArg (fun x : WD => x.getLsbD t) e
        simp only [and64, BitVec.getLsbD_and, h t ht] at this
        rw [this]; exact BitVec.getLsbD_zero
      · intro e
        apply BitVec.eq_of_getLsbD_eq
        intro t ht
        have := e t ht
        simp only [and64, BitVec.getLsbD_and, h t ht]
        rw [this]; exact BitVec.getLsbD_zero.symm
    have ih := wdisj_bits h l (or64 s (wOf M k))
    have e2 : ∀ t, t < 64 → (or64 s (wOf M k)).getLsbD t = (s.getLsbD t || bOf (N t) k) := fun t ht => by unfold or64; rw [BitVec.getLsbD_or, h t ht]
    rw [Bool.and_eq_true, e1, ih]
    constructor
    · rintro ⟨a, b⟩ t ht
      rw [a t ht, ← e2 t ht, b t ht]; rfl
    · intro a
      refine ⟨fun t ht => ?_, fun t ht => ?_⟩
      · have := a t ht
        rw [Bool.and_eq_true, Bool.not_eq_true'] at this
        exact this.1
      · have := a t ht
        rw [Bool.and_eq_true] at this
        rw [e2 t ht]; exact this.2
theorem sepB_bits (W : Int → WD) (L : List NodeT) : sepB W L = true ↔ ∀ t, t < 64 → orOk (fun v => (W v).getLsbD t) L = true := by
  unfold sepB orOk
  simp only [List.all_eq_true, Bool.or_eq_true]
  have hw := fun l => wdisj_bits (M := wsOf W L) (N := fun t => bsOf (fun v => (W v).getLsbD t) L) (fun t ht i => wsOf_bit W t ht L i) l 0
  constructor
  · intro h t ht x hx
    rcases h x hx with a | a
    · exact .inl a
    · refine .inr ?_
      have := (hw x.ins).1 a t ht
      rwa [show (0 : WD).getLsbD t = false from BitVec.getLsbD_zero] at this
  · intro h x hx
    by_cases a : (x.kind != 4) = true
    · exact .inl a
    · refine .inr ((hw x.ins).2 fun t ht => ?_)
      have := (h t ht x hx).resolve_left a
      rwa [show (0 : WD).getLsbD t = false from BitVec.getLsbD_zero]
end Go.Proofs.YtpdbfbjfodckgaaDoor
