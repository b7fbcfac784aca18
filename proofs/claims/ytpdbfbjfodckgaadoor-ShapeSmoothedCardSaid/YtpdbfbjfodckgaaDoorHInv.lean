/- Plain mathematics of nets: what the smooth form keeps; the smooth form as a whole; its length; the variables that occur; one assignment after the other; counting; a disjunction of many literals. No program in sight. -/
import Derived.Test.YtpdbfbjfodckgaaDoorHSmP
import Derived.Test.YtpdbfbjfodckgaaDoorHDetP
import Derived.Test.YtpdbfbjfodckgaaDoorHDec
namespace Go.Proofs.YtpdbfbjfodckgaaDoor

/-! ### attributes of places, as nodes are added -/
theorem scanF_app {α β : Type} (f : List β → α → β) (l t : List α) : (scanF f (l ++ t)).take l.length = scanF f l := by
  have := scanF_take f (l ++ t) l.length (by simp)
  rwa [List.take_left] at this
theorem nOf_app {L t : List NodeT} {i : Int} (h : i < (L.length : Int)) : nOf (L ++ t) i = nOf L i := by
  unfold nOf
  by_cases h0 : 0 ≤ i
  · rw [if_pos h0, if_pos h0, List.getD_eq_getElem?_getD, List.getD_eq_getElem?_getD, List.getElem?_append_left (by omega)]
  · rw [if_neg h0, if_neg h0]
theorem V_app {L t : List NodeT} {i : Int} (h : i < (L.length : Int)) : sOf (vsOf (L ++ t)) i = sOf (vsOf L) i := by
  have e : (vsOf (L ++ t)).take L.length = vsOf L := scanF_app vsNode L t
  rw [← sOf_take (vsOf (L ++ t)) L.length i h, e]
theorem B_app {A : Int → Bool} {L t : List NodeT} {i : Int} (h : i < (L.length : Int)) : bOf (bsOf A (L ++ t)) i = bOf (bsOf A L) i := by
  have e : (bsOf A (L ++ t)).take L.length = bsOf A L := scanF_app (bNode A) L t
  rw [← bOf_take (bsOf A (L ++ t)) L.length i h, e]
theorem nOf_new (L : List NodeT) (x : NodeT) : nOf (L ++ [x]) (L.length : Int) = x := by
  rw [nOf_nat _ _ (by simp)]; simp
theorem V_new (L : List NodeT) (x : NodeT) : sOf (vsOf (L ++ [x])) (L.length : Int) = vsNode (vsOf L) x := by
  have e : vsOf (L ++ [x]) = vsOf L ++ [vsNode (vsOf L) x] := scanF_snoc _ _ _
  unfold sOf
  rw [if_pos (by omega), Int.toNat_natCast, e, List.getD_eq_getElem?_getD, List.getElem?_append_right (by rw [vsOf_length]; omega), vsOf_length, Nat.sub_self]; rfl
theorem B_new (A : Int → Bool) (L : List NodeT) (x : NodeT) : bOf (bsOf A (L ++ [x])) (L.length : Int) = bNode A (bsOf A L) x := by
  have e : bsOf A (L ++ [x]) = bsOf A L ++ [bNode A (bsOf A L) x] := scanF_snoc _ _ _
  unfold bOf
  rw [if_pos (by omega), Int.toNat_natCast, e, List.getD_eq_getElem?_getD, List.getElem?_append_right (by rw [bsOf_length]; omega), bsOf_length, Nat.sub_self]; rfl
theorem litsOf_congr {L M : List NodeT} : ∀ {l : List Int}, (∀ x ∈ l, nOf L x = nOf M x) → litsOf L l = litsOf M l := by
  intro l h
  unfold litsOf
  induction l with
  | nil => rfl
  | cons x l ih => rw [List.filterMap_cons, List.filterMap_cons, h x List.mem_cons_self, ih fun y hy => h y (List.mem_cons_of_mem _ hy)]
theorem heads_app {L t : List NodeT} {i : Int} (h : i < (L.length : Int)) (hi : ∀ k ∈ (nOf L i).ins, k < (L.length : Int)) : heads (L ++ t) i = heads L i := by
  unfold heads
  rw [nOf_app h, litsOf_congr fun x hx => nOf_app (hi x hx)]
theorem disj_congr {M N : List VS} : ∀ {l : List Int} {s : VS}, (∀ x ∈ l, sOf M x = sOf N x) → disj M s l = disj N s l
  | [], _, _ => rfl
  | x :: l, s, h => by
    show ((s &&& sOf M x == 0) && disj M (s ||| sOf M x) l) = ((s &&& sOf N x == 0) && disj N (s ||| sOf N x) l)
    rw [h x List.mem_cons_self, disj_congr fun y hy => h y (List.mem_cons_of_mem _ hy)]
theorem disj_append {M : List VS} : ∀ (a b : List Int) (s : VS), disj M s (a ++ b) = (disj M s a && disj M (orIns M s a) b)
  | [], _, _ => rfl
  | x :: a, b, s => by
    show ((s &&& sOf M x == 0) && disj M (s ||| sOf M x) (a ++ b)) = (((s &&& sOf M x == 0) && disj M (s ||| sOf M x) a) && disj M (orIns M (s ||| sOf M x) a) b)
    rw [disj_append a b, Bool.and_assoc]
theorem orIns_append (M : List VS) (s : VS) (a b : List Int) : orIns M s (a ++ b) = orIns M (orIns M s a) b := by unfold orIns; rw [List.foldl_append]
theorem has_orIns (M : List VS) : ∀ (l : List Int) (s : VS) (u : Int), has (orIns M s l) u = true ↔ has s u = true ∨ ∃ k ∈ l, has (sOf M k) u = true
  | [], s, u => by simp [orIns]
  | x :: l, s, u => by
    show has (orIns M (s ||| sOf M x) l) u = true ↔ _
    rw [has_orIns M l, has_or, Bool.or_eq_true]
    simp only [List.mem_cons, exists_eq_or_imp]
    exact or_assoc
theorem ofL_lit0 : ofL [litVar 0] = 0 := by decide +kernel
theorem ext_iff {a b : VS} (h : ∀ u, has a u = true ↔ has b u = true) : a = b := ext_has fun u _ _ => by
  have := h u
  cases ha : has a u <;> cases hb : has b u <;> simp_all
/-! ### good nodes -/
/-- A node that is good behind the nodes out; those of the properties that the net L has. -/
structure NodeOk (n : Int) (L out : List NodeT) (x : NodeT) : Prop where
  form : formed x n (out.length : Int) = true
  smooth : x.kind = 4 → ∀ k ∈ x.ins, sOf (vsOf out) k = vsNode (vsOf out) x
  dec : decomB L = true → x.kind = 3 → disj (vsOf out) 0 x.ins = true
  det : (∀ A, orOk A L = true) → x.kind = 4 → ∀ A, bdisj (bsOf A out) false x.ins = true
  dcn : decideB L = true → x.kind = 4 → x.ins.length = 2 ∧ opp (heads out (x.ins.getD 0 0)) (heads out (x.ins.getD 1 0)) = true
def AllOk (n : Int) (L out : List NodeT) : Prop := ∀ i (h : i < out.length), NodeOk n L (out.take i) out[i]
theorem AllOk.nil (n : Int) (L : List NodeT) : AllOk n L [] := fun i h => absurd h (by simp)
theorem AllOk.snoc {n : Int} {L out : List NodeT} {x : NodeT} (h : AllOk n L out) (hx : NodeOk n L out x) : AllOk n L (out ++ [x]) := by
  intro i hi
  by_cases e : i < out.length
  · rw [List.getElem_append_left e, List.take_append_of_le_length (by omega)]
    exact h i e
  · have : i = out.length := by simp at hi; omega
    subst this
    rw [List.take_left]
    simpa using hx
theorem AllOk.form {n : Int} {L out : List NodeT} (h : AllOk n L out) : formedTo n out out.length := by
  intro i hi _
  have := (h i hi).form
  rwa [List.length_take, Nat.min_eq_left (by omega)] at this
theorem form_ins {n before : Int} {x : NodeT} (h : formed x n before = true) : ∀ k ∈ x.ins, 0 ≤ k ∧ k < before := by
  intro k hk
  unfold formed at h
  split at h
  · cases h
  · rename_i hb
    rw [Bool.not_eq_true] at hb
    unfold badIn at hb
    rw [List.any_eq_false] at hb
    have := hb k hk
    simp only [Bool.or_eq_true, decide_eq_true_eq, not_or] at this
    omega
theorem badIn_no {l : List Int} {m : Int} (h : ∀ k ∈ l, 0 ≤ k ∧ k < m) : badIn l m = false := by
  unfold badIn
  rw [List.any_eq_false]
  intro k hk
  have := h k hk
  simp only [Bool.or_eq_true, decide_eq_true_eq, not_or]
  omega
theorem nOf_ins {n : Int} {L : List NodeT} (h : formedTo n L L.length) (i : Int) : ∀ k ∈ (nOf L i).ins, 0 ≤ k ∧ k < i ∧ k < (L.length : Int) := by
  intro k hk
  unfold nOf at hk
  by_cases h0 : 0 ≤ i
  · rw [if_pos h0] at hk
    by_cases hl : i.toNat < L.length
    · rw [List.getD_eq_getElem?_getD, List.getElem?_eq_getElem hl, Option.getD_some] at hk
      have := form_ins (h i.toNat hl hl) k hk
      omega
    · rw [List.getD_eq_getElem?_getD, List.getElem?_eq_none (by omega), Option.getD_none] at hk
      simp at hk
  · rw [if_neg h0] at hk; simp at hk
/-! ### choices -/
theorem lit_attr {n : Int} {out : List NodeT} (hf : formedTo n out out.length) {k : Nat} {l : Int} (h : out[k]? = some ⟨2, l, []⟩) :
    k < out.length ∧ nOf out (k : Int) = ⟨2, l, []⟩ ∧ sOf (vsOf out) (k : Int) = ofL [litVar l] ∧ ∀ A, bOf (bsOf A out) (k : Int) = litB A l := by
  obtain ⟨hk, e⟩ := List.getElem?_eq_some_iff.1 h
  refine ⟨hk, by rw [nOf_nat _ _ hk, e], ?_, fun A => ?_⟩
  · rw [vsOf_get hf hk, e]; rfl
  · rw [bsOf_get A hf hk, e]; rfl
/-- c is the choice of v. -/
def Chs (n : Int) (out : List NodeT) (v c : Int) : Prop := ∃ b : Nat, c = (b : Int) + 2 ∧ 1 ≤ v ∧ v ≤ n ∧ out[b]? = some ⟨2, -v, []⟩ ∧ out[b + 1]? = some ⟨2, v, []⟩ ∧ out[b + 2]? = some ⟨4, 0, [(b : Int), (b : Int) + 1]⟩
theorem get_app {α : Type} {l t : List α} {i : Nat} {x : α} (h : l[i]? = some x) : (l ++ t)[i]? = some x := by
  obtain ⟨hi, e⟩ := List.getElem?_eq_some_iff.1 h
  rw [List.getElem?_append_left hi, h]
theorem Chs.app {n : Int} {out t : List NodeT} {v c : Int} (h : Chs n out v c) : Chs n (out ++ t) v c := by
  obtain ⟨b, e, h1, h2, a1, a2, a3⟩ := h
  exact ⟨b, e, h1, h2, get_app a1, get_app a2, get_app a3⟩
theorem litVar_pos {v : Int} (h1 : 1 ≤ v) (h2 : v ≤ 128) : litVar v = v ∧ litVar (-v) = v := by unfold litVar; constructor <;> (split <;> (try split) <;> omega)
theorem Chs.lt {n : Int} {out : List NodeT} {v c : Int} (h : Chs n out v c) : 0 ≤ c ∧ c < (out.length : Int) := by
  obtain ⟨b, e, h1, h2, a1, a2, a3⟩ := h
  have := (List.getElem?_eq_some_iff.1 a3).1
  omega
theorem Chs.V {n : Int} (hn : n ≤ 128) {out : List NodeT} (hf : formedTo n out out.length) {v c : Int} (h : Chs n out v c) : sOf (vsOf out) c = ofL [v] := by
  obtain ⟨b, rfl, h1, h2, a1, a2, a3⟩ := h
  obtain ⟨_, _, e1, _⟩ := lit_attr hf a1
  obtain ⟨_, _, e2, _⟩ := lit_attr hf a2
  obtain ⟨hk, e⟩ := List.getElem?_eq_some_iff.1 a3
  obtain ⟨p1, p2⟩ := litVar_pos h1 (by omega)
  have : sOf (vsOf out) ((b + 2 : Nat) : Int) = (ofL [litVar 0] ||| sOf (vsOf out) (b : Int)) ||| sOf (vsOf out) ((b : Int) + 1) := by rw [vsOf_get hf hk, e]; rfl
  rw [show ((b : Int) + 2) = ((b + 2 : Nat) : Int) by omega, this, show ((b : Int) + 1) = ((b + 1 : Nat) : Int) by omega, e1, e2, p1, p2, ofL_lit0]
  refine ext_iff fun u => ?_
  rw [has_or, has_or, has_zero]; simp
theorem Chs.B {n : Int} (hn : n ≤ 128) {out : List NodeT} (hf : formedTo n out out.length) {v c : Int} (h : Chs n out v c) (A : Int → Bool) : bOf (bsOf A out) c = true := by
  obtain ⟨b, rfl, h1, h2, a1, a2, a3⟩ := h
  obtain ⟨_, _, _, e1⟩ := lit_attr hf a1
  obtain ⟨_, _, _, e2⟩ := lit_attr hf a2
  obtain ⟨hk, e⟩ := List.getElem?_eq_some_iff.1 a3
  obtain ⟨p1, p2⟩ := litVar_pos h1 (by omega)
  have : bOf (bsOf A out) ((b + 2 : Nat) : Int) = (bOf (bsOf A out) (b : Int) || (bOf (bsOf A out) ((b : Int) + 1) || false)) := by rw [bsOf_get A hf hk, e]; rfl
  rw [show ((b : Int) + 2) = ((b + 2 : Nat) : Int) by omega, this, show ((b : Int) + 1) = ((b + 1 : Nat) : Int) by omega, e1, e2]
  unfold litB
  rw [if_pos (by omega), if_neg (by omega), p1, p2]
  cases A v <;> rfl
theorem litNode_ok {n : Int} {L out : List NodeT} {l : Int} (h : litVar l ≠ 0 ∧ litVar l ≤ n) : NodeOk n L out ⟨2, l, []⟩ where
  form := by unfold formed badIn litValid; simp [h]
  smooth := fun h => absurd h (show ¬ (2 : Int) = 4 by decide)
  dec := fun _ h => absurd h (show ¬ (2 : Int) = 3 by decide)
  det := fun _ h => absurd h (show ¬ (2 : Int) = 4 by decide)
  dcn := fun _ h => absurd h (show ¬ (2 : Int) = 4 by decide)
theorem or_self_v (v : Int) : ((0 : VS) ||| ofL [v]) ||| ofL [v] = ofL [v] := by
  refine ext_iff fun u => ?_
  rw [has_or, has_or, has_zero]; simp
theorem orNode_ok {n : Int} {L O : List NodeT} {v b : Int} (h0 : 0 ≤ b) (hb : b + 1 < (O.length : Int)) (h1 : 1 ≤ v) (h2 : v ≤ 128)
    (v1 : sOf (vsOf O) b = ofL [v]) (v2 : sOf (vsOf O) (b + 1) = ofL [v]) (b1 : ∀ A, bOf (bsOf A O) b = litB A (-v)) (b2 : ∀ A, bOf (bsOf A O) (b + 1) = litB A v)
    (n1 : heads O b = [-v]) (n2 : heads O (b + 1) = [v]) : NodeOk n L O ⟨4, 0, [b, b + 1]⟩ where
  form := by
    unfold formed
    rw [badIn_no (fun k hk => by
      simp only [List.mem_cons, List.not_mem_nil, or_false] at hk
      omega)]
    rfl
  smooth := fun _ k hk => by
    have hvk : sOf (vsOf O) k = ofL [v] := by
      simp only [List.mem_cons, List.not_mem_nil, or_false] at hk
      rcases hk with rfl | rfl
      · exact v1
      · exact v2
    rw [hvk]
    unfold vsNode orIns
    simp only [List.foldl_cons, List.foldl_nil]
    rw [v1, v2, ofL_lit0, or_self_v]
  dec := fun _ h => absurd h (show ¬ (4 : Int) = 3 by decide)
  det := fun _ _ A => by
    obtain ⟨p1, p2⟩ := litVar_pos h1 h2
    have e : bdisj (bsOf A O) false [b, b + 1] = (!(false && bOf (bsOf A O) b) && (!((false || bOf (bsOf A O) b) && bOf (bsOf A O) (b + 1)) && true)) := rfl
    simp only
    rw [e, b1, b2]
    unfold litB
    rw [if_pos (by omega), if_neg (by omega), p1, p2]
    cases A v <;> rfl
  dcn := fun _ _ => by
    refine ⟨rfl, ?_⟩
    simp only [List.getD_cons_zero, List.getD_cons_succ]
    rw [n1, n2]
    unfold opp; simp
def ChOk (n : Int) (out : List NodeT) (ch : Int → Option Int) : Prop := ∀ v c, ch v = some c → Chs n out v c
theorem ChOk.app {n : Int} {out t : List NodeT} {ch : Int → Option Int} (h : ChOk n out ch) : ChOk n (out ++ t) ch := fun v c e => (h v c e).app
theorem choice_ok {n : Int} (hn : n ≤ 128) {L out : List NodeT} (h : AllOk n L out) {v : Int} (h1 : 1 ≤ v) (h2 : v ≤ n) :
    AllOk n L (out ++ choice v out.length) ∧ Chs n (out ++ choice v out.length) v ((out.length : Int) + 2) := by
  obtain ⟨p1, p2⟩ := litVar_pos h1 (by omega)
  have e : out ++ choice v out.length = ((out ++ [⟨2, -v, []⟩]) ++ [⟨2, v, []⟩]) ++ [⟨4, 0, [(out.length : Int), (out.length : Int) + 1]⟩] := by unfold choice; simp
  have k1 : AllOk n L (out ++ [⟨2, -v, []⟩]) := h.snoc (litNode_ok ⟨by omega, by omega⟩)
  have k2 : AllOk n L ((out ++ [⟨2, -v, []⟩]) ++ [⟨2, v, []⟩]) := k1.snoc (litNode_ok ⟨by omega, by omega⟩)
  have g1 : ((out ++ [⟨2, -v, []⟩]) ++ [⟨2, v, []⟩] : List NodeT)[out.length]? = some ⟨2, -v, []⟩ := by simp
  have g2 : ((out ++ [⟨2, -v, []⟩]) ++ [⟨2, v, []⟩] : List NodeT)[out.length + 1]? = some ⟨2, v, []⟩ := by simp
  obtain ⟨_, n1, v1, b1⟩ := lit_attr k2.form g1
  obtain ⟨_, n2, v2, b2⟩ := lit_attr k2.form g2
  rw [p2] at v1; rw [p1] at v2
  have c2 : ((out.length + 1 : Nat) : Int) = (out.length : Int) + 1 := by omega
  rw [c2] at n2 v2 b2
  rw [e]
  refine ⟨k2.snoc ?_, out.length, rfl, h1, h2, by simp, by simp, by simp⟩
  generalize (out ++ [⟨2, -v, []⟩]) ++ [⟨2, v, []⟩] = O at *
  refine orNode_ok (by omega) (by have := (List.getElem?_eq_some_iff.1 g2).1; omega) h1 (by omega) v1 v2 b1 b2 ?_ ?_
  · unfold heads; rw [n1, if_pos rfl]
  · unfold heads; rw [n2, if_pos rfl]
/-- The choices of variables. -/
inductive AllCh (n : Int) (out : List NodeT) : List Int → List Int → Prop
  | nil : AllCh n out [] []
  | cons {v c : Int} {l cs : List Int} : Chs n out v c → AllCh n out l cs → AllCh n out (v :: l) (c :: cs)
theorem AllCh.app {n : Int} {out t : List NodeT} : ∀ {l cs : List Int}, AllCh n out l cs → AllCh n (out ++ t) l cs
  | _, _, .nil => .nil
  | _, _, .cons a b => .cons a.app b.app
theorem AllCh.lt {n : Int} {out : List NodeT} : ∀ {l cs : List Int}, AllCh n out l cs → ∀ c ∈ cs, 0 ≤ c ∧ c < (out.length : Int)
  | _, _, .nil, c, hc => by simp at hc
  | _, _, .cons a b, c, hc => by
    rcases List.mem_cons.1 hc with rfl | hc
    · exact a.lt
    · exact b.lt c hc
theorem AllCh.V {n : Int} (hn : n ≤ 128) {out : List NodeT} (hf : formedTo n out out.length) : ∀ {l cs : List Int} {s : VS}, AllCh n out l cs → ∀ u, has (orIns (vsOf out) s cs) u = true ↔ has s u = true ∨ u ∈ l
  | _, _, s, .nil, u => by simp [orIns]
  | v :: l, c :: cs, s, .cons a b, u => by
    show has (orIns (vsOf out) (s ||| sOf (vsOf out) c) cs) u = true ↔ _
    rw [b.V hn hf, has_or, Bool.or_eq_true, a.V hn hf, has_ofL]
    obtain ⟨_, _, h1, h2, _⟩ := a
    simp only [List.mem_cons, List.not_mem_nil, or_false, Bool.and_eq_true, decide_eq_true_eq]
    constructor
    · rintro ((h | ⟨⟨rfl, _⟩, _⟩) | h)
      · exact .inl h
      · exact .inr (.inl rfl)
      · exact .inr (.inr h)
    · rintro (h | rfl | h)
      · exact .inl (.inl h)
      · exact .inl (.inr ⟨⟨rfl, h1⟩, by omega⟩)
      · exact .inr h
theorem AllCh.B {n : Int} (hn : n ≤ 128) {out : List NodeT} (hf : formedTo n out out.length) (A : Int → Bool) : ∀ {l cs : List Int}, AllCh n out l cs → cs.all (bOf (bsOf A out)) = true
  | _, _, .nil => rfl
  | _, _, .cons a b => by rw [List.all_cons, a.B hn hf A, b.B hn hf A]; rfl
theorem AllCh.disj {n : Int} (hn : n ≤ 128) {out : List NodeT} (hf : formedTo n out out.length) : ∀ {l cs : List Int} {s : VS}, AllCh n out l cs → l.Pairwise (· < ·) → (∀ v ∈ l, has s v = false) → disj (vsOf out) s cs = true
  | _, _, _, .nil, _, _ => rfl
  | v :: l, c :: cs, s, .cons a b, hp, hs => by
    show ((s &&& sOf (vsOf out) c == 0) && Go.Proofs.YtpdbfbjfodckgaaDoor.disj (vsOf out) (s ||| sOf (vsOf out) c) cs) = true
    rw [List.pairwise_cons] at hp
    have hV := a.V hn hf
    have e1 : (s &&& sOf (vsOf out) c == 0) = true := by
      rw [beq_iff_eq, hV]
      refine ext_iff fun u => ?_
      rw [has_and, has_ofL, has_zero]
      constructor
      · intro h
        simp only [Bool.and_eq_true, decide_eq_true_eq, List.mem_cons, List.not_mem_nil, or_false] at h
        obtain ⟨h, ⟨rfl, _⟩, _⟩ := h
        rw [hs _ List.mem_cons_self] at h; cases h
      · intro h; cases h
    rw [e1, Bool.true_and]
    refine b.disj hn hf hp.2 fun u hu => ?_
    rw [has_or, hs u (List.mem_cons_of_mem _ hu), hV, has_ofL]
    have := hp.1 u hu
    simp only [List.mem_cons, List.not_mem_nil, or_false, Bool.false_or]
    rw [decide_eq_false (by omega)]; rfl
theorem stepV_ok {n : Int} (hn : n ≤ 128) {L : List NodeT} {s : FS} (h : AllOk n L s.out) (hc : ChOk n s.out s.ch) {v : Int} (h1 : 1 ≤ v) (h2 : v ≤ n) :
    AllOk n L (stepV s v).out ∧ ChOk n (stepV s v).out (stepV s v).ch ∧ ∃ c, (stepV s v).inn = s.inn ++ [c] ∧ Chs n (stepV s v).out v c := by
  cases e : s.ch v with
  | some c =>
    have : stepV s v = ⟨s.out, s.ch, s.inn ++ [c]⟩ := by unfold stepV; rw [e]
    rw [this]
    exact ⟨h, hc, c, rfl, hc v c e⟩
  | none =>
    have : stepV s v = ⟨s.out ++ choice v s.out.length, fun u => if u = v then some ((s.out.length : Int) + 2) else s.ch u, s.inn ++ [(s.out.length : Int) + 2]⟩ := by unfold stepV; rw [e]
    rw [this]
    obtain ⟨k1, k2⟩ := choice_ok hn h h1 h2
    refine ⟨k1, fun u c hu => ?_, _, rfl, k2⟩
    by_cases eu : u = v
    · subst eu
      simp only [if_pos] at hu
      injection hu with hu
      exact hu ▸ k2
    · simp only [if_neg eu] at hu
      exact (hc u c hu).app
theorem fillV_ok {n : Int} (hn : n ≤ 128) {L : List NodeT} : ∀ (l : List Int) (s : FS), AllOk n L s.out → ChOk n s.out s.ch → (∀ v ∈ l, 1 ≤ v ∧ v ≤ n) →
    AllOk n L (fillV s l).out ∧ ChOk n (fillV s l).out (fillV s l).ch ∧ ∃ cs, (fillV s l).inn = s.inn ++ cs ∧ AllCh n (fillV s l).out l cs
  | [], s, h, hc, _ => ⟨h, hc, [], (List.append_nil _).symm, .nil⟩
  | v :: l, s, h, hc, hl => by
    obtain ⟨r1, r2⟩ := hl v List.mem_cons_self
    obtain ⟨a1, a2, c, a3, a4⟩ := stepV_ok hn h hc r1 r2
    obtain ⟨b1, b2, cs, b3, b4⟩ := fillV_ok hn l (stepV s v) a1 a2 fun u hu => hl u (List.mem_cons_of_mem _ hu)
    refine ⟨b1, b2, c :: cs, ?_, ?_⟩
    · show (fillV (stepV s v) l).inn = _
      rw [b3, a3, List.append_assoc]; rfl
    · obtain ⟨t, ht⟩ := fillV_out l (stepV s v)
      have : Chs n (fillV (stepV s v) l).out v c := by rw [ht]; exact a4.app
      exact .cons this b4
end Go.Proofs.YtpdbfbjfodckgaaDoor
namespace Go.Proofs.YtpdbfbjfodckgaaDoor

/-! ### moved nodes -/
/-- Where the node old is now. -/
structure AtOk (L out : List NodeT) (A : List Int) (old : Int) : Prop where
  low : 0 ≤ iOf A old
  high : iOf A old < (out.length : Int)
  kind : (nOf out (iOf A old)).kind = (nOf L old).kind
  lit : (nOf out (iOf A old)).lit = (nOf L old).lit
  ins : (nOf L old).kind = 3 → (nOf out (iOf A old)).ins = (nOf L old).ins.map (iOf A)
  v : sOf (vsOf out) (iOf A old) = sOf (vsOf L) old
  b : ∀ S, bOf (bsOf S out) (iOf A old) = bOf (bsOf S L) old
def Ats (L out : List NodeT) (A : List Int) : Prop := ∀ old : Int, 0 ≤ old → old < (A.length : Int) → AtOk L out A old
theorem AtOk.app {L out t : List NodeT} {A : List Int} {old : Int} (h : AtOk L out A old) : AtOk L (out ++ t) A old where
  low := h.low
  high := by have := h.high; simp only [List.length_append]; omega
  kind := by rw [nOf_app h.high]; exact h.kind
  lit := by rw [nOf_app h.high]; exact h.lit
  ins := by rw [nOf_app h.high]; exact h.ins
  v := by rw [V_app h.high]; exact h.v
  b := fun S => by rw [B_app h.high]; exact h.b S
theorem Ats.app {L out t : List NodeT} {A : List Int} (h : Ats L out A) : Ats L (out ++ t) A := fun old h0 h1 => (h old h0 h1).app
theorem AtOk.snoc {n : Int} {L out : List NodeT} (hf : formedTo n L L.length) {A : List Int} {old : Int} {m : Int} (h : AtOk L out A old) (hl : old < (A.length : Int)) : AtOk L out (A ++ [m]) old := by
  have e : iOf (A ++ [m]) old = iOf A old := iOf_append _ _ _ hl
  exact {
    low := by rw [e]; exact h.low
    high := by rw [e]; exact h.high
    kind := by rw [e]; exact h.kind
    lit := by rw [e]; exact h.lit
    ins := fun hk => by
      rw [e, h.ins hk]
      refine List.map_congr_left fun k hk2 => ?_
      have := nOf_ins hf old k hk2
      exact (iOf_append _ _ _ (by omega)).symm
    v := by rw [e]; exact h.v
    b := fun S => by rw [e]; exact h.b S }
theorem orIns_map {M N : List VS} {f : Int → Int} {s : VS} : ∀ {l : List Int}, (∀ x ∈ l, sOf M (f x) = sOf N x) → orIns M s (l.map f) = orIns N s l := by
  intro l
  induction l generalizing s with
  | nil => intro _; rfl
  | cons x l ih =>
    intro h
    show orIns M (s ||| sOf M (f x)) (l.map f) = orIns N (s ||| sOf N x) l
    rw [h x List.mem_cons_self]
    exact ih fun y hy => h y (List.mem_cons_of_mem _ hy)
theorem disj_map {M N : List VS} {f : Int → Int} : ∀ {l : List Int} {s : VS}, (∀ x ∈ l, sOf M (f x) = sOf N x) → disj M s (l.map f) = disj N s l
  | [], _, _ => rfl
  | x :: l, s, h => by
    show ((s &&& sOf M (f x) == 0) && disj M (s ||| sOf M (f x)) (l.map f)) = ((s &&& sOf N x == 0) && disj N (s ||| sOf N x) l)
    rw [h x List.mem_cons_self, disj_map fun y hy => h y (List.mem_cons_of_mem _ hy)]
theorem all_map {f : Int → Int} {g h : Int → Bool} : ∀ {l : List Int}, (∀ x ∈ l, g (f x) = h x) → (l.map f).all g = l.all h
  | [], _ => rfl
  | x :: l, e => by rw [List.map_cons, List.all_cons, List.all_cons, e x List.mem_cons_self, all_map fun y hy => e y (List.mem_cons_of_mem _ hy)]
/-! ### the inputs ahead of the choices -/
structure BaseOk (L out : List NodeT) (old : Int) (base : List Int) : Prop where
  lt : ∀ c ∈ base, 0 ≤ c ∧ c < (out.length : Int)
  v : orIns (vsOf out) 0 base = sOf (vsOf L) old
  b : ∀ S, base.all (bOf (bsOf S out)) = bOf (bsOf S L) old
  dec : decomB L = true → disj (vsOf out) 0 base = true
  heads : ∀ l ∈ heads L old, l ∈ litsOf out base
theorem nOf_get {L : List NodeT} {i : Int} (h0 : 0 ≤ i) (h1 : i < (L.length : Int)) : ∃ k : Nat, i = (k : Int) ∧ ∃ hk : k < L.length, nOf L i = L[k] :=
  ⟨i.toNat, by omega, by omega, by unfold nOf; rw [if_pos h0, List.getD_eq_getElem?_getD, List.getElem?_eq_getElem (by omega), Option.getD_some]⟩
theorem form_and {n before : Int} {x : NodeT} (h : formed x n before = true) (hk : x.kind = 3 ∨ x.kind = 4) : x.lit = 0 := by
  unfold formed at h
  split at h
  · cases h
  · rw [if_neg (show ¬ (x.kind = 0 ∨ x.kind = 1) by omega), if_neg (show ¬ x.kind = 2 by omega)] at h
    simpa [hk] using h
theorem mem_litsOf {L : List NodeT} {l : List Int} {x : Int} : x ∈ litsOf L l ↔ ∃ k ∈ l, (nOf L k).kind = 2 ∧ (nOf L k).lit = x := by
  unfold litsOf
  rw [List.mem_filterMap]
  constructor
  · rintro ⟨k, hk, e⟩
    split at e
    · rename_i h2
      injection e with e
      exact ⟨k, hk, h2, e⟩
    · cases e
  · rintro ⟨k, hk, h2, e⟩
    exact ⟨k, hk, by rw [if_pos h2, e]⟩
theorem base_ok {n : Int} {L out : List NodeT} (hf : formedTo n L L.length) {A : List Int} (hA : Ats L out A) (hAl : A.length ≤ L.length) {old : Int} (h0 : 0 ≤ old) (h1 : old < (A.length : Int)) : BaseOk L out old (inn0 L A old) := by
  obtain ⟨k, rfl, hk, e⟩ := nOf_get (L := L) h0 (by omega)
  unfold inn0
  by_cases h3 : (nOf L (k : Int)).kind = 3
  · rw [if_pos h3]
    have hin := nOf_ins hf (k : Int)
    have hat : ∀ x ∈ (nOf L (k : Int)).ins, AtOk L out A x := fun x hx => by have := hin x hx; exact hA x this.1 (by omega)
    have hl0 : L[k].lit = 0 := form_and (hf k hk hk) (.inl (e ▸ h3))
    exact {
      lt := fun c hc => by
        obtain ⟨x, hx, rfl⟩ := List.mem_map.1 hc
        exact ⟨(hat x hx).low, (hat x hx).high⟩
      v := by
        rw [orIns_map fun x hx => (hat x hx).v, vsOf_get hf hk, hl0, ofL_lit0, e]
      b := fun S => by
        rw [all_map fun x hx => (hat x hx).b S, bsOf_get S hf hk]
        rw [e] at h3 ⊢
        unfold bNode
        rw [if_neg (by omega), if_neg (by omega), if_pos h3]
      dec := fun hd => by
        rw [disj_map fun x hx => (hat x hx).v]
        unfold decomB at hd
        rw [List.all_eq_true] at hd
        have := hd L[k] (List.getElem_mem hk)
        rw [e] at h3 ⊢
        simpa [h3] using this
      heads := fun l hl => by
        unfold Go.Proofs.YtpdbfbjfodckgaaDoor.heads at hl
        rw [if_neg (by omega), if_pos h3, mem_litsOf] at hl
        obtain ⟨x, hx, x2, xl⟩ := hl
        rw [mem_litsOf]
        exact ⟨_, List.mem_map.2 ⟨x, hx, rfl⟩, (hat x hx).kind.trans x2, (hat x hx).lit.trans xl⟩ }
  · rw [if_neg h3]
    have ha := hA (k : Int) h0 h1
    exact {
      lt := fun c hc => by
        obtain rfl : c = iOf A (k : Int) := by simpa using hc
        exact ⟨ha.low, ha.high⟩
      v := by
        show (0 : VS) ||| sOf (vsOf out) (iOf A (k : Int)) = _
        rw [ha.v]
        refine ext_iff fun u => ?_
        rw [has_or, has_zero, Bool.false_or]
      b := fun S => by
        show (bOf (bsOf S out) (iOf A (k : Int)) && true) = _
        rw [ha.b S, Bool.and_true]
      dec := fun _ => by
        show (((0 : VS) &&& sOf (vsOf out) (iOf A (k : Int)) == 0) && true) = true
        rw [Bool.and_true, beq_iff_eq]
        refine ext_iff fun u => ?_
        rw [has_and, has_zero, Bool.false_and]
      heads := fun l hl => by
        unfold Go.Proofs.YtpdbfbjfodckgaaDoor.heads at hl
        by_cases h2 : (nOf L (k : Int)).kind = 2
        · rw [if_pos h2] at hl
          obtain rfl : l = (nOf L (k : Int)).lit := by simpa using hl
          rw [mem_litsOf]
          exact ⟨_, List.mem_singleton.2 rfl, ha.kind.trans h2, ha.lit⟩
        · rw [if_neg h2, if_neg h3] at hl
          cases hl }
theorem BaseOk.app {L out t : List NodeT} {old : Int} {base : List Int} (h : BaseOk L out old base) : BaseOk L (out ++ t) old base where
  lt := fun c hc => by have := h.lt c hc; simp only [List.length_append]; omega
  v := by rw [← h.v]; exact orIns_congr fun x hx => V_app (h.lt x hx).2
  b := fun S => by
    rw [← h.b S, Bool.eq_iff_iff, List.all_eq_true, List.all_eq_true]
    exact ⟨fun g k hk => (B_app (h.lt k hk).2).symm.trans (g k hk), fun g k hk => (B_app (h.lt k hk).2).trans (g k hk)⟩
  dec := fun hd => by rw [← h.dec hd]; exact disj_congr fun x hx => V_app (h.lt x hx).2
  heads := fun l hl => by rw [litsOf_congr fun x hx => nOf_app (h.lt x hx).2]; exact h.heads l hl
/-! ### the image of an input of a disjunction -/
structure Img (L out : List NodeT) (all : VS) (old m : Int) : Prop where
  low : 0 ≤ m
  high : m < (out.length : Int)
  b : ∀ S, bOf (bsOf S out) m = bOf (bsOf S L) old
  v : sOf (vsOf out) m = all
  heads : ∀ l ∈ heads L old, l ∈ heads out m
theorem Img.app {n : Int} {L out t : List NodeT} (hf : formedTo n out out.length) {all : VS} {old m : Int} (h : Img L out all old m) : Img L (out ++ t) all old m where
  low := h.low
  high := by have := h.high; simp only [List.length_append]; omega
  b := fun S => by rw [B_app h.high]; exact h.b S
  v := by rw [V_app h.high]; exact h.v
  heads := fun l hl => by rw [heads_app h.high fun k hk => (nOf_ins hf m k hk).2.2]; exact h.heads l hl
/-- The conjunction of a node and the choices that it lacks. -/
theorem and_ok {n : Int} (hn : n ≤ 128) {L out : List NodeT} (hO : AllOk n L out) {old : Int} {base cs : List Int} {all : VS} (hb : BaseOk L out old base)
    (hc : AllCh n out (mems (minus all (sOf (vsOf L) old))) cs) (hsub : ∀ u, has (sOf (vsOf L) old) u = true → has all u = true) :
    AllOk n L (out ++ [⟨3, 0, base ++ cs⟩]) ∧ Img L (out ++ [⟨3, 0, base ++ cs⟩]) all old (out.length : Int) := by
  have hf := hO.form
  have hlt : ∀ c ∈ base ++ cs, 0 ≤ c ∧ c < (out.length : Int) := fun c h => by
    rcases List.mem_append.1 h with h | h
    · exact hb.lt c h
    · exact hc.lt c h
  have hall : orIns (vsOf out) 0 (base ++ cs) = all := by
    rw [orIns_append, hb.v]
    refine ext_iff fun u => ?_
    rw [hc.V hn hf, mem_mems, has_minus]
    constructor
    · rintro (h | h)
      · exact hsub u h
      · simp only [Bool.and_eq_true] at h; exact h.1
    · intro h
      cases e : has (sOf (vsOf L) old) u with
      | true => exact .inl rfl
      | false => right; rw [h]; rfl
  have hnode : NodeOk n L out ⟨3, 0, base ++ cs⟩ := {
    form := by unfold formed; rw [badIn_no hlt]; rfl
    smooth := fun h => absurd h (show ¬ (3 : Int) = 4 by decide)
    dec := fun hd _ => by
      show disj (vsOf out) 0 (base ++ cs) = true
      rw [disj_append, hb.dec hd, hb.v, Bool.true_and]
      refine hc.disj hn hf (mems_sorted _) fun v hv => ?_
      rw [mem_mems, has_minus] at hv
      simp only [Bool.and_eq_true, Bool.not_eq_true'] at hv
      exact hv.2
    det := fun _ h => absurd h (show ¬ (3 : Int) = 4 by decide)
    dcn := fun _ h => absurd h (show ¬ (3 : Int) = 4 by decide) }
  refine ⟨hO.snoc hnode, by omega, by simp only [List.length_append, List.length_cons, List.length_nil]; omega, fun S => ?_, ?_, fun l hl => ?_⟩
  · rw [B_new]
    unfold bNode
    rw [if_neg (show ¬ (3 : Int) = 1 by decide), if_neg (show ¬ (3 : Int) = 2 by decide), if_pos rfl, List.all_append, hb.b S, hc.B hn hf S, Bool.and_true]
  · rw [V_new]
    unfold vsNode
    rw [ofL_lit0]; exact hall
  · unfold Go.Proofs.YtpdbfbjfodckgaaDoor.heads
    rw [nOf_new, if_neg (show ¬ (3 : Int) = 2 by decide), if_pos rfl]
    have hb' := hb.heads l hl
    rw [mem_litsOf] at hb' ⊢
    obtain ⟨k, hk, e1, e2⟩ := hb'
    refine ⟨k, List.mem_append_left _ hk, ?_⟩
    rw [nOf_app (hb.lt k hk).2]
    exact ⟨e1, e2⟩
inductive AllIm (L out : List NodeT) (all : VS) : List Int → List Int → Prop
  | nil : AllIm L out all [] []
  | cons {o m : Int} {l ms : List Int} : Img L out all o m → AllIm L out all l ms → AllIm L out all (o :: l) (m :: ms)
theorem AllIm.app {n : Int} {L out t : List NodeT} (hf : formedTo n out out.length) {all : VS} : ∀ {l ms : List Int}, AllIm L out all l ms → AllIm L (out ++ t) all l ms
  | _, _, .nil => .nil
  | _, _, .cons a b => .cons (a.app hf) (b.app hf)
theorem AllIm.mem {L out : List NodeT} {all : VS} : ∀ {l ms : List Int}, AllIm L out all l ms → ∀ m ∈ ms, ∃ o ∈ l, Img L out all o m
  | _, _, .nil, m, h => by simp at h
  | _, _, .cons a b, m, h => by
    rcases List.mem_cons.1 h with rfl | h
    · exact ⟨_, List.mem_cons_self, a⟩
    · obtain ⟨o, ho, i⟩ := b.mem m h
      exact ⟨o, List.mem_cons_of_mem _ ho, i⟩
theorem AllIm.length {L out : List NodeT} {all : VS} : ∀ {l ms : List Int}, AllIm L out all l ms → ms.length = l.length
  | _, _, .nil => rfl
  | _, _, .cons _ b => by rw [List.length_cons, List.length_cons, b.length]
theorem AllIm.any {L out : List NodeT} {all : VS} (S : Int → Bool) : ∀ {l ms : List Int}, AllIm L out all l ms → ms.any (bOf (bsOf S out)) = l.any (bOf (bsOf S L))
  | _, _, .nil => rfl
  | _, _, .cons a b => by rw [List.any_cons, List.any_cons, a.b S, b.any S]
theorem AllIm.bdisj {L out : List NodeT} {all : VS} (S : Int → Bool) : ∀ {l ms : List Int} {s : Bool}, AllIm L out all l ms → bdisj (bsOf S out) s ms = bdisj (bsOf S L) s l
  | _, _, _, .nil => rfl
  | o :: l, m :: ms, s, .cons a b => by
    show (!(s && bOf (bsOf S out) m) && Go.Proofs.YtpdbfbjfodckgaaDoor.bdisj (bsOf S out) (s || bOf (bsOf S out) m) ms) = (!(s && bOf (bsOf S L) o) && Go.Proofs.YtpdbfbjfodckgaaDoor.bdisj (bsOf S L) (s || bOf (bsOf S L) o) l)
    rw [a.b S, b.bdisj S]
/-! ### a step -/
structure Inv (n : Int) (L out : List NodeT) (ch : Int → Option Int) (A : List Int) : Prop where
  ok : AllOk n L out
  chs : ChOk n out ch
  ats : Ats L out A
theorem stepO_or {n : Int} (hn : n ≤ 128) {L : List NodeT} (hf : formedTo n L L.length) {A : List Int} (hAl : A.length ≤ L.length) {all : VS} (hall : ∀ u, has all u = true → u ≤ n) {s : FS} (h : Inv n L s.out s.ch A)
    {old : Int} (h0 : 0 ≤ old) (h1 : old < (A.length : Int)) (hsub : ∀ u, has (sOf (vsOf L) old) u = true → has all u = true) :
    Inv n L (stepO L (vsOf L) A true all s old).out (stepO L (vsOf L) A true all s old).ch A ∧ ∃ m, (stepO L (vsOf L) A true all s old).inn = s.inn ++ [m] ∧ Img L (stepO L (vsOf L) A true all s old).out all old m := by
  unfold stepO
  by_cases e : sOf (vsOf L) old = all
  · rw [if_neg (by simp [e])]
    have ha := h.ats old h0 h1
    refine ⟨h, _, rfl, ha.low, ha.high, ha.b, ha.v.trans e, fun l hl => ?_⟩
    unfold heads at hl ⊢
    rw [ha.kind, ha.lit]
    split at hl
    · rename_i h2; rw [if_pos h2]; exact hl
    · rename_i h2
      rw [if_neg h2]
      split at hl
      · rename_i h3
        rw [if_pos h3, ha.ins h3]
        rw [mem_litsOf] at hl ⊢
        obtain ⟨k, hk, e1, e2⟩ := hl
        have hk2 := nOf_ins hf old k hk
        have hb := h.ats k hk2.1 (by omega)
        exact ⟨_, List.mem_map.2 ⟨k, hk, rfl⟩, hb.kind.trans e1, hb.lit.trans e2⟩
      · cases hl
  · rw [if_pos ⟨rfl, e⟩]
    unfold fillO
    obtain ⟨k1, k2, cs, k3, k4⟩ := fillV_ok hn (L := L) (mems (minus all (sOf (vsOf L) old))) ⟨s.out, s.ch, inn0 L A old⟩ h.ok h.chs (fun v hv => by
      rw [mem_mems, has_minus] at hv
      simp only [Bool.and_eq_true] at hv
      exact ⟨(has_range hv.1).1, hall v hv.1⟩)
    obtain ⟨t, ht⟩ := fillV_out (mems (minus all (sOf (vsOf L) old))) ⟨s.out, s.ch, inn0 L A old⟩
    have hats : Ats L (fillV ⟨s.out, s.ch, inn0 L A old⟩ (mems (minus all (sOf (vsOf L) old)))).out A := by rw [ht]; exact h.ats.app
    have hb := base_ok hf hats hAl h0 h1
    obtain ⟨q1, q2⟩ := and_ok hn k1 hb k4 hsub
    simp only [] at k3
    rw [k3]
    exact ⟨⟨q1, k2.app, hats.app⟩, _, rfl, q2⟩
theorem insO_or {n : Int} (hn : n ≤ 128) {L : List NodeT} (hf : formedTo n L L.length) {A : List Int} (hAl : A.length ≤ L.length) {all : VS} (hall : ∀ u, has all u = true → u ≤ n) :
    ∀ (l : List Int) (s : FS), Inv n L s.out s.ch A → (∀ old ∈ l, 0 ≤ old ∧ old < (A.length : Int) ∧ ∀ u, has (sOf (vsOf L) old) u = true → has all u = true) →
    Inv n L (insO L (vsOf L) A true all s l).out (insO L (vsOf L) A true all s l).ch A ∧ ∃ ms, (insO L (vsOf L) A true all s l).inn = s.inn ++ ms ∧ AllIm L (insO L (vsOf L) A true all s l).out all l ms
  | [], s, h, _ => ⟨h, [], (List.append_nil _).symm, .nil⟩
  | o :: l, s, h, hl => by
    obtain ⟨r0, r1, r2⟩ := hl o List.mem_cons_self
    obtain ⟨a1, m, a2, a3⟩ := stepO_or hn hf hAl hall h r0 r1 r2
    obtain ⟨b1, ms, b2, b3⟩ := insO_or hn hf hAl hall l (stepO L (vsOf L) A true all s o) a1 fun x hx => hl x (List.mem_cons_of_mem _ hx)
    refine ⟨b1, m :: ms, ?_, ?_⟩
    · show (insO L (vsOf L) A true all (stepO L (vsOf L) A true all s o) l).inn = _
      rw [b2, a2, List.append_assoc]; rfl
    · obtain ⟨t, ht⟩ := insO_out L (vsOf L) A true all l (stepO L (vsOf L) A true all s o)
      have : Img L (insO L (vsOf L) A true all (stepO L (vsOf L) A true all s o) l).out all o m := by rw [ht]; exact a3.app a1.ok.form
      exact .cons this b3
theorem insO_no (L : List NodeT) (A : List Int) (all : VS) : ∀ (l : List Int) (s : FS), insO L (vsOf L) A false all s l = ⟨s.out, s.ch, s.inn ++ l.map (iOf A)⟩
  | [], s => by show s = _; simp
  | o :: l, s => by
    show insO L (vsOf L) A false all (stepO L (vsOf L) A false all s o) l = _
    rw [insO_no L A all l]
    unfold stepO
    rw [if_neg (by simp)]
    simp
end Go.Proofs.YtpdbfbjfodckgaaDoor
namespace Go.Proofs.YtpdbfbjfodckgaaDoor

theorem opp_mono {a b a' b' : List Int} (h : opp a b = true) (ha : ∀ l ∈ a, l ∈ a') (hb : ∀ l ∈ b, l ∈ b') : opp a' b' = true := by
  unfold opp at h ⊢
  rw [List.any_eq_true] at h ⊢
  obtain ⟨l, hl, hc⟩ := h
  have hc' : -l ∈ a := by simpa using hc
  exact ⟨l, hb l hl, by simpa using ha _ hc'⟩
theorem vars_le {n : Int} {L : List NodeT} (hf : formedTo n L L.length) : ∀ (k : Nat), k < L.length → ∀ u, has (sOf (vsOf L) (k : Int)) u = true → u ≤ n := by
  intro k
  induction k using Nat.strongRecOn with
  | _ k ih =>
    intro hk u hu
    rw [vsOf_get hf hk, has_orIns] at hu
    rcases hu with h | ⟨j, hj, h⟩
    · rw [has_ofL] at h
      simp only [Bool.and_eq_true, decide_eq_true_eq, List.mem_cons, List.not_mem_nil, or_false] at h
      obtain ⟨⟨rfl, h1⟩, h2⟩ := h
      have hfk : formed L[k] n k = true := hf k hk hk
      unfold formed at hfk
      split at hfk
      · cases hfk
      · by_cases k01 : L[k].kind = 0 ∨ L[k].kind = 1
        · rw [if_pos k01] at hfk
          simp only [Bool.and_eq_true, decide_eq_true_eq] at hfk
          rw [hfk.1, show litVar 0 = 0 from rfl] at h1; omega
        · rw [if_neg k01] at hfk
          by_cases k2 : L[k].kind = 2
          · rw [if_pos k2] at hfk
            simp only [litValid, Bool.and_eq_true, decide_eq_true_eq] at hfk
            exact hfk.1.2
          · rw [if_neg k2] at hfk
            by_cases k34 : L[k].kind = 3 ∨ L[k].kind = 4
            · rw [if_pos k34, decide_eq_true_eq] at hfk
              rw [hfk, show litVar 0 = 0 from rfl] at h1; omega
            · rw [if_neg k34] at hfk; cases hfk
    · have hj2 := ins_lt hf hk j hj
      obtain ⟨m, rfl⟩ : ∃ m : Nat, j = (m : Int) := ⟨j.toNat, by omega⟩
      exact ih m (by omega) (by omega) u h
theorem iOf_new (A : List Int) (m : Int) : iOf (A ++ [m]) (A.length : Int) = m := by
  rw [iOf_nat _ _ (by simp)]; simp
theorem formed_map {n a b : Int} {x : NodeT} {l : List Int} (h : formed x n a = true) (hl : l.length = x.ins.length) (hr : ∀ k ∈ l, 0 ≤ k ∧ k < b) : formed ⟨x.kind, x.lit, l⟩ n b = true := by
  have hnil : (l = []) ↔ (x.ins = []) := by rw [← List.length_eq_zero_iff, ← List.length_eq_zero_iff, hl]
  unfold formed at h ⊢
  rw [badIn_no hr]
  split at h
  · cases h
  · simp only [Bool.false_eq_true, if_false, hnil]
    exact h
theorem ats_new {n : Int} {L : List NodeT} (hf : formedTo n L L.length) {out out' : List NodeT} {A : List Int} (hA : Ats L out A) {t : List NodeT} (ht : out' = out ++ t) {m : Int} (hm : AtOk L out' (A ++ [m]) (A.length : Int)) : Ats L out' (A ++ [m]) := by
  intro old h0 h1
  by_cases e : old = (A.length : Int)
  · subst e; exact hm
  · have h2 : old < (A.length : Int) := by simp only [List.length_append, List.length_cons, List.length_nil] at h1; omega
    have := (hA old h0 h2).app (t := t)
    rw [← ht] at this
    exact this.snoc hf h2
theorem stepN_ok {n : Int} (hn : n ≤ 128) {L : List NodeT} (hf : formedTo n L L.length) {s : SM} (h : Inv n L s.out s.ch s.at_) (hk : s.at_.length < L.length) :
    Inv n L (stepN L (vsOf L) s L[s.at_.length]).out (stepN L (vsOf L) s L[s.at_.length]).ch (stepN L (vsOf L) s L[s.at_.length]).at_ ∧
    iOf (stepN L (vsOf L) s L[s.at_.length]).at_ (s.at_.length : Int) = ((stepN L (vsOf L) s L[s.at_.length]).out.length : Int) - 1 := by
  obtain ⟨out, ch, A⟩ := s
  simp only at h hk ⊢
  have hfk : formed L[A.length] n (A.length : Int) = true := hf A.length hk hk
  have hin := form_ins hfk
  have hVk := vsOf_get hf hk
  have hBk := fun S => bsOf_get S hf hk
  have hnk : nOf L (A.length : Int) = L[A.length] := nOf_nat L _ hk
  by_cases h4 : L[A.length].kind = 4
  · have hlit := form_and hfk (.inr h4)
    have hsub : ∀ old ∈ L[A.length].ins, 0 ≤ old ∧ old < (A.length : Int) ∧ ∀ u, has (sOf (vsOf L) old) u = true → has (sOf (vsOf L) (A.length : Int)) u = true := fun old ho => by
      have := hin old ho
      refine ⟨this.1, this.2, fun u hu => ?_⟩
      rw [hVk, has_orIns]
      exact .inr ⟨old, ho, hu⟩
    obtain ⟨a1, ms, a2, a3⟩ := insO_or hn hf (by omega) (vars_le hf A.length hk) L[A.length].ins ⟨out, ch, []⟩ h hsub
    obtain ⟨t, ht⟩ := insO_out L (vsOf L) A true (sOf (vsOf L) (A.length : Int)) L[A.length].ins ⟨out, ch, []⟩
    simp only [List.nil_append] at a2
    unfold stepN
    simp only [h4, beq_self_eq_true]
    rw [a2, hlit]
    generalize insO L (vsOf L) A true (sOf (vsOf L) (A.length : Int)) ⟨out, ch, []⟩ L[A.length].ins = r at *
    have hlt : ∀ m ∈ ms, 0 ≤ m ∧ m < (r.out.length : Int) := fun m hm => by
      obtain ⟨o, _, i⟩ := a3.mem m hm
      exact ⟨i.low, i.high⟩
    have hV : vsNode (vsOf r.out) ⟨4, 0, ms⟩ = sOf (vsOf L) (A.length : Int) := by
      refine ext_iff fun u => ?_
      unfold vsNode
      rw [has_orIns, ofL_lit0, has_zero, hVk, has_orIns, hlit, ofL_lit0, has_zero]
      constructor
      · rintro (h | ⟨m, hm, hu⟩)
        · cases h
        · obtain ⟨o, _, i⟩ := a3.mem m hm
          rw [i.v, hVk, has_orIns, hlit, ofL_lit0, has_zero] at hu
          exact hu
      · rintro (h | ⟨o, ho, hu⟩)
        · cases h
        · right
          cases ms with
          | nil =>
            have := a3.length
            have : L[A.length].ins = [] := List.eq_nil_of_length_eq_zero (by simpa using this.symm)
            rw [this] at ho; cases ho
          | cons m ms =>
            obtain ⟨o', _, i⟩ := a3.mem m List.mem_cons_self
            refine ⟨m, List.mem_cons_self, ?_⟩
            rw [i.v]
            exact (hsub o ho).2.2 u hu
    have hnode : NodeOk n L r.out ⟨4, 0, ms⟩ := {
      form := by unfold formed; rw [badIn_no hlt]; rfl
      smooth := fun _ k hk => by
        obtain ⟨o, _, i⟩ := a3.mem k hk
        rw [i.v, hV]
      dec := fun _ h => absurd h (show ¬ (4 : Int) = 3 by decide)
      det := fun hd _ S => by
        show bdisj (bsOf S r.out) false ms = true
        rw [a3.bdisj S]
        have := hd S
        unfold orOk at this
        rw [List.all_eq_true] at this
        have := this L[A.length] (List.getElem_mem hk)
        simpa [h4] using this
      dcn := fun hd _ => by
        unfold decideB at hd
        rw [List.all_eq_true] at hd
        have := hd L[A.length] (List.getElem_mem hk)
        rw [h4] at this
        simp only [bne_self_eq_false, Bool.false_or, Bool.and_eq_true, beq_iff_eq] at this
        obtain ⟨g1, g2⟩ := this
        refine ⟨a3.length.trans g1, ?_⟩
        revert a3 g1 g2
        generalize L[A.length].ins = il
        intro a3 g1 g2
        match il, ms, a3, g1, g2 with
        | [o0, o1], [m0, m1], .cons i0 (.cons i1 .nil), _, g2 => exact opp_mono g2 i0.heads i1.heads }
    refine ⟨⟨a1.ok.snoc hnode, a1.chs.app, ?_⟩, ?_⟩
    · refine ats_new hf h.ats (t := t ++ [⟨4, 0, ms⟩]) (by rw [ht]; simp) ?_
      exact {
        low := by rw [iOf_new]; omega
        high := by rw [iOf_new]; simp only [List.length_append, List.length_cons, List.length_nil]; omega
        kind := by rw [iOf_new, nOf_new, hnk, h4]
        lit := by rw [iOf_new, nOf_new, hnk, hlit]
        ins := fun e => by rw [hnk, h4] at e; exact absurd e (by decide)
        v := by rw [iOf_new, V_new, hV]
        b := fun S => by
          rw [iOf_new, B_new, hBk S]
          unfold bNode
          simp only [h4, show ¬ (4 : Int) = 1 by decide, show ¬ (4 : Int) = 2 by decide, show ¬ (4 : Int) = 3 by decide, if_false, if_true]
          exact a3.any S }
    · rw [iOf_new]; simp only [List.length_append, List.length_cons, List.length_nil]; omega
  · have e4 : (L[A.length].kind == 4) = false := by simpa using h4
    unfold stepN
    simp only [e4, insO_no, List.nil_append]
    have hat : ∀ x ∈ L[A.length].ins, AtOk L out A x := fun x hx => by have := hin x hx; exact h.ats x this.1 this.2
    have hlt : ∀ m ∈ L[A.length].ins.map (iOf A), 0 ≤ m ∧ m < (out.length : Int) := fun m hm => by
      obtain ⟨x, hx, rfl⟩ := List.mem_map.1 hm
      exact ⟨(hat x hx).low, (hat x hx).high⟩
    have hnode : NodeOk n L out ⟨L[A.length].kind, L[A.length].lit, L[A.length].ins.map (iOf A)⟩ := {
      form := formed_map hfk (by simp) hlt
      smooth := fun e => absurd e h4
      dec := fun hd e => by
        show disj (vsOf out) 0 (L[A.length].ins.map (iOf A)) = true
        rw [disj_map fun x hx => (hat x hx).v]
        unfold decomB at hd
        rw [List.all_eq_true] at hd
        have := hd L[A.length] (List.getElem_mem hk)
        have e' : L[A.length].kind = 3 := e
        simpa [e'] using this
      det := fun _ e => absurd e h4
      dcn := fun _ e => absurd e h4 }
    refine ⟨⟨h.ok.snoc hnode, h.chs.app, ?_⟩, ?_⟩
    · refine ats_new hf h.ats rfl ?_
      exact {
        low := by rw [iOf_new]; omega
        high := by rw [iOf_new]; simp only [List.length_append, List.length_cons, List.length_nil]; omega
        kind := by rw [iOf_new, nOf_new, hnk]
        lit := by rw [iOf_new, nOf_new, hnk]
        ins := fun _ => by
          rw [iOf_new, nOf_new, hnk]
          refine List.map_congr_left fun x hx => ?_
          exact (iOf_append _ _ _ (hin x hx).2).symm
        v := by
          rw [iOf_new, V_new, hVk]
          unfold vsNode
          exact orIns_map fun x hx => (hat x hx).v
        b := fun S => by
          rw [iOf_new, B_new, hBk S]
          unfold bNode
          simp only [h4, if_false]
          rw [all_map fun x hx => (hat x hx).b S] }
    · rw [iOf_new]; simp only [List.length_append, List.length_cons, List.length_nil]; omega
theorem smF_ok {n : Int} (hn : n ≤ 128) {L : List NodeT} (hf : formedTo n L L.length) : ∀ k, k ≤ L.length → Inv n L (smF L (vsOf L) (L.take k)).out (smF L (vsOf L) (L.take k)).ch (smF L (vsOf L) (L.take k)).at_
  | 0, _ => ⟨AllOk.nil n L, fun v c e => by (have e' : (none : Option Int) = some c := e; cases e'), fun old h0 h1 => by (have h2 : old < ((0 : Nat) : Int) := h1; omega)⟩
  | k + 1, h => by
    have ih := smF_ok hn hf k (by omega)
    have hl := smF_at L (vsOf L) k (by omega)
    rw [smF_take L (vsOf L) k (by omega)]
    have := (stepN_ok hn hf ih (by omega)).1
    simp only [hl] at this
    exact this
theorem smT_inv {n : Int} (hn : n ≤ 128) {L : List NodeT} (hf : formedTo n L L.length) : Inv n L (smT L) (smF L (vsOf L) L).ch (smF L (vsOf L) L).at_ := by
  have := smF_ok hn hf L.length (Nat.le_refl _)
  rw [List.take_length] at this
  exact this
theorem smT_last {n : Int} (hn : n ≤ 128) {L : List NodeT} (hf : formedTo n L L.length) (h0 : 0 < L.length) : iOf (smF L (vsOf L) L).at_ ((L.length : Int) - 1) = ((smT L).length : Int) - 1 := by
  have hl := smF_at L (vsOf L) (L.length - 1) (by omega)
  have ih := smF_ok hn hf (L.length - 1) (by omega)
  have := (stepN_ok hn hf ih (by omega)).2
  simp only [hl] at this
  rw [← smF_take L (vsOf L) (L.length - 1) (by omega), show L.length - 1 + 1 = L.length by omega, List.take_length, show ((L.length - 1 : Nat) : Int) = (L.length : Int) - 1 by omega] at this
  exact this
theorem smT_valid {n : Int} {L : List NodeT} (hv : validNet ⟨n, L⟩ = true) (hl : (smT L).length ≤ 65536) : validNet ⟨n, smT L⟩ = true := by
  obtain ⟨⟨r1, r2, r3, r4⟩, hf⟩ := (validNet_iff _).1 hv
  simp only at r1 r2 r3 r4 hf
  have hi := smT_inv r2 hf
  refine (validNet_iff _).2 ⟨⟨r1, r2, ?_, hl⟩, hi.ok.form⟩
  have hal : (smF L (vsOf L) L).at_.length = L.length := by
    have := smF_at L (vsOf L) L.length (Nat.le_refl _)
    rwa [List.take_length] at this
  have := hi.ats 0 (by omega) (by omega)
  have h1 := this.low
  have h2 := this.high
  show 1 ≤ (smT L).length
  omega
theorem V_take {out : List NodeT} {i : Nat} {k : Int} (hi : i ≤ out.length) (hk : k < (i : Int)) : sOf (vsOf out) k = sOf (vsOf (out.take i)) k := by
  have := V_app (L := out.take i) (t := out.drop i) (i := k) (by rw [List.length_take]; omega)
  rwa [List.take_append_drop] at this
theorem B_take {S : Int → Bool} {out : List NodeT} {i : Nat} {k : Int} (hi : i ≤ out.length) (hk : k < (i : Int)) : bOf (bsOf S out) k = bOf (bsOf S (out.take i)) k := by
  have := B_app (A := S) (L := out.take i) (t := out.drop i) (i := k) (by rw [List.length_take]; omega)
  rwa [List.take_append_drop] at this
theorem AllOk.smoothB {n : Int} {L out : List NodeT} (h : AllOk n L out) : smoothB out = true := by
  unfold Go.Proofs.YtpdbfbjfodckgaaDoor.smoothB
  rw [List.all_eq_true]
  intro i hi
  rw [List.mem_range] at hi
  rw [List.getD_eq_getElem?_getD, List.getElem?_eq_getElem hi, Option.getD_some]
  by_cases h4 : out[i].kind = 4
  · have hok := h i hi
    rw [Bool.or_eq_true]
    right
    rw [List.all_eq_true]
    intro k hk
    have hr := form_ins hok.form k hk
    rw [List.length_take, Nat.min_eq_left (by omega)] at hr
    rw [beq_iff_eq, V_take (i := i) (by omega) hr.2, hok.smooth h4 k hk]
    have := V_new (out.take i) out[i]
    rw [List.length_take, Nat.min_eq_left (by omega), ← List.take_succ_eq_append_getElem hi] at this
    rw [← this]
    exact (V_take (by omega) (by omega)).symm
  · simp [h4]
theorem smT_smooth {n : Int} {L : List NodeT} (hv : validNet ⟨n, L⟩ = true) : smoothB (smT L) = true := by
  obtain ⟨⟨r1, r2, r3, r4⟩, hf⟩ := (validNet_iff _).1 hv
  exact (smT_inv r2 hf).ok.smoothB
theorem smT_dec {n : Int} {L : List NodeT} (hv : validNet ⟨n, L⟩ = true) (hd : decomB L = true) : decomB (smT L) = true := by
  obtain ⟨⟨r1, r2, r3, r4⟩, hf⟩ := (validNet_iff _).1 hv
  simp only at r1 r2 r3 r4 hf
  have hi := smT_inv r2 hf
  unfold decomB
  rw [List.all_eq_true]
  intro x hx
  obtain ⟨i, hl, rfl⟩ := List.getElem_of_mem hx
  by_cases h3 : (smT L)[i].kind = 3
  · have hok := hi.ok i hl
    have := hok.dec hd h3
    rw [disj_congr fun k hk => (V_take (out := smT L) (i := i) (k := k) (by omega) (by
      have hr := form_ins hok.form k hk
      rw [List.length_take, Nat.min_eq_left (by omega)] at hr; exact hr.2)).symm] at this
    rw [this]; simp
  · simp [h3]
theorem bdisj_congr {M N : List Bool} : ∀ {l : List Int} {s : Bool}, (∀ x ∈ l, bOf M x = bOf N x) → bdisj M s l = bdisj N s l
  | [], _, _ => rfl
  | x :: l, s, h => by
    show (!(s && bOf M x) && bdisj M (s || bOf M x) l) = (!(s && bOf N x) && bdisj N (s || bOf N x) l)
    rw [h x List.mem_cons_self, bdisj_congr fun y hy => h y (List.mem_cons_of_mem _ hy)]
theorem smT_det {n : Int} {L : List NodeT} (hv : validNet ⟨n, L⟩ = true) (hd : ∀ S, orOk S L = true) (S : Int → Bool) : orOk S (smT L) = true := by
  obtain ⟨⟨r1, r2, r3, r4⟩, hf⟩ := (validNet_iff _).1 hv
  simp only at r1 r2 r3 r4 hf
  have hi := smT_inv r2 hf
  unfold orOk
  rw [List.all_eq_true]
  intro x hx
  obtain ⟨i, hl, rfl⟩ := List.getElem_of_mem hx
  by_cases h4 : (smT L)[i].kind = 4
  · have hok := hi.ok i hl
    have := hok.det hd h4 S
    rw [bdisj_congr fun k hk => (B_take (S := S) (out := smT L) (i := i) (k := k) (by omega) (by
      have hr := form_ins hok.form k hk
      rw [List.length_take, Nat.min_eq_left (by omega)] at hr; exact hr.2)).symm] at this
    rw [this]; simp
  · simp [h4]
theorem smT_dcn {n : Int} {L : List NodeT} (hv : validNet ⟨n, L⟩ = true) (hd : decideB L = true) : decideB (smT L) = true := by
  obtain ⟨⟨r1, r2, r3, r4⟩, hf⟩ := (validNet_iff _).1 hv
  simp only at r1 r2 r3 r4 hf
  have hi := smT_inv r2 hf
  unfold decideB
  rw [List.all_eq_true]
  intro x hx
  obtain ⟨i, hl, rfl⟩ := List.getElem_of_mem hx
  by_cases h4 : (smT L)[i].kind = 4
  · have hok := hi.ok i hl
    obtain ⟨g1, g2⟩ := hok.dcn hd h4
    have hft : formedTo n ((smT L).take i) ((smT L).take i).length := fun j hj _ => by
      have := hi.ok.form j (by rw [List.length_take] at hj; omega) (by rw [List.length_take] at hj; omega)
      rwa [List.getElem_take]
    have key : ∀ k ∈ (smT L)[i].ins, heads ((smT L).take i) k = heads (smT L) k := fun k hk => by
      have hr := form_ins hok.form k hk
      have := heads_app (L := (smT L).take i) (t := (smT L).drop i) (i := k) hr.2 fun j hj => (nOf_ins hft k j hj).2.2
      rw [List.take_append_drop] at this
      exact this.symm
    rw [Bool.or_eq_true]
    right
    rw [Bool.and_eq_true, beq_iff_eq]
    refine ⟨g1, ?_⟩
    revert g2 key g1
    generalize (smT L)[i].ins = il
    intro g1 g2 key
    match il, g1, g2, key with
    | [a, b], _, g2, key =>
      simp only [List.getD_cons_zero, List.getD_cons_succ] at g2 ⊢
      rw [key a (by simp), key b (by simp)] at g2
      exact g2
  · simp [h4]
/-! ### a smooth net is its own smooth form -/
theorem insO_same (L : List NodeT) (A : List Int) (or : Bool) (all : VS) : ∀ (l : List Int) (s : FS), (or = true → ∀ old ∈ l, sOf (vsOf L) old = all) → insO L (vsOf L) A or all s l = ⟨s.out, s.ch, s.inn ++ l.map (iOf A)⟩
  | [], s, _ => by show s = _; simp
  | o :: l, s, h => by
    show insO L (vsOf L) A or all (stepO L (vsOf L) A or all s o) l = _
    rw [insO_same L A or all l _ fun e x hx => h e x (List.mem_cons_of_mem _ hx)]
    unfold stepO
    rw [if_neg (fun e => e.2 (h e.1 o List.mem_cons_self))]
    simp
theorem smT_id {n : Int} {L : List NodeT} (hv : validNet ⟨n, L⟩ = true) (hs : smoothB L = true) : smT L = L := by
  obtain ⟨⟨r1, r2, r3, r4⟩, hf⟩ := (validNet_iff _).1 hv
  simp only at hf
  have key : ∀ k, k ≤ L.length → (smF L (vsOf L) (L.take k)).out = L.take k ∧ ∀ j : Int, 0 ≤ j → j < (k : Int) → iOf (smF L (vsOf L) (L.take k)).at_ j = j := by
    intro k
    induction k with
    | zero => intro _; exact ⟨rfl, fun j h0 h1 => by omega⟩
    | succ k ih =>
      intro hk
      obtain ⟨e1, e2⟩ := ih (by omega)
      have hl := smF_at L (vsOf L) k (by omega)
      rw [smF_take L (vsOf L) k (by omega)]
      unfold stepN
      simp only
      rw [insO_same _ _ _ _ _ _ (by
        intro e old ho
        unfold smoothB at hs
        rw [List.all_eq_true] at hs
        have := hs k (List.mem_range.2 (by omega))
        rw [List.getD_eq_getElem?_getD, List.getElem?_eq_getElem (by omega), Option.getD_some] at this
        rw [beq_iff_eq] at e
        rw [e] at this
        simp only [bne_self_eq_false, Bool.false_or, List.all_eq_true, beq_iff_eq] at this
        rw [hl]
        exact this old ho)]
      simp only [List.nil_append]
      have hm : L[k].ins.map (iOf (smF L (vsOf L) (L.take k)).at_) = L[k].ins := by
        conv => rhs; rw [← List.map_id L[k].ins]
        refine List.map_congr_left fun x hx => ?_
        have := ins_lt hf (show k < L.length by omega) x hx
        exact e2 x this.1 this.2
      rw [hm, e1]
      refine ⟨(List.take_succ_eq_append_getElem (by omega)).symm, fun j h0 h1 => ?_⟩
      by_cases e : j < (k : Int)
      · rw [iOf_append _ _ _ (by rw [hl]; exact e)]; exact e2 j h0 e
      · obtain rfl : j = ((smF L (vsOf L) (L.take k)).at_.length : Int) := by rw [hl]; omega
        rw [iOf_new, hl, List.length_take, Nat.min_eq_left (by omega)]
  have := (key L.length (Nat.le_refl _)).1
  rwa [List.take_length] at this
end Go.Proofs.YtpdbfbjfodckgaaDoor
namespace Go.Proofs.YtpdbfbjfodckgaaDoor

def cntCh (ch : Int → Option Int) : Nat := (List.range 128).countP fun i : Nat => (ch ((i : Int) + 1)).isSome
theorem cntCh_le (ch : Int → Option Int) : cntCh ch ≤ 128 := by
  have := List.countP_le_length (p := fun i : Nat => (ch ((i : Int) + 1)).isSome) (l := List.range 128)
  rw [List.length_range] at this
  exact this
theorem countP_mono' {p q : Nat → Bool} : ∀ {l : List Nat}, (∀ i, p i = true → q i = true) → l.countP p ≤ l.countP q
  | [], _ => Nat.le_refl _
  | x :: l, h => by
    rw [List.countP_cons, List.countP_cons]
    have := countP_mono' (l := l) h
    have hx := h x
    cases hp : p x <;> cases hq : q x <;> simp_all <;> omega
theorem countP_step {p q : Nat → Bool} {x : Nat} (hp : p x = false) (hq : q x = true) : ∀ {l : List Nat}, x ∈ l → (∀ i, p i = true → q i = true) → l.countP p + 1 ≤ l.countP q
  | [], hx, _ => by simp at hx
  | y :: l, hx, h => by
    rw [List.countP_cons, List.countP_cons]
    by_cases e : x = y
    · subst e
      have := countP_mono' (l := l) h
      rw [hp, hq]
      simp only [Bool.false_eq_true, if_false, if_true]; omega
    · have := countP_step hp hq (l := l) (by simpa [e] using hx) h
      have hy := h y
      cases hpy : p y <;> cases hqy : q y <;> simp_all <;> omega
theorem stepV_len {s : FS} {v : Int} (h1 : 1 ≤ v) (h2 : v ≤ 128) : (stepV s v).out.length + 3 * cntCh s.ch ≤ s.out.length + 3 * cntCh (stepV s v).ch := by
  cases e : s.ch v with
  | some c =>
    have : stepV s v = ⟨s.out, s.ch, s.inn ++ [c]⟩ := by unfold stepV; rw [e]
    rw [this]; exact Nat.le_refl _
  | none =>
    have : stepV s v = ⟨s.out ++ choice v s.out.length, fun u => if u = v then some ((s.out.length : Int) + 2) else s.ch u, s.inn ++ [(s.out.length : Int) + 2]⟩ := by unfold stepV; rw [e]
    rw [this]
    have hc : cntCh s.ch + 1 ≤ cntCh (fun u => if u = v then some ((s.out.length : Int) + 2) else s.ch u) := by
      unfold cntCh
      refine countP_step (x := (v - 1).toNat) ?_ ?_ (List.mem_range.2 (by omega)) fun i hi => ?_
      · rw [show (((v - 1).toNat : Nat) : Int) + 1 = v by omega, e]; rfl
      · rw [show (((v - 1).toNat : Nat) : Int) + 1 = v by omega]; simp
      · by_cases ei : (i : Int) + 1 = v
        · simp [ei]
        · simp only [if_neg ei]; exact hi
    simp only [List.length_append]
    have : (choice v s.out.length).length = 3 := rfl
    omega
theorem fillV_len : ∀ (l : List Int) (s : FS), (∀ v ∈ l, 1 ≤ v ∧ v ≤ 128) → (fillV s l).out.length + 3 * cntCh s.ch ≤ s.out.length + 3 * cntCh (fillV s l).ch
  | [], s, _ => Nat.le_refl _
  | v :: l, s, h => by
    have h1 := stepV_len (s := s) (h v List.mem_cons_self).1 (h v List.mem_cons_self).2
    have h2 := fillV_len l (stepV s v) fun u hu => h u (List.mem_cons_of_mem _ hu)
    show (fillV (stepV s v) l).out.length + 3 * cntCh s.ch ≤ s.out.length + 3 * cntCh (fillV (stepV s v) l).ch
    omega
theorem stepO_len (L : List NodeT) (M : List VS) (A : List Int) (or : Bool) (all : VS) (s : FS) (old : Int) :
    (stepO L M A or all s old).out.length + 3 * cntCh s.ch ≤ s.out.length + 3 * cntCh (stepO L M A or all s old).ch + 1 := by
  unfold stepO
  split
  · have := fillV_len (mems (minus all (sOf M old))) ⟨s.out, s.ch, inn0 L A old⟩ fun v hv => has_range ((mem_mems _ _).1 hv)
    unfold fillO
    simp only [List.length_append, List.length_cons, List.length_nil] at this ⊢
    omega
  · simp only []; omega
theorem insO_len (L : List NodeT) (M : List VS) (A : List Int) (or : Bool) (all : VS) : ∀ (l : List Int) (s : FS), (insO L M A or all s l).out.length + 3 * cntCh s.ch ≤ s.out.length + 3 * cntCh (insO L M A or all s l).ch + l.length
  | [], s => Nat.le_refl _
  | o :: l, s => by
    have h1 := stepO_len L M A or all s o
    have h2 := insO_len L M A or all l (stepO L M A or all s o)
    show (insO L M A or all (stepO L M A or all s o) l).out.length + 3 * cntCh s.ch ≤ s.out.length + 3 * cntCh (insO L M A or all (stepO L M A or all s o) l).ch + (l.length + 1)
    omega
theorem smF_len (L : List NodeT) (M : List VS) {m : Nat} (h : ∀ x ∈ L, x.ins.length ≤ m) : ∀ k, k ≤ L.length → (smF L M (L.take k)).out.length ≤ 3 * cntCh (smF L M (L.take k)).ch + k * (m + 1)
  | 0, _ => by show 0 ≤ _; omega
  | k + 1, hk => by
    have ih := smF_len L M h k (by omega)
    rw [smF_take L M k (by omega)]
    have h1 := insO_len L M (smF L M (L.take k)).at_ (L[k].kind == 4) (sOf M ((smF L M (L.take k)).at_.length : Int)) L[k].ins ⟨(smF L M (L.take k)).out, (smF L M (L.take k)).ch, []⟩
    have h2 := h L[k] (List.getElem_mem (by omega))
    unfold stepN
    simp only [List.length_append, List.length_cons, List.length_nil] at h1 ⊢
    have e : (k + 1) * (m + 1) = k * (m + 1) + (m + 1) := Nat.succ_mul k (m + 1)
    omega
/-- How long the smooth form can be. -/
theorem smT_len {L : List NodeT} {m : Nat} (h : ∀ x ∈ L, x.ins.length ≤ m) : (smT L).length ≤ 384 + L.length * (m + 1) := by
  have := smF_len L (vsOf L) h L.length (Nat.le_refl _)
  rw [List.take_length] at this
  have := cntCh_le (smF L (vsOf L) L).ch
  show (smF L (vsOf L) L).out.length ≤ _
  omega
/-! ### how many inputs a node of the smooth form has -/
def Short (m : Nat) (out : List NodeT) : Prop := ∀ x ∈ out, x.ins.length ≤ m
theorem Short.append {m : Nat} {a b : List NodeT} (ha : Short m a) (hb : Short m b) : Short m (a ++ b) := fun x hx => by
  rcases List.mem_append.1 hx with h | h
  · exact ha x h
  · exact hb x h
theorem Short.one {m : Nat} {x : NodeT} (h : x.ins.length ≤ m) : Short m [x] := fun y hy => by
  obtain rfl : y = x := by simpa using hy
  exact h
theorem stepV_short {m : Nat} (hm : 2 ≤ m) {s : FS} (h : Short m s.out) (v : Int) : Short m (stepV s v).out := by
  unfold stepV
  split
  · exact h
  · refine h.append fun x hx => ?_
    unfold choice at hx
    simp only [List.mem_cons, List.not_mem_nil, or_false] at hx
    rcases hx with rfl | rfl | rfl
    · exact Nat.zero_le _
    · exact Nat.zero_le _
    · exact hm
theorem fillV_short {m : Nat} (hm : 2 ≤ m) : ∀ (l : List Int) (s : FS), Short m s.out → Short m (fillV s l).out
  | [], _, h => h
  | v :: l, s, h => fillV_short hm l (stepV s v) (stepV_short hm h v)
theorem stepO_short {L : List NodeT} {M : List VS} {A : List Int} {or : Bool} {all : VS} {m : Nat} (hm : 2 ≤ m) (hL : Short m L) {s : FS} (h : Short (m + 128) s.out) (old : Int) : Short (m + 128) (stepO L M A or all s old).out := by
  unfold stepO
  split
  · refine Short.append (fillV_short (by omega) _ _ h) (Short.one ?_)
    unfold fillO
    simp only [fillV_inn]
    have h1 := mems_length (minus all (sOf M old))
    have h2 : (inn0 L A old).length ≤ m := by
      unfold inn0
      split
      · rename_i h3
        rw [List.length_map]
        obtain ⟨k, _, hk, e⟩ : ∃ k : Nat, old = (k : Int) ∧ ∃ hk : k < L.length, nOf L old = L[k] := by
          unfold nOf at h3 ⊢
          by_cases h0 : 0 ≤ old
          · rw [if_pos h0] at h3 ⊢
            by_cases hk : old.toNat < L.length
            · exact ⟨old.toNat, by omega, hk, by rw [List.getD_eq_getElem?_getD, List.getElem?_eq_getElem hk, Option.getD_some]⟩
            · rw [List.getD_eq_getElem?_getD, List.getElem?_eq_none (by omega)] at h3
              exact absurd h3 (by decide)
          · rw [if_neg h0] at h3
            exact absurd h3 (by decide)
        rw [e]; exact hL _ (List.getElem_mem hk)
      · simp only [List.length_cons, List.length_nil]; omega
    omega
  · exact h
theorem insO_short {L : List NodeT} {M : List VS} {A : List Int} {or : Bool} {all : VS} {m : Nat} (hm : 2 ≤ m) (hL : Short m L) : ∀ (l : List Int) (s : FS), Short (m + 128) s.out → Short (m + 128) (insO L M A or all s l).out
  | [], _, h => h
  | o :: l, s, h => insO_short hm hL l (stepO L M A or all s o) (stepO_short hm hL h o)
theorem smF_short {L : List NodeT} {M : List VS} {m : Nat} (hm : 2 ≤ m) (hL : Short m L) : ∀ k, k ≤ L.length → Short (m + 128) (smF L M (L.take k)).out
  | 0, _ => fun x hx => by cases hx
  | k + 1, hk => by
    have ih := smF_short (M := M) hm hL k (by omega)
    rw [smF_take L M k (by omega)]
    unfold stepN
    refine Short.append (insO_short hm hL _ _ ih) (Short.one ?_)
    simp only [insO_inn, List.length_nil, Nat.zero_add]
    have := hL L[k] (List.getElem_mem (by omega))
    omega
theorem smT_short {L : List NodeT} {m : Nat} (hm : 2 ≤ m) (hL : ∀ x ∈ L, x.ins.length ≤ m) : ∀ x ∈ smT L, x.ins.length ≤ m + 128 := by
  have := smF_short (M := vsOf L) hm hL L.length (Nat.le_refl _)
  rw [List.take_length] at this
  exact this
end Go.Proofs.YtpdbfbjfodckgaaDoor
namespace Go.Proofs.YtpdbfbjfodckgaaDoor

/-! ### the variables that occur -/
def unionV (M : List VS) : VS := M.foldl (fun s x => s ||| x) 0
theorem unionV_snoc (M : List VS) (x : VS) : unionV (M ++ [x]) = unionV M ||| x := by unfold unionV; rw [List.foldl_append]; rfl
theorem unionV_take (M : List VS) (k : Nat) (h : k < M.length) : unionV (M.take (k + 1)) = unionV (M.take k) ||| M[k] := by
  rw [List.take_succ_eq_append_getElem h, unionV_snoc]
theorem has_unionV (M : List VS) (v : Int) : has (unionV M) v = true ↔ ∃ x ∈ M, has x v = true := by
  induction M using snoc_ind with
  | h0 => simp [unionV, show has (0#128) v = false from has_zero v]
  | h1 M x ih =>
    rw [unionV_snoc, has_or, Bool.or_eq_true, ih]
    constructor
    · rintro (⟨y, hy, h⟩ | h)
      · exact ⟨y, List.mem_append_left _ hy, h⟩
      · exact ⟨x, List.mem_append_right _ (List.mem_singleton.2 rfl), h⟩
    · rintro ⟨y, hy, h⟩
      rcases List.mem_append.1 hy with h1 | h1
      · exact .inl ⟨y, h1, h⟩
      · rw [List.mem_singleton] at h1; subst h1; exact .inr h
theorem litVar_no' {n k : Int} {x : NodeT} (h : formed x n k = true) (h2 : x.kind ≠ 2) : litVar x.lit = 0 := by
  have h0 : x.lit = 0 := by
    unfold formed at h
    split at h
    · cases h
    · split at h
      · simp only [Bool.and_eq_true, decide_eq_true_eq] at h; exact h.1
      · split at h
        · simpa using h
        · cases h
  rw [h0]; rfl
theorem vars_lit {n : Int} {L : List NodeT} (hv : validNet ⟨n, L⟩ = true) : ∀ (k : Nat), k < L.length → ∀ u, has (sOf (vsOf L) (k : Int)) u = true → ∃ x ∈ L, x.kind = 2 ∧ litVar x.lit = u := by
  obtain ⟨⟨r1, r2, r3, r4⟩, hf⟩ := (validNet_iff _).1 hv
  simp only at r1 r2 r3 r4 hf
  intro k
  induction k using Nat.strongRecOn with
  | _ k ih =>
    intro hk u hu
    rw [vsOf_get hf hk, has_orIns] at hu
    rcases hu with h | ⟨j, hj, h⟩
    · rw [has_ofL] at h
      simp only [Bool.and_eq_true, decide_eq_true_eq, List.mem_cons, List.not_mem_nil, or_false] at h
      obtain ⟨⟨rfl, h1⟩, h2⟩ := h
      refine ⟨L[k], List.getElem_mem hk, ?_, rfl⟩
      apply Classical.byContradiction; intro h2
      have := litVar_no' (hf k hk hk) h2
      omega
    · have hj2 := ins_lt hf hk j hj
      obtain ⟨m, rfl⟩ : ∃ m : Nat, j = (m : Int) := ⟨j.toNat, by omega⟩
      exact ih m (by omega) (by omega) u h
theorem union_lits {n : Int} {L : List NodeT} (hv : validNet ⟨n, L⟩ = true) : unionV (vsOf L) = litsVS L := by
  obtain ⟨⟨r1, r2, r3, r4⟩, hf⟩ := (validNet_iff _).1 hv
  simp only at r1 r2 r3 r4 hf
  refine ext_iff fun u => ?_
  rw [has_unionV, has_litsVS]
  constructor
  · rintro ⟨x, hx, h⟩
    refine ⟨has_range h, ?_⟩
    obtain ⟨k, hk, rfl⟩ := List.getElem_of_mem hx
    rw [vsOf_length] at hk
    exact vars_lit hv k hk u (by rw [sOf_nat _ k (by rw [vsOf_length]; exact hk)]; exact h)
  · rintro ⟨⟨h1, h2⟩, x, hx, h3, h4⟩
    obtain ⟨k, hk, rfl⟩ := List.getElem_of_mem hx
    refine ⟨(vsOf L)[k]'(by rw [vsOf_length]; exact hk), List.getElem_mem _, ?_⟩
    rw [← sOf_nat _ k (by rw [vsOf_length]; exact hk), vsOf_get hf hk, has_orIns]
    left
    rw [has_ofL, h4]
    simp [h1, h2]
/-- The members up to k. -/
def occ (s : VS) (k : Nat) : List Int := ((List.range k).map fun i : Nat => (i : Int) + 1).filter (has s)
theorem occ_zero (s : VS) : occ s 0 = [] := rfl
theorem occ_yes {s : VS} {k : Nat} (h : has s ((k : Int) + 1) = true) : occ s (k + 1) = occ s k ++ [(k : Int) + 1] := by
  unfold occ
  rw [List.range_succ, List.map_append, List.filter_append]
  simp [h]
theorem occ_no {s : VS} {k : Nat} (h : has s ((k : Int) + 1) = false) : occ s (k + 1) = occ s k := by
  unfold occ
  rw [List.range_succ, List.map_append, List.filter_append]
  simp [h]
theorem occ_length (s : VS) (k : Nat) : (occ s k).length ≤ k := by
  unfold occ
  refine Nat.le_trans (List.length_filter_le _ _) ?_
  simp
theorem occ_same {s : VS} {n : Nat} (h : ∀ u, has s u = true → u ≤ (n : Int)) : ∀ m, occ s (n + m) = occ s n
  | 0 => rfl
  | m + 1 => by
    rw [← Nat.add_assoc, occ_no, occ_same h m]
    cases e : has s (((n + m : Nat) : Int) + 1) with
    | false => rfl
    | true => have := h _ e; omega
theorem occ_mems {s : VS} {n : Nat} (h : ∀ u, has s u = true → u ≤ (n : Int)) (hn : n ≤ 128) : occ s n = mems s := by
  have := occ_same h (128 - n)
  rw [show n + (128 - n) = 128 by omega] at this
  exact this.symm
theorem lits_le {n : Int} {L : List NodeT} (hv : validNet ⟨n, L⟩ = true) : ∀ u, has (litsVS L) u = true → u ≤ n := by
  intro u hu
  rw [has_litsVS] at hu
  obtain ⟨_, x, hx, h2, rfl⟩ := hu
  exact (kind2_range hv hx h2).2.1
/-! ### assignments by number -/
def asg (l : List Int) (j : Nat) : Nat → VS
  | 0 => 0
  | k + 1 => if j.testBit k then withV (asg l j k) (l.getD k 0) else asg l j k
theorem asg_yes {l : List Int} {j k : Nat} (hk : k < l.length) (h : j.testBit k = true) : asg l j (k + 1) = withV (asg l j k) l[k] := by
  rw [asg, if_pos h, List.getD_eq_getElem?_getD, List.getElem?_eq_getElem hk, Option.getD_some]
theorem asg_no {l : List Int} {j k : Nat} (h : j.testBit k = false) : asg l j (k + 1) = asg l j k := by
  rw [asg, if_neg (by rw [h]; simp)]
theorem has_asg {l : List Int} {j : Nat} (hr : ∀ v ∈ l, 1 ≤ v ∧ v ≤ 128) : ∀ k, k ≤ l.length → ∀ v, has (asg l j k) v = true ↔ ∃ i, ∃ h : i < l.length, i < k ∧ l[i] = v ∧ j.testBit i = true
  | 0, _, v => by
    constructor
    · intro h; rw [show asg l j 0 = 0 from rfl, has_zero] at h; cases h
    · rintro ⟨i, _, h, _⟩; omega
  | k + 1, hk, v => by
    have ih := has_asg (j := j) hr k (by omega) v
    cases hb : j.testBit k with
    | false =>
      rw [asg_no hb, ih]
      constructor
      · rintro ⟨i, h, h1, h2⟩; exact ⟨i, h, by omega, h2⟩
      · rintro ⟨i, h, h1, h2, h3⟩
        refine ⟨i, h, ?_, h2, h3⟩
        apply Classical.byContradiction; intro e
        obtain rfl : i = k := by omega
        rw [hb] at h3; cases h3
    | true =>
      have hrk := hr _ (List.getElem_mem (show k < l.length by omega))
      rw [asg_yes (show k < l.length by omega) hb, has_withV, Bool.or_eq_true, ih]
      simp only [Bool.and_eq_true, decide_eq_true_eq]
      constructor
      · rintro (⟨i, h, h1, h2⟩ | ⟨⟨rfl, _⟩, _⟩)
        · exact ⟨i, h, by omega, h2⟩
        · exact ⟨k, by omega, by omega, rfl, hb⟩
      · rintro ⟨i, h, h1, h2, h3⟩
        by_cases e : i = k
        · subst e; subst h2; exact .inr ⟨⟨rfl, hrk.1⟩, hrk.2⟩
        · exact .inl ⟨i, h, by omega, h2, h3⟩
theorem det_of_asg {n : Int} {L : List NodeT} (hv : validNet ⟨n, L⟩ = true) (h : ∀ j, j < 2 ^ (mems (litsVS L)).length → orOk (has (asg (mems (litsVS L)) j (mems (litsVS L)).length)) L = true) : detB L = true := by
  rw [detB_iff hv]
  intro A
  have hl := mems_sorted (litsVS L)
  have hm : ∀ x ∈ L, x.kind = 2 → litVar x.lit ∈ mems (litsVS L) := fun x hx hk => mems_of_lits hv hx hk
  have hr : ∀ v ∈ mems (litsVS L), 1 ≤ v ∧ v ≤ 128 := fun v hv2 => has_range ((mem_mems _ _).1 hv2)
  generalize mems (litsVS L) = l at *
  rw [← h (numF (fun i => A (l.getD i 0)) l.length) (numF_lt _ _)]
  refine orOk_congr fun x hx hk2 => ?_
  obtain ⟨i, hi, e⟩ := List.getElem_of_mem (hm x hx hk2)
  rw [← e, Bool.eq_iff_iff, has_asg hr _ (Nat.le_refl _)]
  have hb := numF_bit (fun i => A (l.getD i 0)) l.length
  have e2 : ∀ i (h : i < l.length), l.getD i 0 = l[i] := fun i h => by rw [List.getD_eq_getElem?_getD, List.getElem?_eq_getElem h, Option.getD_some]
  constructor
  · intro ha
    refine ⟨i, hi, hi, rfl, ?_⟩
    rw [hb i hi, e2 i hi]; exact ha
  · rintro ⟨i', hi', _, h2, h3⟩
    rw [hb i' hi', e2 i' hi', h2] at h3
    exact h3
theorem det_not {n : Int} {L : List NodeT} (hv : validNet ⟨n, L⟩ = true) {A : Int → Bool} (h : orOk A L = false) : detB L = false := by
  cases e : detB L with
  | false => rfl
  | true => rw [(detB_iff hv).1 e A] at h; cases h
/-! ### how many inputs are true -/
def cntT (M : List Bool) (l : List Int) : Nat := l.countP (bOf M)
theorem cntT_snoc (M : List Bool) (l : List Int) (k : Nat) (h : k < l.length) : cntT M (l.take (k + 1)) = cntT M (l.take k) + if bOf M l[k] = true then 1 else 0 := by
  unfold cntT
  rw [List.take_succ_eq_append_getElem h, List.countP_append, List.countP_cons, List.countP_nil, Nat.zero_add]
theorem cntT_le (M : List Bool) (l : List Int) : cntT M l ≤ l.length := List.countP_le_length
theorem bdisj_cnt (M : List Bool) : ∀ (l : List Int) (s : Bool), bdisj M s l = decide ((if s = true then 1 else 0) + cntT M l ≤ 1)
  | [], s => by cases s <;> rfl
  | k :: l, s => by
    rw [bdisj, bdisj_cnt M l]
    unfold cntT
    rw [List.countP_cons]
    generalize List.countP (bOf M) l = q
    cases s <;> cases bOf M k
    · simp
    · rw [Bool.eq_iff_iff]; simp; omega
    · simp
    · simp
theorem orOk_of {A : Int → Bool} {L : List NodeT} (h : ∀ i (hi : i < L.length), (L[i].kind != 4 || decide (cntT (bsOf A L) L[i].ins ≤ 1)) = true) : orOk A L = true := by
  unfold orOk
  refine all_to fun k hk => ?_
  rw [bdisj_cnt]
  have := h k hk
  simpa using this
theorem orOk_not {A : Int → Bool} {L : List NodeT} {i : Nat} (hi : i < L.length) (h : L[i].kind = 4) (h2 : 1 < cntT (bsOf A L) L[i].ins) : orOk A L = false := by
  unfold orOk
  refine all_not (k := i) hi ?_
  rw [bdisj_cnt, h]
  simp; omega
theorem valid_kinds {n : Int} {L : List NodeT} (hv : validNet ⟨n, L⟩ = true) {k : Nat} (hk : k < L.length) : (0 ≤ L[k].kind ∧ L[k].kind ≤ 4) ∧ (L[k].kind < 3 → L[k].ins = []) ∧ (L[k].kind = 2 → 1 ≤ litVar L[k].lit) := by
  obtain ⟨_, hf⟩ := (validNet_iff _).1 hv
  have hfk : formed L[k] n k = true := hf k hk hk
  refine ⟨⟨?_, ?_⟩, fun h3 => ?_, fun h => (kind2_range hv (List.getElem_mem hk) h).1⟩
  · apply Classical.byContradiction; intro h
    unfold formed at hfk
    split at hfk
    · cases hfk
    · rw [if_neg (by omega), if_neg (by omega), if_neg (by omega)] at hfk; cases hfk
  · apply Classical.byContradiction; intro h
    unfold formed at hfk
    split at hfk
    · cases hfk
    · rw [if_neg (by omega), if_neg (by omega), if_neg (by omega)] at hfk; cases hfk
  · unfold formed at hfk
    split at hfk
    · cases hfk
    · split at hfk
      · simp only [Bool.and_eq_true, decide_eq_true_eq] at hfk; exact hfk.2
      · split at hfk
        · simp only [Bool.and_eq_true, decide_eq_true_eq] at hfk; exact hfk.2
        · rw [if_neg (by omega)] at hfk; cases hfk
end Go.Proofs.YtpdbfbjfodckgaaDoor
namespace Go.Proofs.YtpdbfbjfodckgaaDoor

/-! ### sets by number -/
def setW (k : Nat) : VS := BitVec.ofNat 128 k
theorem has_setW (k : Nat) (v : Int) (h1 : 1 ≤ v) (h2 : v ≤ 128) : has (setW k) v = k.testBit (v - 1).toNat := by
  unfold has setW
  rw [BitVec.getLsbD_ofNat, decide_eq_true h1, Bool.true_and, decide_eq_true (show (v - 1).toNat < 128 by omega), Bool.true_and]
theorem setW_zero : setW 0 = 0 := rfl
theorem setW_high {m k : Nat} (hm : m < 128) (hk : k < 2 ^ m) : setW (2 ^ m + k) = withV (setW k) ((m : Int) + 1) := by
  refine ext_has fun u h1 h2 => ?_
  rw [has_withV, has_setW _ _ h1 h2, has_setW _ _ h1 h2]
  have e : (2 ^ m + k).testBit (u - 1).toNat = (k.testBit (u - 1).toNat || decide (u = (m : Int) + 1)) := by
    have := Nat.testBit_two_pow_mul_add 1 hk (u - 1).toNat
    rw [Nat.mul_one] at this
    rw [this]
    by_cases hlt : (u - 1).toNat < m
    · rw [if_pos hlt, decide_eq_false (by omega), Bool.or_false]
    · rw [if_neg hlt, Nat.testBit_lt_two_pow (Nat.lt_of_lt_of_le hk (Nat.pow_le_pow_right (by decide) (by omega))), Bool.false_or]
      by_cases e : u = (m : Int) + 1
      · subst e
        rw [decide_eq_true rfl, show (((m : Int) + 1) - 1).toNat - m = 0 by omega]; rfl
      · rw [decide_eq_false e]
        obtain ⟨j, hj⟩ : ∃ j, (u - 1).toNat - m = j + 1 := ⟨(u - 1).toNat - m - 1, by omega⟩
        rw [hj, Nat.testBit_succ]; simp
  rw [e]
  have d1 : decide ((1 : Int) ≤ (m : Int) + 1) = true := decide_eq_true (by omega)
  have d2 : decide ((m : Int) + 1 ≤ 128) = true := decide_eq_true (by omega)
  rw [d1, d2, Bool.and_true, Bool.and_true]
/-! ### counting, variable by variable -/
def cS (S : VS) (f : VS → Bool) : Nat → VS → Nat
  | 0, a => if f a = true then 1 else 0
  | m + 1, a => if has S ((m : Int) + 1) = true then cS S f m a + cS S f m (withV a ((m : Int) + 1)) else cS S f m a
theorem sub_withV {S a : VS} {v : Int} (h1 : 1 ≤ v) (h2 : v ≤ 128) : sub (withV a v) S = (has S v && sub a S) := by
  rw [Bool.eq_iff_iff, Bool.and_eq_true, sub_iff, sub_iff]
  constructor
  · intro h
    refine ⟨h v (by rw [has_withV]; simp [h1, h2]), fun u hu => h u (by rw [has_withV, hu]; rfl)⟩
  · rintro ⟨h3, h4⟩ u hu
    rw [has_withV, Bool.or_eq_true] at hu
    rcases hu with h | h
    · exact h4 u h
    · simp only [Bool.and_eq_true, decide_eq_true_eq] at h
      rw [h.1.1]; exact h3
theorem withV_or (a b : VS) (v : Int) : withV a v ||| b = a ||| withV b v := by
  refine ext_has fun u _ _ => ?_
  rw [has_or, has_or, has_withV, has_withV]
  cases has a u <;> cases has b u <;> simp
theorem cS_count (S : VS) (f : VS → Bool) : ∀ (m : Nat), m ≤ 128 → ∀ a, (List.range (2 ^ m)).countP (fun k => sub (setW k) S && f (a ||| setW k)) = cS S f m a
  | 0, _, a => by
    have hs : sub (0 : VS) S = true := by rw [sub_iff]; intro v hv; rw [has_zero] at hv; cases hv
    show List.countP _ [0] = _
    rw [List.countP_cons, List.countP_nil, setW_zero, hs, cS, show a ||| (0 : VS) = a from by simp]
    simp
  | m + 1, hm, a => by
    rw [show 2 ^ (m + 1) = 2 ^ m + 2 ^ m by rw [Nat.pow_succ]; omega, List.range_add, List.countP_append, cS_count S f m (by omega) a, cS]
    have e : ((List.range (2 ^ m)).map fun x => 2 ^ m + x).countP (fun k => sub (setW k) S && f (a ||| setW k)) = if has S ((m : Int) + 1) = true then cS S f m (withV a ((m : Int) + 1)) else 0 := by
      rw [List.countP_map]
      by_cases h : has S ((m : Int) + 1) = true
      · rw [if_pos h, ← cS_count S f m (by omega)]
        refine List.countP_congr fun k hk => ?_
        have hk2 := List.mem_range.1 hk
        simp only [Function.comp]
        rw [setW_high (by omega) hk2, sub_withV (by omega) (by omega), h, Bool.true_and, withV_or]
      · rw [if_neg h, List.countP_eq_zero]
        intro k hk
        have hk2 := List.mem_range.1 hk
        simp only [Function.comp]
        rw [Bool.not_eq_true] at h
        rw [setW_high (by omega) hk2, sub_withV (by omega) (by omega), h]
        simp
    rw [e]
    by_cases h : has S ((m : Int) + 1) = true
    · rw [if_pos h, if_pos h]
    · rw [if_neg h, if_neg h]; rfl
/-- A function that looks at the variables of a set alone. -/
def looks (f : VS → Bool) (S : VS) : Prop := ∀ a b : VS, (∀ v, has S v = true → has a v = has b v) → f a = f b
theorem cS_same {S : VS} {f : VS → Bool} {T : VS} (hf : looks f T) : ∀ (m : Nat) (a b : VS), (∀ v, has T v = true → has a v = has b v) → cS S f m a = cS S f m b
  | 0, a, b, h => by rw [cS, cS, hf a b h]
  | m + 1, a, b, h => by
    rw [cS, cS, cS_same hf m a b h, cS_same hf m (withV a _) (withV b _) fun v hv => by rw [has_withV, has_withV, h v hv]]
theorem cS_le (S : VS) (f : VS → Bool) : ∀ (m : Nat) (a : VS), cS S f m a ≤ 2 ^ m
  | 0, a => by rw [cS]; split <;> simp
  | m + 1, a => by
    have h1 := cS_le S f m a
    have h2 := cS_le S f m (withV a ((m : Int) + 1))
    rw [cS, Nat.pow_succ]; split <;> omega
theorem cS_congr {S : VS} {f g : VS → Bool} (h : ∀ a, f a = g a) : ∀ (m : Nat) (a : VS), cS S f m a = cS S g m a
  | 0, a => by rw [cS, cS, h]
  | m + 1, a => by rw [cS, cS, cS_congr h m, cS_congr h m]
theorem cS_mul {S T : VS} {f g : VS → Bool} (hf : looks f S) (hg : looks g T) (hd : ∀ v, has S v = true → has T v = false) : ∀ (m : Nat) (a : VS),
    cS (S ||| T) (fun a => f a && g a) m a = cS S f m a * cS T g m a
  | 0, a => by
    rw [cS, cS, cS]
    cases f a <;> cases g a <;> rfl
  | m + 1, a => by
    rw [cS, cS, cS, has_or, cS_mul hf hg hd m a, cS_mul hf hg hd m (withV a _)]
    cases h1 : has S ((m : Int) + 1) with
    | true =>
      have h2 := hd _ h1
      have e : cS T g m (withV a ((m : Int) + 1)) = cS T g m a := cS_same hg m _ _ fun v hv => by
        rw [has_withV]
        by_cases e : v = (m : Int) + 1
        · subst e; rw [h2] at hv; cases hv
        · simp [e]
      rw [h2, e]
      simp [Nat.add_mul]
    | false =>
      have e : cS S f m (withV a ((m : Int) + 1)) = cS S f m a := cS_same hf m _ _ fun v hv => by
        rw [has_withV]
        by_cases e : v = (m : Int) + 1
        · subst e; rw [h1] at hv; cases hv
        · simp [e]
      cases h2 : has T ((m : Int) + 1) with
      | true => rw [e]; simp [Nat.mul_add]
      | false => simp
theorem cS_add {S : VS} {f g : VS → Bool} (h : ∀ a, (f a && g a) = false) : ∀ (m : Nat) (a : VS), cS S (fun a => f a || g a) m a = cS S f m a + cS S g m a
  | 0, a => by
    have := h a
    rw [cS, cS, cS]
    cases hf : f a <;> cases hg : g a <;> simp_all
  | m + 1, a => by
    rw [cS, cS, cS, cS_add h m a, cS_add h m (withV a _)]
    split <;> omega
theorem cS_none {S : VS} {f : VS → Bool} : ∀ (m : Nat) (a : VS), (∀ v : Int, v ≤ m → has S v = false) → cS S f m a = if f a = true then 1 else 0
  | 0, a, _ => rfl
  | m + 1, a, h => by
    rw [cS, if_neg (by rw [h _ (by omega)]; simp), cS_none m a fun v hv => h v (by omega)]
theorem cS_one {S : VS} {f : VS → Bool} {q : Int} (h : ∀ v, has S v = decide (v = q)) : ∀ (m : Nat) (a : VS), 1 ≤ q → q ≤ m → cS S f m a = (if f a = true then 1 else 0) + if f (withV a q) = true then 1 else 0
  | 0, a, h1, h2 => by omega
  | m + 1, a, h1, h2 => by
    rw [cS, h]
    by_cases e : q = (m : Int) + 1
    · subst e
      rw [if_pos (by simp), cS_none m a (fun v hv => by rw [h, decide_eq_false (by omega)]), cS_none m _ (fun v hv => by rw [h, decide_eq_false (by omega)])]
    · rw [if_neg (by rw [decide_eq_false (by omega)]; simp), cS_one h m a h1 (by omega)]
/-! ### the nodes of a net -/
/-- The value of a node hangs on its variables alone. -/
theorem node_looks {n : Int} {L : List NodeT} (hv : validNet ⟨n, L⟩ = true) : ∀ (k : Nat), k < L.length → ∀ (A B : Int → Bool), (∀ v, has (sOf (vsOf L) (k : Int)) v = true → A v = B v) → bOf (bsOf A L) (k : Int) = bOf (bsOf B L) (k : Int) := by
  obtain ⟨⟨r1, r2, r3, r4⟩, hf⟩ := (validNet_iff _).1 hv
  simp only at r1 r2 r3 r4 hf
  intro k
  induction k using Nat.strongRecOn with
  | _ k ih =>
    intro hk A B h
    have hV := vsOf_get hf hk
    have hi : ∀ x ∈ L[k].ins, bOf (bsOf A L) x = bOf (bsOf B L) x := fun x hx => by
      have hx2 := ins_lt hf hk x hx
      obtain ⟨m, rfl⟩ : ∃ m : Nat, x = (m : Int) := ⟨x.toNat, by omega⟩
      exact ih m (by omega) (by omega) A B fun v hvv => h v (by rw [hV, has_orIns]; exact .inr ⟨_, hx, hvv⟩)
    rw [bsOf_get A hf hk, bsOf_get B hf hk, ← bNode_congr (A := B) hi]
    unfold bNode
    by_cases h2 : L[k].kind = 2
    · have hr := kind2_range hv (List.getElem_mem hk) h2
      have hl : A (litVar L[k].lit) = B (litVar L[k].lit) := h _ (by
        rw [hV, has_orIns, has_ofL]; left; simp [hr.1, hr.2.2.1])
      unfold litB
      rw [hl]
    · rw [if_neg h2, if_neg h2]
/-- The numbers of the nodes. -/
def mulIns (M : List Int) (s : Int) (l : List Int) : Int := l.foldl (fun s k => s * iOf M k) s
def addIns (M : List Int) (s : Int) (l : List Int) : Int := l.foldl (fun s k => s + iOf M k) s
def numNode (M : List Int) (x : NodeT) : Int := if x.kind = 3 then mulIns M 1 x.ins else addIns M (if x.kind = 1 ∨ x.kind = 2 then 1 else 0) x.ins
def numsOf (L : List NodeT) : List Int := scanF numNode L
theorem numsOf_length (L : List NodeT) : (numsOf L).length = L.length := scanF_length _ _
theorem mulIns_snoc (M : List Int) (s : Int) (l : List Int) (x : Int) : mulIns M s (l ++ [x]) = mulIns M s l * iOf M x := by unfold mulIns; rw [List.foldl_append]; rfl
theorem addIns_snoc (M : List Int) (s : Int) (l : List Int) (x : Int) : addIns M s (l ++ [x]) = addIns M s l + iOf M x := by unfold addIns; rw [List.foldl_append]; rfl
theorem iOf_take (A : List Int) (k : Nat) (i : Int) (h : i < (k : Int)) : iOf (A.take k) i = iOf A i := by
  unfold iOf
  by_cases h0 : 0 ≤ i
  · rw [if_pos h0, if_pos h0, List.getD_eq_getElem?_getD, List.getD_eq_getElem?_getD, List.getElem?_take, if_pos (by omega)]
  · rw [if_neg h0, if_neg h0]
theorem mulIns_congr {M N : List Int} {s : Int} : ∀ {l : List Int}, (∀ x ∈ l, iOf M x = iOf N x) → mulIns M s l = mulIns N s l := by
  intro l
  induction l generalizing s with
  | nil => intro _; rfl
  | cons x l ih =>
    intro h
    show mulIns M (s * iOf M x) l = mulIns N (s * iOf N x) l
    rw [h x List.mem_cons_self]
    exact ih fun y hy => h y (List.mem_cons_of_mem _ hy)
theorem addIns_congr {M N : List Int} {s : Int} : ∀ {l : List Int}, (∀ x ∈ l, iOf M x = iOf N x) → addIns M s l = addIns N s l := by
  intro l
  induction l generalizing s with
  | nil => intro _; rfl
  | cons x l ih =>
    intro h
    show addIns M (s + iOf M x) l = addIns N (s + iOf N x) l
    rw [h x List.mem_cons_self]
    exact ih fun y hy => h y (List.mem_cons_of_mem _ hy)
theorem numsOf_get {n : Int} {L : List NodeT} (h : formedTo n L L.length) {k : Nat} (hk : k < L.length) : iOf (numsOf L) (k : Int) = numNode (numsOf L) L[k] := by
  rw [iOf_nat _ k (by rw [numsOf_length]; exact hk)]
  have hg : (numsOf L)[k]'(by rw [numsOf_length]; exact hk) = numNode (scanF numNode (L.take k)) L[k] := scanF_get numNode L k hk
  rw [hg]
  have hx : ∀ x ∈ L[k].ins, iOf (scanF numNode (L.take k)) x = iOf (numsOf L) x := fun x hx => by
    have hx2 := ins_lt h hk x hx
    rw [← scanF_take numNode L k (by omega)]
    exact iOf_take _ k x hx2.2
  generalize scanF numNode (L.take k) = M at hx ⊢
  unfold numNode
  rw [mulIns_congr hx, addIns_congr hx]
/-- How many assignments of the variables of a node make it true. -/
def cntN (n : Nat) (L : List NodeT) (i : Int) : Nat := cS (sOf (vsOf L) i) (fun a => bOf (bsOf (has a) L) i) n 0
section
variable {n : Nat} {L : List NodeT}
theorem in_looks (hv : validNet ⟨n, L⟩ = true) {x : Int} (h0 : 0 ≤ x) (h1 : x < (L.length : Int)) : looks (fun a => bOf (bsOf (has a) L) x) (sOf (vsOf L) x) := by
  obtain ⟨m, rfl⟩ : ∃ m : Nat, x = (m : Int) := ⟨x.toNat, by omega⟩
  exact fun a b h => node_looks hv m (by omega) _ _ h
theorem and_count (hv : validNet ⟨n, L⟩ = true) : ∀ (l : List Int), (∀ x ∈ l, 0 ≤ x ∧ x < (L.length : Int)) → disj (vsOf L) 0 l = true → (∀ x ∈ l, iOf (numsOf L) x = (cntN n L x : Int)) →
    looks (fun a => l.all (bOf (bsOf (has a) L))) (orIns (vsOf L) 0 l) ∧ mulIns (numsOf L) 1 l = (cS (orIns (vsOf L) 0 l) (fun a => l.all (bOf (bsOf (has a) L))) n 0 : Nat) := by
  intro l
  induction l using snoc_ind with
  | h0 =>
    intro _ _ _
    refine ⟨fun a b _ => rfl, ?_⟩
    rw [show orIns (vsOf L) 0 [] = 0 from rfl, cS_none n 0 (fun v _ => has_zero v)]
    rfl
  | h1 l x ih =>
    intro hl hd hc
    rw [disj_append, Bool.and_eq_true] at hd
    obtain ⟨i1, i2⟩ := ih (fun y hy => hl y (List.mem_append_left _ hy)) hd.1 fun y hy => hc y (List.mem_append_left _ hy)
    have hx := hl x (List.mem_append_right _ (List.mem_singleton.2 rfl))
    have hcx := hc x (List.mem_append_right _ (List.mem_singleton.2 rfl))
    have lx := in_looks hv hx.1 hx.2
    have hdx : ∀ v, has (orIns (vsOf L) 0 l) v = true → has (sOf (vsOf L) x) v = false := fun v h1 => by
      have h2 : (orIns (vsOf L) 0 l &&& sOf (vsOf L) x == 0) = true := by
        have := hd.2
        rw [disj, Bool.and_eq_true] at this
        exact this.1
      rw [beq_iff_eq] at h2
      have h3 : has (orIns (vsOf L) 0 l &&& sOf (vsOf L) x) v = false := by rw [h2, has_zero]
      rw [has_and, h1, Bool.true_and] at h3
      exact h3
    have ea : ∀ a : VS, (l ++ [x]).all (bOf (bsOf (has a) L)) = (l.all (bOf (bsOf (has a) L)) && bOf (bsOf (has a) L) x) := fun a => by
      rw [List.all_append]; simp
    rw [orIns_snoc, mulIns_snoc, i2, hcx]
    refine ⟨fun a b h => ?_, ?_⟩
    · simp only [ea]
      have h1 : l.all (bOf (bsOf (has a) L)) = l.all (bOf (bsOf (has b) L)) := i1 a b fun v hv2 => h v (by rw [has_or, hv2]; rfl)
      have h2 : bOf (bsOf (has a) L) x = bOf (bsOf (has b) L) x := lx a b fun v hv2 => h v (by rw [has_or, hv2, Bool.or_true])
      rw [h1, h2]
    · rw [cS_congr ea, cS_mul i1 lx hdx]
      unfold cntN
      push_cast
      rfl
theorem bdisj_snoc (M : List Bool) : ∀ (l : List Int) (s : Bool) (x : Int), bdisj M s (l ++ [x]) = (bdisj M s l && !((s || l.any (bOf M)) && bOf M x))
  | [], s, x => by simp [bdisj]
  | y :: l, s, x => by
    rw [List.cons_append, bdisj, bdisj, bdisj_snoc M l, List.any_cons]
    cases s <;> cases bOf M y <;> cases l.any (bOf M) <;> simp
theorem or_count {S : VS} : ∀ (l : List Int), (∀ a : VS, bdisj (bsOf (has a) L) false l = true) → (∀ x ∈ l, sOf (vsOf L) x = S) → (∀ x ∈ l, iOf (numsOf L) x = (cntN n L x : Int)) →
    addIns (numsOf L) 0 l = (cS S (fun a => l.any (bOf (bsOf (has a) L))) n 0 : Nat) := by
  intro l
  induction l using snoc_ind with
  | h0 =>
    intro _ _ _
    rw [show (fun a : VS => ([] : List Int).any (bOf (bsOf (has a) L))) = fun _ => false from rfl]
    have : ∀ (m : Nat) (a : VS), cS S (fun _ => false) m a = 0 := by
      intro m
      induction m with
      | zero => intro a; rfl
      | succ m ih => intro a; rw [cS, ih, ih]; split <;> rfl
    rw [this]; rfl
  | h1 l x ih =>
    intro hd hs hc
    have h2 := fun a => hd a
    simp only [bdisj_snoc, Bool.and_eq_true, Bool.false_or] at h2
    have i2 := ih (fun a => (h2 a).1) (fun y hy => hs y (List.mem_append_left _ hy)) fun y hy => hc y (List.mem_append_left _ hy)
    have hcx := hc x (List.mem_append_right _ (List.mem_singleton.2 rfl))
    have hsx := hs x (List.mem_append_right _ (List.mem_singleton.2 rfl))
    have ea : ∀ a : VS, (l ++ [x]).any (bOf (bsOf (has a) L)) = (l.any (bOf (bsOf (has a) L)) || bOf (bsOf (has a) L) x) := fun a => by
      rw [List.any_append]; simp
    rw [addIns_snoc, i2, hcx, cS_congr ea, cS_add (fun a => by have := (h2 a).2; revert this; cases l.any (bOf (bsOf (has a) L)) <;> cases bOf (bsOf (has a) L) x <;> simp)]
    unfold cntN
    rw [hsx]
    push_cast
    rfl
theorem counts (hv : validNet ⟨n, L⟩ = true) (hd : decomB L = true) (ho : ∀ A, orOk A L = true) (hs : smoothB L = true) : ∀ (k : Nat), k < L.length → iOf (numsOf L) (k : Int) = (cntN n L (k : Int) : Int) := by
  obtain ⟨⟨r1, r2, r3, r4⟩, hf⟩ := (validNet_iff _).1 hv
  simp only at r1 r2 r3 r4 hf
  intro k
  induction k using Nat.strongRecOn with
  | _ k ih =>
    intro hk
    have hin : ∀ x ∈ L[k].ins, 0 ≤ x ∧ x < (L.length : Int) := fun x hx => by have := ins_lt hf hk x hx; omega
    have hic : ∀ x ∈ L[k].ins, iOf (numsOf L) x = (cntN n L x : Int) := fun x hx => by
      have hx2 := ins_lt hf hk x hx
      obtain ⟨m, rfl⟩ : ∃ m : Nat, x = (m : Int) := ⟨x.toNat, by omega⟩
      exact ih m (by omega) (by omega)
    rw [numsOf_get hf hk]
    unfold cntN
    have hV := vsOf_get hf hk
    have hB : ∀ a : VS, bOf (bsOf (has a) L) (k : Int) = bNode (has a) (bsOf (has a) L) L[k] := fun a => bsOf_get _ hf hk
    rw [cS_congr hB]
    have hfk := hf k hk hk
    have hl0 : L[k].kind ≠ 2 → ofL [litVar L[k].lit] = 0 := fun h2 => by rw [litVar_no' hfk h2]; decide +kernel
    have hS := fun (h4 : L[k].kind = 4) => (show ∀ x ∈ L[k].ins, sOf (vsOf L) x = sOf (vsOf L) (k : Int) from fun x hx => by
      unfold smoothB at hs
      rw [List.all_eq_true] at hs
      have := hs k (List.mem_range.2 hk)
      rw [List.getD_eq_getElem?_getD, List.getElem?_eq_getElem hk, Option.getD_some, h4] at this
      simp only [bne_self_eq_false, Bool.false_or, List.all_eq_true, beq_iff_eq] at this
      exact this x hx)
    have hD := fun (h3 : L[k].kind = 3) => (show disj (vsOf L) 0 L[k].ins = true from by
      unfold decomB at hd
      rw [List.all_eq_true] at hd
      have := hd _ (List.getElem_mem hk)
      rw [h3] at this
      simpa using this)
    have hO := fun (h4 : L[k].kind = 4) (a : VS) => (show bdisj (bsOf (has a) L) false L[k].ins = true from by
      have := ho (has a)
      unfold orOk at this
      rw [List.all_eq_true] at this
      have := this _ (List.getElem_mem hk)
      rw [h4] at this
      simpa using this)
    have hrg : 0 ≤ L[k].kind ∧ L[k].kind ≤ 4 := by
      refine ⟨?_, ?_⟩ <;>
      · apply Classical.byContradiction; intro h
        have : formed L[k] n k = false := by
          unfold formed
          split
          · rfl
          · rw [if_neg (by omega), if_neg (by omega), if_neg (by omega)]
        rw [this] at hfk; cases hfk
    have hnil : L[k].kind < 3 → L[k].ins = [] := fun h3 => by
      unfold formed at hfk
      split at hfk
      · cases hfk
      · split at hfk
        · simp only [Bool.and_eq_true, decide_eq_true_eq] at hfk; exact hfk.2
        · split at hfk
          · simp only [Bool.and_eq_true, decide_eq_true_eq] at hfk; exact hfk.2
          · rw [if_neg (by omega)] at hfk; cases hfk
    have hV0 : L[k].kind < 2 → sOf (vsOf L) (k : Int) = 0 := fun h2 => by rw [hV, hnil (by omega), hl0 (by omega)]; rfl
    rcases (by omega : L[k].kind = 0 ∨ L[k].kind = 1 ∨ L[k].kind = 2 ∨ L[k].kind = 3 ∨ L[k].kind = 4) with h | h | h | h | h
    · rw [hV0 (by omega), cS_none n 0 (fun v _ => has_zero v)]
      unfold numNode bNode
      rw [h, hnil (by omega)]; rfl
    · rw [hV0 (by omega), cS_none n 0 (fun v _ => has_zero v)]
      unfold numNode bNode
      rw [h, hnil (by omega)]; rfl
    · have hr := kind2_range hv (List.getElem_mem hk) h
      have hone : ∀ v, has (sOf (vsOf L) (k : Int)) v = decide (v = litVar L[k].lit) := fun v => by
        rw [hV, hnil (by omega)]
        show has (ofL [litVar L[k].lit]) v = _
        rw [has_ofL]
        by_cases e : v = litVar L[k].lit
        · subst e; simp [hr.1, hr.2.2.1]
        · simp [e]
      have e1 : numNode (numsOf L) L[k] = 1 := by unfold numNode; rw [h, hnil (by omega)]; rfl
      rw [cS_one hone n 0 hr.1 hr.2.1, e1]
      unfold bNode litB
      rw [h, has_withV, has_zero]
      simp only [show ¬ (2 : Int) = 1 by decide, if_false, if_true, show ¬ (2 : Int) = 3 by decide, decide_eq_true hr.1, decide_eq_true hr.2.2.1, decide_true, Bool.and_self, Bool.or_true]
      split <;> rfl
    · obtain ⟨_, h2⟩ := and_count hv L[k].ins hin (hD h) hic
      have e : sOf (vsOf L) (k : Int) = orIns (vsOf L) 0 L[k].ins := by rw [hV, hl0 (by omega)]
      rw [e]
      have e2 : ∀ a : VS, bNode (has a) (bsOf (has a) L) L[k] = L[k].ins.all (bOf (bsOf (has a) L)) := fun a => by unfold bNode; rw [h]; rfl
      rw [cS_congr e2, ← h2]
      unfold numNode
      rw [if_pos h]
    · have h2 := or_count (n := n) L[k].ins (hO h) (hS h) hic
      have e2 : ∀ a : VS, bNode (has a) (bsOf (has a) L) L[k] = L[k].ins.any (bOf (bsOf (has a) L)) := fun a => by unfold bNode; rw [h]; rfl
      rw [cS_congr e2, ← h2]
      unfold numNode
      rw [if_neg (by omega), if_neg (by omega)]
/-- The partial products are counts, too. -/
theorem mul_small (hv : validNet ⟨n, L⟩ = true) (hd : decomB L = true) (ho : ∀ A, orOk A L = true) (hs : smoothB L = true) {k : Nat} (hk : k < L.length) (h3 : L[k].kind = 3) (j : Nat) : 0 ≤ mulIns (numsOf L) 1 (L[k].ins.take j) ∧ mulIns (numsOf L) 1 (L[k].ins.take j) ≤ 2 ^ n := by
  obtain ⟨⟨r1, r2, r3, r4⟩, hf⟩ := (validNet_iff _).1 hv
  simp only at r1 r2 r3 r4 hf
  have hD : disj (vsOf L) 0 L[k].ins = true := by
    unfold decomB at hd
    rw [List.all_eq_true] at hd
    have := hd _ (List.getElem_mem hk)
    rw [h3] at this
    simpa using this
  rw [← List.take_append_drop j L[k].ins, disj_append, Bool.and_eq_true] at hD
  have hm : ∀ x ∈ L[k].ins.take j, x ∈ L[k].ins := fun x hx => List.mem_of_mem_take hx
  obtain ⟨_, h⟩ := and_count hv (L[k].ins.take j) (fun x hx => by have := ins_lt hf hk x (hm x hx); omega) hD.1 fun x hx => by
    have hx2 := ins_lt hf hk x (hm x hx)
    obtain ⟨m, rfl⟩ : ∃ m : Nat, x = (m : Int) := ⟨x.toNat, by omega⟩
    exact counts hv hd ho hs m (by omega)
  rw [h]
  refine ⟨by omega, ?_⟩
  have := cS_le (orIns (vsOf L) 0 (L[k].ins.take j)) (fun a => (L[k].ins.take j).all (bOf (bsOf (has a) L))) n 0
  exact_mod_cast this
end
end Go.Proofs.YtpdbfbjfodckgaaDoor
namespace Go.Proofs.YtpdbfbjfodckgaaDoor

/-- The literal of variable i + 1, with the sign of the set. -/
def sgn (S : VS) (i : Nat) : Int := if has S ((i : Int) + 1) = true then -((i : Int) + 1) else (i : Int) + 1
def litsN (S : VS) (k : Nat) : List NodeT := (List.range k).map fun i => ⟨2, sgn S i, []⟩
def numsTo (k : Nat) : List Int := (List.range k).map fun i : Nat => (i : Int)
def chL (S : VS) (k : Nat) : List NodeT := litsN S k ++ [⟨4, 0, numsTo k⟩]
theorem litsN_succ (S : VS) (k : Nat) : litsN S (k + 1) = litsN S k ++ [⟨2, sgn S k, []⟩] := by
  unfold litsN; rw [List.range_succ, List.map_append]; rfl
theorem numsTo_succ (k : Nat) : numsTo (k + 1) = numsTo k ++ [(k : Int)] := by
  unfold numsTo; rw [List.range_succ, List.map_append]; rfl
theorem litsN_length (S : VS) (k : Nat) : (litsN S k).length = k := by simp [litsN]
theorem numsTo_length (k : Nat) : (numsTo k).length = k := by simp [numsTo]
theorem mem_numsTo (k : Nat) (x : Int) : x ∈ numsTo k ↔ 0 ≤ x ∧ x < (k : Int) := by
  unfold numsTo
  rw [List.mem_map]
  constructor
  · rintro ⟨i, hi, rfl⟩; have := List.mem_range.1 hi; omega
  · rintro ⟨h0, h1⟩; exact ⟨x.toNat, List.mem_range.2 (by omega), by omega⟩
theorem chL_length (S : VS) (k : Nat) : (chL S k).length = k + 1 := by simp [chL, litsN_length]
theorem chL_low (S : VS) (k : Nat) (i : Nat) (h : i < k) : (chL S k)[i]'(by rw [chL_length]; omega) = ⟨2, sgn S i, []⟩ := by
  unfold chL
  rw [List.getElem_append_left (by rw [litsN_length]; exact h)]
  simp [litsN]
theorem chL_top (S : VS) (k : Nat) : (chL S k)[k]'(by rw [chL_length]; omega) = ⟨4, 0, numsTo k⟩ := by
  unfold chL
  rw [List.getElem_append_right (by rw [litsN_length]; exact Nat.le_refl _)]
  simp [litsN_length]
theorem litVar_sgn (S : VS) (i : Nat) (h : i < 128) : litVar (sgn S i) = (i : Int) + 1 := by
  unfold sgn litVar; split <;> (split <;> (try split) <;> omega)
theorem chL_formed (S : VS) {k : Nat} (hk : k ≤ 128) : formedTo 128 (chL S k) (chL S k).length := by
  intro i hi _
  rw [chL_length] at hi
  by_cases h : i < k
  · rw [chL_low S k i h]
    unfold formed
    have : litValid (sgn S i) 128 = true := by
      unfold litValid
      rw [litVar_sgn S i (by omega)]
      simp only [Bool.and_eq_true, decide_eq_true_eq]
      omega
    simp [badIn, this]
  · obtain rfl : i = k := by omega
    rw [chL_top]
    unfold formed
    have : badIn (numsTo i) (i : Int) = false := by
      unfold badIn
      rw [List.any_eq_false]
      intro x hx
      have := (mem_numsTo i x).1 hx
      simp only [Bool.or_eq_true, decide_eq_true_eq]
      omega
    simp [this]
theorem chL_valid (S : VS) {k : Nat} (hk : k ≤ 128) : validNet ⟨128, chL S k⟩ = true := by
  rw [validNet_iff]
  refine ⟨⟨by show (0 : Int) ≤ 128; decide, by show (128 : Int) ≤ 128; decide, ?_, ?_⟩, chL_formed S hk⟩
  · show 1 ≤ (chL S k).length; rw [chL_length]; omega
  · show (chL S k).length ≤ 65536; rw [chL_length]; omega
theorem chL_v (S : VS) {k : Nat} (hk : k ≤ 128) {i : Nat} (h : i < k) (u : Int) : has (sOf (vsOf (chL S k)) (i : Int)) u = decide (u = (i : Int) + 1) := by
  rw [vsOf_get (chL_formed S hk) (by rw [chL_length]; omega), chL_low S k i h]
  show has (ofL [litVar (sgn S i)]) u = _
  rw [litVar_sgn S i (by omega), has_ofL]
  by_cases e : u = (i : Int) + 1
  · subst e; simp; omega
  · simp [e]
theorem chL_vt (S : VS) {k : Nat} (hk : k ≤ 128) (u : Int) : has (sOf (vsOf (chL S k)) (k : Int)) u = (decide (1 ≤ u) && decide (u ≤ k)) := by
  rw [Bool.eq_iff_iff, vsOf_get (chL_formed S hk) (by rw [chL_length]; omega), chL_top, has_orIns]
  simp only [Bool.and_eq_true, decide_eq_true_eq]
  constructor
  · rintro (h | ⟨x, hx, h⟩)
    · rw [show ofL [litVar (0 : Int)] = 0 from by decide +kernel, has_zero] at h; cases h
    · have h2 := (mem_numsTo k x).1 hx
      obtain ⟨i, rfl⟩ : ∃ i : Nat, x = (i : Int) := ⟨x.toNat, by omega⟩
      rw [chL_v S hk (by omega)] at h
      simp only [decide_eq_true_eq] at h
      omega
  · rintro ⟨h1, h2⟩
    refine .inr ⟨u - 1, (mem_numsTo k _).2 (by omega), ?_⟩
    obtain ⟨i, hi⟩ : ∃ i : Nat, u - 1 = (i : Int) := ⟨(u - 1).toNat, by omega⟩
    rw [hi, chL_v S hk (by omega)]
    simp; omega
theorem chL_mem {S : VS} {k : Nat} {x : NodeT} (hx : x ∈ chL S k) : (∃ i, i < k ∧ x = ⟨2, sgn S i, []⟩) ∨ x = ⟨4, 0, numsTo k⟩ := by
  unfold chL litsN at hx
  rcases List.mem_append.1 hx with h | h
  · obtain ⟨i, hi, rfl⟩ := List.mem_map.1 h
    exact .inl ⟨i, List.mem_range.1 hi, rfl⟩
  · exact .inr (List.mem_singleton.1 h)
theorem chL_decom (S : VS) (k : Nat) : decomB (chL S k) = true := by
  unfold decomB
  rw [List.all_eq_true]
  intro x hx
  rcases chL_mem hx with ⟨i, _, rfl⟩ | rfl <;> rfl
theorem chL_lits (S : VS) {k : Nat} (hk : k ≤ 128) (u : Int) : has (litsVS (chL S k)) u = (decide (1 ≤ u) && decide (u ≤ k)) := by
  rw [Bool.eq_iff_iff, has_litsVS]
  simp only [Bool.and_eq_true, decide_eq_true_eq]
  constructor
  · rintro ⟨_, x, hx, h2, h3⟩
    rcases chL_mem hx with ⟨i, hi, rfl⟩ | rfl
    · rw [litVar_sgn S i (by omega)] at h3; omega
    · cases h2
  · rintro ⟨h1, h2⟩
    refine ⟨by omega, ⟨2, sgn S (u - 1).toNat, []⟩, ?_, rfl, ?_⟩
    · unfold chL litsN
      exact List.mem_append_left _ (List.mem_map.2 ⟨(u - 1).toNat, List.mem_range.2 (by omega), rfl⟩)
    · show litVar (sgn S (u - 1).toNat) = u
      rw [litVar_sgn S _ (by omega)]; omega
theorem cnt_below (k : Nat) : ∀ n, (List.range n).countP (fun i => decide (i < k)) = min n k
  | 0 => by simp
  | n + 1 => by
    rw [List.range_succ, List.countP_append, cnt_below k n, List.countP_cons, List.countP_nil]
    by_cases h : n < k
    · simp [h]; omega
    · simp [h]; omega
theorem cnt_mems (s : VS) (p : Int → Bool) : (mems s).countP p = (List.range 128).countP fun i : Nat => has s ((i : Int) + 1) && p ((i : Int) + 1) := by
  unfold mems
  rw [List.countP_filter, List.countP_map]
  refine List.countP_congr fun i _ => ?_
  simp only [Function.comp, Bool.and_comm]
theorem chL_len (S : VS) {k : Nat} (hk : k ≤ 128) : (mems (litsVS (chL S k))).length = k := by
  have h := cnt_mems (litsVS (chL S k)) fun _ => true
  rw [List.countP_true] at h
  rw [h]
  have e : ∀ i : Nat, (has (litsVS (chL S k)) ((i : Int) + 1) && true) = decide (i < k) := fun i => by
    rw [Bool.and_true, chL_lits S hk, decide_eq_true (show (1 : Int) ≤ (i : Int) + 1 by omega), Bool.true_and, Bool.eq_iff_iff]
    simp only [decide_eq_true_eq]; omega
  simp only [e]
  rw [cnt_below]; omega
theorem chL_ne (S : VS) {k : Nat} (hk : k ≤ 128) (h2 : 2 ≤ k) {x : Int} (hx : x ∈ numsTo k) : sOf (vsOf (chL S k)) x ≠ sOf (vsOf (chL S k)) (k : Int) := by
  have h := (mem_numsTo k x).1 hx
  obtain ⟨i, rfl⟩ : ∃ i : Nat, x = (i : Int) := ⟨x.toNat, by omega⟩
  intro e
  by_cases h0 : i = 0
  · have h1 := chL_v S hk (i := i) (by omega) 2
    rw [e, chL_vt S hk] at h1
    rw [decide_eq_true (show (1 : Int) ≤ 2 by decide), decide_eq_true (show (2 : Int) ≤ k by omega), decide_eq_false (show ¬ (2 : Int) = (i : Int) + 1 by omega)] at h1
    cases h1
  · have h1 := chL_v S hk (i := i) (by omega) 1
    rw [e, chL_vt S hk] at h1
    rw [decide_eq_true (show (1 : Int) ≤ 1 by decide), decide_eq_true (show (1 : Int) ≤ k by omega), decide_eq_false (show ¬ (1 : Int) = (i : Int) + 1 by omega)] at h1
    cases h1
theorem chL_eq (S : VS) {k : Nat} (hk : k ≤ 128) (h2 : k < 2) {x : Int} (hx : x ∈ numsTo k) : sOf (vsOf (chL S k)) x = sOf (vsOf (chL S k)) (k : Int) := by
  have h := (mem_numsTo k x).1 hx
  obtain ⟨i, rfl⟩ : ∃ i : Nat, x = (i : Int) := ⟨x.toNat, by omega⟩
  refine ext_has fun u h1 h2 => ?_
  rw [chL_v S hk (by omega), chL_vt S hk, Bool.eq_iff_iff]
  simp only [Bool.and_eq_true, decide_eq_true_eq]
  omega
theorem chL_smooth (S : VS) {k : Nat} (hk : k ≤ 128) : smoothB (chL S k) = decide (k < 2) := by
  have hD : ∀ i (h : i < k + 1), (chL S k).getD i ⟨0, 0, []⟩ = (chL S k)[i]'(by rw [chL_length]; omega) := fun i h => by
    rw [List.getD_eq_getElem?_getD, List.getElem?_eq_getElem (by rw [chL_length]; omega), Option.getD_some]
  by_cases h2 : k < 2
  · rw [decide_eq_true h2]
    unfold smoothB
    rw [List.all_eq_true]
    intro i hi
    have hi := List.mem_range.1 hi
    rw [chL_length] at hi
    rw [hD i hi]
    by_cases h : i < k
    · rw [chL_low S k i h]; rfl
    · obtain rfl : i = k := by omega
      rw [chL_top]
      simp only [bne_self_eq_false, Bool.false_or, List.all_eq_true, beq_iff_eq]
      exact fun x hx => chL_eq S hk h2 hx
  · rw [decide_eq_false h2]
    unfold smoothB
    rw [List.all_eq_false]
    refine ⟨k, List.mem_range.2 (by rw [chL_length]; omega), ?_⟩
    rw [hD k (by omega), chL_top]
    simp only [bne_self_eq_false, Bool.false_or, List.all_eq_true, beq_iff_eq]
    intro h
    exact chL_ne S hk (by omega) (x := 0) ((mem_numsTo k 0).2 (by omega)) (h 0 ((mem_numsTo k 0).2 (by omega)))
/-! ### the number of nodes of the smooth form -/
theorem mem_cons_b (u v : Int) (l : List Int) : decide (u ∈ v :: l) = (decide (u = v) || decide (u ∈ l)) := by
  rw [Bool.eq_iff_iff]; simp
theorem fillV_cnt : ∀ (l : List Int) (s : FS), l.Nodup → (fillV s l).out.length = s.out.length + 3 * l.countP (fun v => (s.ch v).isNone) ∧ ∀ u, ((fillV s l).ch u).isSome = ((s.ch u).isSome || decide (u ∈ l))
  | [], s, _ => ⟨by simp [fillV], fun u => by simp [fillV]⟩
  | v :: l, s, h => by
    obtain ⟨h1, h2⟩ := List.nodup_cons.1 h
    obtain ⟨i1, i2⟩ := fillV_cnt l (stepV s v) h2
    show (fillV (stepV s v) l).out.length = _ ∧ ∀ u, ((fillV (stepV s v) l).ch u).isSome = _
    rw [i1]
    cases hv : s.ch v with
    | some c =>
      have eo : (stepV s v).out = s.out := by unfold stepV; rw [hv]
      have ec : (stepV s v).ch = s.ch := by unfold stepV; rw [hv]
      rw [ec] at i2
      rw [eo, ec]
      rw [List.countP_cons, hv]
      refine ⟨by simp, fun u => ?_⟩
      rw [i2 u, mem_cons_b]
      by_cases e : u = v
      · subst e; rw [hv]; simp
      · simp [e]
    | none =>
      have eo : (stepV s v).out = s.out ++ choice v s.out.length := by unfold stepV; rw [hv]
      have ec : (stepV s v).ch = fun u => if u = v then some ((s.out.length : Int) + 2) else s.ch u := by unfold stepV; rw [hv]
      rw [ec] at i2
      rw [eo, ec]
      have e3 : l.countP (fun w => ((fun u => if u = v then some ((s.out.length : Int) + 2) else s.ch u) w).isNone) = l.countP (fun w => (s.ch w).isNone) := List.countP_congr fun w hw => by
        have : w ≠ v := fun e => h1 (e ▸ hw)
        simp [this]
      rw [e3, List.countP_cons, hv, List.length_append, show (choice v s.out.length).length = 3 from rfl]
      refine ⟨by simp; omega, fun u => ?_⟩
      rw [i2 u, mem_cons_b]
      by_cases e : u = v
      · subst e; simp
      · simp [e]
theorem mems_nodup (s : VS) : (mems s).Nodup := (mems_sorted s).imp fun h => Int.ne_of_lt h
theorem cnt_skip (k : Nat) (h1 : 1 ≤ k) : ∀ n, (List.range n).countP (fun i => decide (i < k) && !decide (i = 0)) = min n k - 1
  | 0 => by simp
  | n + 1 => by
    rw [List.range_succ, List.countP_append, cnt_skip k h1 n, List.countP_cons, List.countP_nil]
    by_cases h : n < k
    · by_cases h0 : n = 0
      · subst h0; simp; omega
      · simp [h, h0]; omega
    · simp [h]; omega
theorem cnt_zero : ∀ n, (List.range n).countP (fun i => decide (i = 0)) = min n 1
  | 0 => by simp
  | n + 1 => by
    rw [List.range_succ, List.countP_append, cnt_zero n, List.countP_cons, List.countP_nil]
    by_cases h0 : n = 0
    · subst h0; simp
    · simp [h0]; omega
/-- What the literals leave. -/
theorem chL_first (S : VS) (k j : Nat) (hj : j ≤ k) : smF (chL S k) (vsOf (chL S k)) (litsN S j) = ⟨litsN S j, fun _ => none, numsTo j⟩ := by
  induction j with
  | zero => rfl
  | succ j ih =>
    rw [litsN_succ, smF_snoc, ih (by omega)]
    unfold stepN insO
    simp only [List.foldl_nil]
    rw [litsN_length, ← numsTo_succ]
section
variable (S : VS) {k : Nat} (hk : k ≤ 128)
include hk
/-- The choices that there are when j of the inputs are through. -/
def doneB (k j : Nat) (u : Int) : Bool := decide (1 ≤ u) && decide (u ≤ k) && (decide (2 ≤ j) || (decide (j = 1) && decide (u ≠ 1)))
theorem chL_lack {i : Nat} (hi : i < k) (p : Int → Bool) : (mems (minus (sOf (vsOf (chL S k)) (k : Int)) (sOf (vsOf (chL S k)) (i : Int)))).countP p = (List.range 128).countP fun q : Nat => decide (q < k) && !decide (q = i) && p ((q : Int) + 1) := by
  rw [cnt_mems]
  refine List.countP_congr fun q _ => ?_
  have : has (minus (sOf (vsOf (chL S k)) (k : Int)) (sOf (vsOf (chL S k)) (i : Int))) ((q : Int) + 1) = (decide (q < k) && !decide (q = i)) := by
    rw [has_minus, chL_v S hk hi, chL_vt S hk, decide_eq_true (show (1 : Int) ≤ (q : Int) + 1 by omega), Bool.true_and]
    congr 1
    · rw [Bool.eq_iff_iff]; simp only [decide_eq_true_eq]; omega
    · congr 1; rw [Bool.eq_iff_iff]; simp only [decide_eq_true_eq]; omega
  rw [this]
theorem chL_step (h2 : 2 ≤ k) (j : Nat) (hj : j ≤ k) :
    (insO (chL S k) (vsOf (chL S k)) (numsTo k) true (sOf (vsOf (chL S k)) (k : Int)) ⟨litsN S k, fun _ => none, []⟩ (numsTo j)).out.length = k + (if j = 0 then 0 else if j = 1 then 3 * (k - 1) else 3 * k) + j ∧
    ∀ u, ((insO (chL S k) (vsOf (chL S k)) (numsTo k) true (sOf (vsOf (chL S k)) (k : Int)) ⟨litsN S k, fun _ => none, []⟩ (numsTo j)).ch u).isSome = doneB k j u := by
  induction j with
  | zero =>
    refine ⟨by show (litsN S k).length = _; rw [litsN_length]; simp, fun u => ?_⟩
    show false = _
    unfold doneB; simp
  | succ j ih =>
    obtain ⟨i1, i2⟩ := ih (by omega)
    rw [numsTo_succ, insO_snoc]
    generalize insO (chL S k) (vsOf (chL S k)) (numsTo k) true (sOf (vsOf (chL S k)) (k : Int)) ⟨litsN S k, fun _ => none, []⟩ (numsTo j) = s at i1 i2 ⊢
    have hne := chL_ne S hk h2 (x := (j : Int)) ((mem_numsTo k _).2 (by omega))
    unfold stepO
    rw [if_pos ⟨rfl, hne⟩]
    unfold fillO
    obtain ⟨f1, f2⟩ := fillV_cnt (mems (minus (sOf (vsOf (chL S k)) (k : Int)) (sOf (vsOf (chL S k)) (j : Int)))) ⟨s.out, s.ch, inn0 (chL S k) (numsTo k) (j : Int)⟩ (mems_nodup _)
    simp only at f1 f2 ⊢
    rw [chL_lack S hk (by omega)] at f1
    rw [List.length_append, f1, i1]
    constructor
    · have hN : ∀ u, (s.ch u).isNone = !doneB k j u := fun u => by rw [← i2 u]; cases s.ch u <;> rfl
      simp only [hN]
      by_cases j0 : j = 0
      · subst j0
        have e : ∀ q : Nat, (decide (q < k) && !decide (q = 0) && !doneB k 0 ((q : Int) + 1)) = (decide (q < k) && !decide (q = 0)) := fun q => by unfold doneB; simp
        simp only [e]
        rw [cnt_skip k (by omega)]
        simp; omega
      · by_cases j1 : j = 1
        · subst j1
          have e : ∀ q : Nat, (decide (q < k) && !decide (q = 1) && !doneB k 1 ((q : Int) + 1)) = decide (q = 0) := fun q => by
            by_cases h0 : q = 0
            · subst h0
              unfold doneB
              simp; omega
            · rw [decide_eq_false h0]
              by_cases hq : q < k
              · by_cases h1 : q = 1
                · simp [h1]
                · have : doneB k 1 ((q : Int) + 1) = true := by
                    unfold doneB
                    simp; omega
                  rw [this]; simp
              · simp [hq]
          simp only [e]
          rw [cnt_zero]
          simp; omega
        · have e : ∀ q : Nat, (decide (q < k) && !decide (q = j) && !doneB k j ((q : Int) + 1)) = false := fun q => by
            unfold doneB
            rw [decide_eq_true (show 2 ≤ j by omega), Bool.true_or, Bool.and_true, decide_eq_true (show (1 : Int) ≤ (q : Int) + 1 by omega), Bool.true_and]
            by_cases h : q < k
            · rw [decide_eq_true (show (q : Int) + 1 ≤ k by omega)]; simp
            · rw [decide_eq_false h]; simp
          simp only [e]
          rw [List.countP_eq_zero.2 (by simp)]
          rw [if_neg j0, if_neg j1, if_neg (by omega), if_neg (by omega)]
          simp; omega
    · intro u
      rw [f2 u, i2 u]
      have em : decide (u ∈ mems (minus (sOf (vsOf (chL S k)) (k : Int)) (sOf (vsOf (chL S k)) (j : Int)))) = (decide (1 ≤ u) && decide (u ≤ k) && !decide (u = (j : Int) + 1)) := by
        rw [Bool.eq_iff_iff, decide_eq_true_eq, mem_mems, has_minus, chL_vt S hk, chL_v S hk (by omega)]
      rw [em]
      unfold doneB
      rw [Bool.eq_iff_iff]
      simp only [Bool.and_eq_true, Bool.or_eq_true, Bool.not_eq_true', decide_eq_true_eq, decide_eq_false_iff_not, ne_eq]
      omega
theorem chL_smT : (smT (chL S k)).length = if 1 < k then 5 * k + 1 else k + 1 := by
  by_cases h2 : 2 ≤ k
  · rw [if_pos (by omega)]
    obtain ⟨h, _⟩ := chL_step S hk h2 k (Nat.le_refl _)
    rw [if_neg (by omega), if_neg (by omega)] at h
    unfold smT
    have e : smF (chL S k) (vsOf (chL S k)) (chL S k) = stepN (chL S k) (vsOf (chL S k)) (smF (chL S k) (vsOf (chL S k)) (litsN S k)) ⟨4, 0, numsTo k⟩ := smF_snoc _ _ _ _
    rw [e, chL_first S k k (Nat.le_refl _)]
    unfold stepN
    simp only [numsTo_length, List.length_append, beq_self_eq_true]
    rw [h]
    simp; omega
  · rw [if_neg (by omega), smT_id (chL_valid S hk) (by rw [chL_smooth S hk]; exact decide_eq_true (by omega)), chL_length]
end
theorem chL_ins {S : VS} {k : Nat} (hk : k ≤ 128) : ∀ x ∈ chL S k, x.ins.length ≤ 128 := fun x hx => by
  rcases chL_mem hx with ⟨i, _, rfl⟩ | rfl
  · simp
  · show (numsTo k).length ≤ 128; rw [numsTo_length]; exact hk
end Go.Proofs.YtpdbfbjfodckgaaDoor
