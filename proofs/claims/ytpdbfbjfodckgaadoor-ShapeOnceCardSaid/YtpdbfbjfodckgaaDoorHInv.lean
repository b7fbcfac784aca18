/- Plain mathematics of nets: what the smooth form keeps (its nodes, choices and moved nodes). No program in sight. -/
import Derived.Test.YtpdbfbjfodckgaaDoorHSmP
import Derived.Test.YtpdbfbjfodckgaaDoorHDetP
namespace Go.Proofs.YtpdbfbjfodckgaaDoor

/-! ### attributes of places, as nodes are added -/
theorem scanF_app {α β : Type} (f : List β → α → β) (l t : List α) : (scanF f (l ++ t)).take l.length = scanF f l := by
  have := scanF_take f (l ++ t) l.length (by simp)
  rwa [List.take_left] at this
theorem nOf_app {L t : List NodeT} {i : Int} (h : i < (L.length : Int)) : nOf (L ++ t) i = nOf L i := by
  unfold nOf
  by_cases h0 : 0 ≤ i
  · rw [if_pos h0, if_pos h0, List.getD_eq_getElem?_getD, List.getD_eq_getElem?_getD, List.getElem?_append_left (by omega)]
  · rw [if_neg h0, if_neg h0]
theorem V_app {L t : List NodeT} {i : Int} (h : i < (L.length : Int)) : sOf (vsOf (L ++ t)) i = sOf (vsOf L) i := by
  have e : (vsOf (L ++ t)).take L.length = vsOf L := scanF_app vsNode L t
  rw [← sOf_take (vsOf (L ++ t)) L.length i h, e]
theorem B_app {A : Int → Bool} {L t : List NodeT} {i : Int} (h : i < (L.length : Int)) : bOf (bsOf A (L ++ t)) i = bOf (bsOf A L) i := by
  have e : (bsOf A (L ++ t)).take L.length = bsOf A L := scanF_app (bNode A) L t
  rw [← bOf_take (bsOf A (L ++ t)) L.length i h, e]
theorem nOf_new (L : List NodeT) (x : NodeT) : nOf (L ++ [x]) (L.length : Int) = x := by
  rw [nOf_nat _ _ (by simp)]; simp
theorem V_new (L : List NodeT) (x : NodeT) : sOf (vsOf (L ++ [x])) (L.length : Int) = vsNode (vsOf L) x := by
  have e : vsOf (L ++ [x]) = vsOf L ++ [vsNode (vsOf L) x] := scanF_snoc _ _ _
  unfold sOf
  rw [if_pos (by omega), Int.toNat_natCast, e, List.getD_eq_getElem?_getD, List.getElem?_append_right (by rw [vsOf_length]; omega), vsOf_length, Nat.sub_self]; rfl
theorem B_new (A : Int → Bool) (L : List NodeT) (x : NodeT) : bOf (bsOf A (L ++ [x])) (L.length : Int) = bNode A (bsOf A L) x := by
  have e : bsOf A (L ++ [x]) = bsOf A L ++ [bNode A (bsOf A L) x] := scanF_snoc _ _ _
  unfold bOf
  rw [if_pos (by omega), Int.toNat_natCast, e, List.getD_eq_getElem?_getD, List.getElem?_append_right (by rw [bsOf_length]; omega), bsOf_length, Nat.sub_self]; rfl
theorem litsOf_congr {L M : List NodeT} : ∀ {l : List Int}, (∀ x ∈ l, nOf L x = nOf M x) → litsOf L l = litsOf M l := by
  intro l h
  unfold litsOf
  induction l with
  | nil => rfl
  | cons x l ih => rw [List.filterMap_cons, List.filterMap_cons, h x List.mem_cons_self, ih fun y hy => h y (List.mem_cons_of_mem _ hy)]
theorem heads_app {L t : List NodeT} {i : Int} (h : i < (L.length : Int)) (hi : ∀ k ∈ (nOf L i).ins, k < (L.length : Int)) : heads (L ++ t) i = heads L i := by
  unfold heads
  rw [nOf_app h, litsOf_congr fun x hx => nOf_app (hi x hx)]
theorem disj_congr {M N : List VS} : ∀ {l : List Int} {s : VS}, (∀ x ∈ l, sOf M x = sOf N x) → disj M s l = disj N s l
  | [], _, _ => rfl
  | x :: l, s, h => by
    show ((s &&& sOf M x == 0) && disj M (s ||| sOf M x) l) = ((s &&& sOf N x == 0) && disj N (s ||| sOf N x) l)
    rw [h x List.mem_cons_self, disj_congr fun y hy => h y (List.mem_cons_of_mem _ hy)]
theorem disj_append {M : List VS} : ∀ (a b : List Int) (s : VS), disj M s (a ++ b) = (disj M s a && disj M (orIns M s a) b)
  | [], _, _ => rfl
  | x :: a, b, s => by
    show ((s &&& sOf M x == 0) && disj M (s ||| sOf M x) (a ++ b)) = (((s &&& sOf M x == 0) && disj M (s ||| sOf M x) a) && disj M (orIns M (s ||| sOf M x) a) b)
    rw [disj_append a b, Bool.and_assoc]
theorem orIns_append (M : List VS) (s : VS) (a b : List Int) : orIns M s (a ++ b) = orIns M (orIns M s a) b := by unfold orIns; rw [List.foldl_append]
theorem has_orIns (M : List VS) : ∀ (l : List Int) (s : VS) (u : Int), has (orIns M s l) u = true ↔ has s u = true ∨ ∃ k ∈ l, has (sOf M k) u = true
  | [], s, u => by simp [orIns]
  | x :: l, s, u => by
    show has (orIns M (s ||| sOf M x) l) u = true ↔ _
    rw [has_orIns M l, has_or, Bool.or_eq_true]
    simp only [List.mem_cons, exists_eq_or_imp]
    exact or_assoc
theorem ofL_lit0 : ofL [litVar 0] = 0 := by decide +kernel
theorem ext_iff {a b : VS} (h : ∀ u, has a u = true ↔ has b u = true) : a = b := ext_has fun u _ _ => by
  have := h u
  cases ha : has a u <;> cases hb : has b u <;> simp_all
/-! ### good nodes -/
/-- A node that is good behind the nodes out; those of the properties that the net L has. -/
structure NodeOk (n : Int) (L out : List NodeT) (x : NodeT) : Prop where
  form : formed x n (out.length : Int) = true
  smooth : x.kind = 4 → ∀ k ∈ x.ins, sOf (vsOf out) k = vsNode (vsOf out) x
  dec : decomB L = true → x.kind = 3 → disj (vsOf out) 0 x.ins = true
  det : (∀ A, orOk A L = true) → x.kind = 4 → ∀ A, bdisj (bsOf A out) false x.ins = true
  dcn : decideB L = true → x.kind = 4 → x.ins.length = 2 ∧ opp (heads out (x.ins.getD 0 0)) (heads out (x.ins.getD 1 0)) = true
def AllOk (n : Int) (L out : List NodeT) : Prop := ∀ i (h : i < out.length), NodeOk n L (out.take i) out[i]
theorem AllOk.nil (n : Int) (L : List NodeT) : AllOk n L [] := fun i h => absurd h (by simp)
theorem AllOk.snoc {n : Int} {L out : List NodeT} {x : NodeT} (h : AllOk n L out) (hx : NodeOk n L out x) : AllOk n L (out ++ [x]) := by
  intro i hi
  by_cases e : i < out.length
  · rw [List.getElem_append_left e, List.take_append_of_le_length (by omega)]
    exact h i e
  · have : i = out.length := by simp at hi; omega
    subst this
    rw [List.take_left]
    simpa using hx
theorem AllOk.form {n : Int} {L out : List NodeT} (h : AllOk n L out) : formedTo n out out.length := by
  intro i hi _
  have := (h i hi).form
  rwa [List.length_take, Nat.min_eq_left (by omega)] at this
theorem form_ins {n before : Int} {x : NodeT} (h : formed x n before = true) : ∀ k ∈ x.ins, 0 ≤ k ∧ k < before := by
  intro k hk
  unfold formed at h
  split at h
  · cases h
  · rename_i hb
    rw [Bool.not_eq_true] at hb
    unfold badIn at hb
    rw [List.any_eq_false] at hb
    have := hb k hk
    simp only [Bool.or_eq_true, decide_eq_true_eq, not_or] at this
    omega
theorem badIn_no {l : List Int} {m : Int} (h : ∀ k ∈ l, 0 ≤ k ∧ k < m) : badIn l m = false := by
  unfold badIn
  rw [List.any_eq_false]
  intro k hk
  have := h k hk
  simp only [Bool.or_eq_true, decide_eq_true_eq, not_or]
  omega
theorem nOf_ins {n : Int} {L : List NodeT} (h : formedTo n L L.length) (i : Int) : ∀ k ∈ (nOf L i).ins, 0 ≤ k ∧ k < i ∧ k < (L.length : Int) := by
  intro k hk
  unfold nOf at hk
  by_cases h0 : 0 ≤ i
  · rw [if_pos h0] at hk
    by_cases hl : i.toNat < L.length
    · rw [List.getD_eq_getElem?_getD, List.getElem?_eq_getElem hl, Option.getD_some] at hk
      have := form_ins (h i.toNat hl hl) k hk
      omega
    · rw [List.getD_eq_getElem?_getD, List.getElem?_eq_none (by omega), Option.getD_none] at hk
      simp at hk
  · rw [if_neg h0] at hk; simp at hk
/-! ### choices -/
theorem lit_attr {n : Int} {out : List NodeT} (hf : formedTo n out out.length) {k : Nat} {l : Int} (h : out[k]? = some ⟨2, l, []⟩) :
    k < out.length ∧ nOf out (k : Int) = ⟨2, l, []⟩ ∧ sOf (vsOf out) (k : Int) = ofL [litVar l] ∧ ∀ A, bOf (bsOf A out) (k : Int) = litB A l := by
  obtain ⟨hk, e⟩ := List.getElem?_eq_some_iff.1 h
  refine ⟨hk, by rw [nOf_nat _ _ hk, e], ?_, fun A => ?_⟩
  · rw [vsOf_get hf hk, e]; rfl
  · rw [bsOf_get A hf hk, e]; rfl
/-- c is the choice of v. -/
def Chs (n : Int) (out : List NodeT) (v c : Int) : Prop := ∃ b : Nat, c = (b : Int) + 2 ∧ 1 ≤ v ∧ v ≤ n ∧ out[b]? = some ⟨2, -v, []⟩ ∧ out[b + 1]? = some ⟨2, v, []⟩ ∧ out[b + 2]? = some ⟨4, 0, [(b : Int), (b : Int) + 1]⟩
theorem get_app {α : Type} {l t : List α} {i : Nat} {x : α} (h : l[i]? = some x) : (l ++ t)[i]? = some x := by
  obtain ⟨hi, e⟩ := List.getElem?_eq_some_iff.1 h
  rw [List.getElem?_append_left hi, h]
theorem Chs.app {n : Int} {out t : List NodeT} {v c : Int} (h : Chs n out v c) : Chs n (out ++ t) v c := by
  obtain ⟨b, e, h1, h2, a1, a2, a3⟩ := h
  exact ⟨b, e, h1, h2, get_app a1, get_app a2, get_app a3⟩
theorem litVar_pos {v : Int} (h1 : 1 ≤ v) (h2 : v ≤ 128) : litVar v = v ∧ litVar (-v) = v := by unfold litVar; constructor <;> (split <;> (try split) <;> omega)
theorem Chs.lt {n : Int} {out : List NodeT} {v c : Int} (h : Chs n out v c) : 0 ≤ c ∧ c < (out.length : Int) := by
  obtain ⟨b, e, h1, h2, a1, a2, a3⟩ := h
  have := (List.getElem?_eq_some_iff.1 a3).1
  omega
theorem Chs.V {n : Int} (hn : n ≤ 128) {out : List NodeT} (hf : formedTo n out out.length) {v c : Int} (h : Chs n out v c) : sOf (vsOf out) c = ofL [v] := by
  obtain ⟨b, rfl, h1, h2, a1, a2, a3⟩ := h
  obtain ⟨_, _, e1, _⟩ := lit_attr hf a1
  obtain ⟨_, _, e2, _⟩ := lit_attr hf a2
  obtain ⟨hk, e⟩ := List.getElem?_eq_some_iff.1 a3
  obtain ⟨p1, p2⟩ := litVar_pos h1 (by omega)
  have : sOf (vsOf out) ((b + 2 : Nat) : Int) = (ofL [litVar 0] ||| sOf (vsOf out) (b : Int)) ||| sOf (vsOf out) ((b : Int) + 1) := by rw [vsOf_get hf hk, e]; rfl
  rw [show ((b : Int) + 2) = ((b + 2 : Nat) : Int) by omega, this, show ((b : Int) + 1) = ((b + 1 : Nat) : Int) by omega, e1, e2, p1, p2, ofL_lit0]
  refine ext_iff fun u => ?_
  rw [has_or, has_or, has_zero]; simp
theorem Chs.B {n : Int} (hn : n ≤ 128) {out : List NodeT} (hf : formedTo n out out.length) {v c : Int} (h : Chs n out v c) (A : Int → Bool) : bOf (bsOf A out) c = true := by
  obtain ⟨b, rfl, h1, h2, a1, a2, a3⟩ := h
  obtain ⟨_, _, _, e1⟩ := lit_attr hf a1
  obtain ⟨_, _, _, e2⟩ := lit_attr hf a2
  obtain ⟨hk, e⟩ := List.getElem?_eq_some_iff.1 a3
  obtain ⟨p1, p2⟩ := litVar_pos h1 (by omega)
  have : bOf (bsOf A out) ((b + 2 : Nat) : Int) = (bOf (bsOf A out) (b : Int) || (bOf (bsOf A out) ((b : Int) + 1) || false)) := by rw [bsOf_get A hf hk, e]; rfl
  rw [show ((b : Int) + 2) = ((b + 2 : Nat) : Int) by omega, this, show ((b : Int) + 1) = ((b + 1 : Nat) : Int) by omega, e1, e2]
  unfold litB
  rw [if_pos (by omega), if_neg (by omega), p1, p2]
  cases A v <;> rfl
theorem litNode_ok {n : Int} {L out : List NodeT} {l : Int} (h : litVar l ≠ 0 ∧ litVar l ≤ n) : NodeOk n L out ⟨2, l, []⟩ where
  form := by unfold formed badIn litValid; simp [h]
  smooth := fun h => absurd h (show ¬ (2 : Int) = 4 by decide)
  dec := fun _ h => absurd h (show ¬ (2 : Int) = 3 by decide)
  det := fun _ h => absurd h (show ¬ (2 : Int) = 4 by decide)
  dcn := fun _ h => absurd h (show ¬ (2 : Int) = 4 by decide)
theorem or_self_v (v : Int) : ((0 : VS) ||| ofL [v]) ||| ofL [v] = ofL [v] := by
  refine ext_iff fun u => ?_
  rw [has_or, has_or, has_zero]; simp
theorem orNode_ok {n : Int} {L O : List NodeT} {v b : Int} (h0 : 0 ≤ b) (hb : b + 1 < (O.length : Int)) (h1 : 1 ≤ v) (h2 : v ≤ 128)
    (v1 : sOf (vsOf O) b = ofL [v]) (v2 : sOf (vsOf O) (b + 1) = ofL [v]) (b1 : ∀ A, bOf (bsOf A O) b = litB A (-v)) (b2 : ∀ A, bOf (bsOf A O) (b + 1) = litB A v)
    (n1 : heads O b = [-v]) (n2 : heads O (b + 1) = [v]) : NodeOk n L O ⟨4, 0, [b, b + 1]⟩ where
  form := by
    unfold formed
    rw [badIn_no (fun k hk => by
      simp only [List.mem_cons, List.not_mem_nil, or_false] at hk
      omega)]
    rfl
  smooth := fun _ k hk => by
    have hvk : sOf (vsOf O) k = ofL [v] := by
      simp only [List.mem_cons, List.not_mem_nil, or_false] at hk
      rcases hk with rfl | rfl
      · exact v1
      · exact v2
    rw [hvk]
    unfold vsNode orIns
    simp only [List.foldl_cons, List.foldl_nil]
    rw [v1, v2, ofL_lit0, or_self_v]
  dec := fun _ h => absurd h (show ¬ (4 : Int) = 3 by decide)
  det := fun _ _ A => by
    obtain ⟨p1, p2⟩ := litVar_pos h1 h2
    have e : bdisj (bsOf A O) false [b, b + 1] = (!(false && bOf (bsOf A O) b) && (!((false || bOf (bsOf A O) b) && bOf (bsOf A O) (b + 1)) && true)) := rfl
    simp only
    rw [e, b1, b2]
    unfold litB
    rw [if_pos (by omega), if_neg (by omega), p1, p2]
    cases A v <;> rfl
  dcn := fun _ _ => by
    refine ⟨rfl, ?_⟩
    simp only [List.getD_cons_zero, List.getD_cons_succ]
    rw [n1, n2]
    unfold opp; simp
def ChOk (n : Int) (out : List NodeT) (ch : Int → Option Int) : Prop := ∀ v c, ch v = some c → Chs n out v c
theorem ChOk.app {n : Int} {out t : List NodeT} {ch : Int → Option Int} (h : ChOk n out ch) : ChOk n (out ++ t) ch := fun v c e => (h v c e).app
theorem choice_ok {n : Int} (hn : n ≤ 128) {L out : List NodeT} (h : AllOk n L out) {v : Int} (h1 : 1 ≤ v) (h2 : v ≤ n) :
    AllOk n L (out ++ choice v out.length) ∧ Chs n (out ++ choice v out.length) v ((out.length : Int) + 2) := by
  obtain ⟨p1, p2⟩ := litVar_pos h1 (by omega)
  have e : out ++ choice v out.length = ((out ++ [⟨2, -v, []⟩]) ++ [⟨2, v, []⟩]) ++ [⟨4, 0, [(out.length : Int), (out.length : Int) + 1]⟩] := by unfold choice; simp
  have k1 : AllOk n L (out ++ [⟨2, -v, []⟩]) := h.snoc (litNode_ok ⟨by omega, by omega⟩)
  have k2 : AllOk n L ((out ++ [⟨2, -v, []⟩]) ++ [⟨2, v, []⟩]) := k1.snoc (litNode_ok ⟨by omega, by omega⟩)
  have g1 : ((out ++ [⟨2, -v, []⟩]) ++ [⟨2, v, []⟩] : List NodeT)[out.length]? = some ⟨2, -v, []⟩ := by simp
  have g2 : ((out ++ [⟨2, -v, []⟩]) ++ [⟨2, v, []⟩] : List NodeT)[out.length + 1]? = some ⟨2, v, []⟩ := by simp
  obtain ⟨_, n1, v1, b1⟩ := lit_attr k2.form g1
  obtain ⟨_, n2, v2, b2⟩ := lit_attr k2.form g2
  rw [p2] at v1; rw [p1] at v2
  have c2 : ((out.length + 1 : Nat) : Int) = (out.length : Int) + 1 := by omega
  rw [c2] at n2 v2 b2
  rw [e]
  refine ⟨k2.snoc ?_, out.length, rfl, h1, h2, by simp, by simp, by simp⟩
  generalize (out ++ [⟨2, -v, []⟩]) ++ [⟨2, v, []⟩] = O at *
  refine orNode_ok (by omega) (by have := (List.getElem?_eq_some_iff.1 g2).1; omega) h1 (by omega) v1 v2 b1 b2 ?_ ?_
  · unfold heads; rw [n1, if_pos rfl]
  · unfold heads; rw [n2, if_pos rfl]
/-- The choices of variables. -/
inductive AllCh (n : Int) (out : List NodeT) : List Int → List Int → Prop
  | nil : AllCh n out [] []
  | cons {v c : Int} {l cs : List Int} : Chs n out v c → AllCh n out l cs → AllCh n out (v :: l) (c :: cs)
theorem AllCh.app {n : Int} {out t : List NodeT} : ∀ {l cs : List Int}, AllCh n out l cs → AllCh n (out ++ t) l cs
  | _, _, .nil => .nil
  | _, _, .cons a b => .cons a.app b.app
theorem AllCh.lt {n : Int} {out : List NodeT} : ∀ {l cs : List Int}, AllCh n out l cs → ∀ c ∈ cs, 0 ≤ c ∧ c < (out.length : Int)
  | _, _, .nil, c, hc => by simp at hc
  | _, _, .cons a b, c, hc => by
    rcases List.mem_cons.1 hc with rfl | hc
    · exact a.lt
    · exact b.lt c hc
theorem AllCh.V {n : Int} (hn : n ≤ 128) {out : List NodeT} (hf : formedTo n out out.length) : ∀ {l cs : List Int} {s : VS}, AllCh n out l cs → ∀ u, has (orIns (vsOf out) s cs) u = true ↔ has s u = true ∨ u ∈ l
  | _, _, s, .nil, u => by simp [orIns]
  | v :: l, c :: cs, s, .cons a b, u => by
    show has (orIns (vsOf out) (s ||| sOf (vsOf out) c) cs) u = true ↔ _
    rw [b.V hn hf, has_or, Bool.or_eq_true, a.V hn hf, has_ofL]
    obtain ⟨_, _, h1, h2, _⟩ := a
    simp only [List.mem_cons, List.not_mem_nil, or_false, Bool.and_eq_true, decide_eq_true_eq]
    constructor
    · rintro ((h | ⟨⟨rfl, _⟩, _⟩) | h)
      · exact .inl h
      · exact .inr (.inl rfl)
      · exact .inr (.inr h)
    · rintro (h | rfl | h)
      · exact .inl (.inl h)
      · exact .inl (.inr ⟨⟨rfl, h1⟩, by omega⟩)
      · exact .inr h
theorem AllCh.B {n : Int} (hn : n ≤ 128) {out : List NodeT} (hf : formedTo n out out.length) (A : Int → Bool) : ∀ {l cs : List Int}, AllCh n out l cs → cs.all (bOf (bsOf A out)) = true
  | _, _, .nil => rfl
  | _, _, .cons a b => by rw [List.all_cons, a.B hn hf A, b.B hn hf A]; rfl
theorem AllCh.disj {n : Int} (hn : n ≤ 128) {out : List NodeT} (hf : formedTo n out out.length) : ∀ {l cs : List Int} {s : VS}, AllCh n out l cs → l.Pairwise (· < ·) → (∀ v ∈ l, has s v = false) → disj (vsOf out) s cs = true
  | _, _, _, .nil, _, _ => rfl
  | v :: l, c :: cs, s, .cons a b, hp, hs => by
    show ((s &&& sOf (vsOf out) c == 0) && Go.Proofs.YtpdbfbjfodckgaaDoor.disj (vsOf out) (s ||| sOf (vsOf out) c) cs) = true
    rw [List.pairwise_cons] at hp
    have hV := a.V hn hf
    have e1 : (s &&& sOf (vsOf out) c == 0) = true := by
      rw [beq_iff_eq, hV]
      refine ext_iff fun u => ?_
      rw [has_and, has_ofL, has_zero]
      constructor
      · intro h
        simp only [Bool.and_eq_true, decide_eq_true_eq, List.mem_cons, List.not_mem_nil, or_false] at h
        obtain ⟨h, ⟨rfl, _⟩, _⟩ := h
        rw [hs _ List.mem_cons_self] at h; cases h
      · intro h; cases h
    rw [e1, Bool.true_and]
    refine b.disj hn hf hp.2 fun u hu => ?_
    rw [has_or, hs u (List.mem_cons_of_mem _ hu), hV, has_ofL]
    have := hp.1 u hu
    simp only [List.mem_cons, List.not_mem_nil, or_false, Bool.false_or]
    rw [decide_eq_false (by omega)]; rfl
theorem stepV_ok {n : Int} (hn : n ≤ 128) {L : List NodeT} {s : FS} (h : AllOk n L s.out) (hc : ChOk n s.out s.ch) {v : Int} (h1 : 1 ≤ v) (h2 : v ≤ n) :
    AllOk n L (stepV s v).out ∧ ChOk n (stepV s v).out (stepV s v).ch ∧ ∃ c, (stepV s v).inn = s.inn ++ [c] ∧ Chs n (stepV s v).out v c := by
  cases e : s.ch v with
  | some c =>
    have : stepV s v = ⟨s.out, s.ch, s.inn ++ [c]⟩ := by unfold stepV; rw [e]
    rw [this]
    exact ⟨h, hc, c, rfl, hc v c e⟩
  | none =>
    have : stepV s v = ⟨s.out ++ choice v s.out.length, fun u => if u = v then some ((s.out.length : Int) + 2) else s.ch u, s.inn ++ [(s.out.length : Int) + 2]⟩ := by unfold stepV; rw [e]
    rw [this]
    obtain ⟨k1, k2⟩ := choice_ok hn h h1 h2
    refine ⟨k1, fun u c hu => ?_, _, rfl, k2⟩
    by_cases eu : u = v
    · subst eu
      simp only [if_pos] at hu
      injection hu with hu
      exact hu ▸ k2
    · simp only [if_neg eu] at hu
      exact (hc u c hu).app
theorem fillV_ok {n : Int} (hn : n ≤ 128) {L : List NodeT} : ∀ (l : List Int) (s : FS), AllOk n L s.out → ChOk n s.out s.ch → (∀ v ∈ l, 1 ≤ v ∧ v ≤ n) →
    AllOk n L (fillV s l).out ∧ ChOk n (fillV s l).out (fillV s l).ch ∧ ∃ cs, (fillV s l).inn = s.inn ++ cs ∧ AllCh n (fillV s l).out l cs
  | [], s, h, hc, _ => ⟨h, hc, [], (List.append_nil _).symm, .nil⟩
  | v :: l, s, h, hc, hl => by
    obtain ⟨r1, r2⟩ := hl v List.mem_cons_self
    obtain ⟨a1, a2, c, a3, a4⟩ := stepV_ok hn h hc r1 r2
    obtain ⟨b1, b2, cs, b3, b4⟩ := fillV_ok hn l (stepV s v) a1 a2 fun u hu => hl u (List.mem_cons_of_mem _ hu)
    refine ⟨b1, b2, c :: cs, ?_, ?_⟩
    · show (fillV (stepV s v) l).inn = _
      rw [b3, a3, List.append_assoc]; rfl
    · obtain ⟨t, ht⟩ := fillV_out l (stepV s v)
      have : Chs n (fillV (stepV s v) l).out v c := by rw [ht]; exact a4.app
      exact .cons this b4
end Go.Proofs.YtpdbfbjfodckgaaDoor
