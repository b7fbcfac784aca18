/- Plain mathematics of nets: the smooth form as a whole. No program in sight. -/
import Derived.Test.YtpdbfbjfodckgaaDoorHInv2
namespace Go.Proofs.YtpdbfbjfodckgaaDoor

theorem opp_mono {a b a' b' : List Int} (h : opp a b = true) (ha : ∀ l ∈ a, l ∈ a') (hb : ∀ l ∈ b, l ∈ b') : opp a' b' = true := by
  unfold opp at h ⊢
  rw [List.any_eq_true] at h ⊢
  obtain ⟨l, hl, hc⟩ := h
  have hc' : -l ∈ a := by simpa using hc
  exact ⟨l, hb l hl, by simpa using ha _ hc'⟩
theorem vars_le {n : Int} {L : List NodeT} (hf : formedTo n L L.length) : ∀ (k : Nat), k < L.length → ∀ u, has (sOf (vsOf L) (k : Int)) u = true → u ≤ n := by
  intro k
  induction k using Nat.strongRecOn with
  | _ k ih =>
    intro hk u hu
    rw [vsOf_get hf hk, has_orIns] at hu
    rcases hu with h | ⟨j, hj, h⟩
    · rw [has_ofL] at h
      simp only [Bool.and_eq_true, decide_eq_true_eq, List.mem_cons, List.not_mem_nil, or_false] at h
      obtain ⟨⟨rfl, h1⟩, h2⟩ := h
      have hfk : formed L[k] n k = true := hf k hk hk
      unfold formed at hfk
      split at hfk
      · cases hfk
      · by_cases k01 : L[k].kind = 0 ∨ L[k].kind = 1
        · rw [if_pos k01] at hfk
          simp only [Bool.and_eq_true, decide_eq_true_eq] at hfk
          rw [hfk.1, show litVar 0 = 0 from rfl] at h1; omega
        · rw [if_neg k01] at hfk
          by_cases k2 : L[k].kind = 2
          · rw [if_pos k2] at hfk
            simp only [litValid, Bool.and_eq_true, decide_eq_true_eq] at hfk
            exact hfk.1.2
          · rw [if_neg k2] at hfk
            by_cases k34 : L[k].kind = 3 ∨ L[k].kind = 4
            · rw [if_pos k34, decide_eq_true_eq] at hfk
              rw [hfk, show litVar 0 = 0 from rfl] at h1; omega
            · rw [if_neg k34] at hfk; cases hfk
    · have hj2 := ins_lt hf hk j hj
      obtain ⟨m, rfl⟩ : ∃ m : Nat, j = (m : Int) := ⟨j.toNat, by omega⟩
      exact ih m (by omega) (by omega) u h
theorem iOf_new (A : List Int) (m : Int) : iOf (A ++ [m]) (A.length : Int) = m := by
  rw [iOf_nat _ _ (by simp)]; simp
theorem formed_map {n a b : Int} {x : NodeT} {l : List Int} (h : formed x n a = true) (hl : l.length = x.ins.length) (hr : ∀ k ∈ l, 0 ≤ k ∧ k < b) : formed ⟨x.kind, x.lit, l⟩ n b = true := by
  have hnil : (l = []) ↔ (x.ins = []) := by rw [← List.length_eq_zero_iff, ← List.length_eq_zero_iff, hl]
  unfold formed at h ⊢
  rw [badIn_no hr]
  split at h
  · cases h
  · simp only [Bool.false_eq_true, if_false, hnil]
    exact h
theorem ats_new {n : Int} {L : List NodeT} (hf : formedTo n L L.length) {out out' : List NodeT} {A : List Int} (hA : Ats L out A) {t : List NodeT} (ht : out' = out ++ t) {m : Int} (hm : AtOk L out' (A ++ [m]) (A.length : Int)) : Ats L out' (A ++ [m]) := by
  intro old h0 h1
  by_cases e : old = (A.length : Int)
  · subst e; exact hm
  · have h2 : old < (A.length : Int) := by simp only [List.length_append, List.length_cons, List.length_nil] at h1; omega
    have := (hA old h0 h2).app (t := t)
    rw [← ht] at this
    exact this.snoc hf h2
theorem stepN_ok {n : Int} (hn : n ≤ 128) {L : List NodeT} (hf : formedTo n L L.length) {s : SM} (h : Inv n L s.out s.ch s.at_) (hk : s.at_.length < L.length) :
    Inv n L (stepN L (vsOf L) s L[s.at_.length]).out (stepN L (vsOf L) s L[s.at_.length]).ch (stepN L (vsOf L) s L[s.at_.length]).at_ ∧
    iOf (stepN L (vsOf L) s L[s.at_.length]).at_ (s.at_.length : Int) = ((stepN L (vsOf L) s L[s.at_.length]).out.length : Int) - 1 := by
  obtain ⟨out, ch, A⟩ := s
  simp only at h hk ⊢
  have hfk : formed L[A.length] n (A.length : Int) = true := hf A.length hk hk
  have hin := form_ins hfk
  have hVk := vsOf_get hf hk
  have hBk := fun S => bsOf_get S hf hk
  have hnk : nOf L (A.length : Int) = L[A.length] := nOf_nat L _ hk
  by_cases h4 : L[A.length].kind = 4
  · have hlit := form_and hfk (.inr h4)
    have hsub : ∀ old ∈ L[A.length].ins, 0 ≤ old ∧ old < (A.length : Int) ∧ ∀ u, has (sOf (vsOf L) old) u = true → has (sOf (vsOf L) (A.length : Int)) u = true := fun old ho => by
      have := hin old ho
      refine ⟨this.1, this.2, fun u hu => ?_⟩
      rw [hVk, has_orIns]
      exact .inr ⟨old, ho, hu⟩
    obtain ⟨a1, ms, a2, a3⟩ := insO_or hn hf (by omega) (vars_le hf A.length hk) L[A.length].ins ⟨out, ch, []⟩ h hsub
    obtain ⟨t, ht⟩ := insO_out L (vsOf L) A true (sOf (vsOf L) (A.length : Int)) L[A.length].ins ⟨out, ch, []⟩
    simp only [List.nil_append] at a2
    unfold stepN
    simp only [h4, beq_self_eq_true]
    rw [a2, hlit]
    generalize insO L (vsOf L) A true (sOf (vsOf L) (A.length : Int)) ⟨out, ch, []⟩ L[A.length].ins = r at *
    have hlt : ∀ m ∈ ms, 0 ≤ m ∧ m < (r.out.length : Int) := fun m hm => by
      obtain ⟨o, _, i⟩ := a3.mem m hm
      exact ⟨i.low, i.high⟩
    have hV : vsNode (vsOf r.out) ⟨4, 0, ms⟩ = sOf (vsOf L) (A.length : Int) := by
      refine ext_iff fun u => ?_
      unfold vsNode
      rw [has_orIns, ofL_lit0, has_zero, hVk, has_orIns, hlit, ofL_lit0, has_zero]
      constructor
      · rintro (h | ⟨m, hm, hu⟩)
        · cases h
        · obtain ⟨o, _, i⟩ := a3.mem m hm
          rw [i.v, hVk, has_orIns, hlit, ofL_lit0, has_zero] at hu
          exact hu
      · rintro (h | ⟨o, ho, hu⟩)
        · cases h
        · right
          cases ms with
          | nil =>
            have := a3.length
            have : L[A.length].ins = [] := List.eq_nil_of_length_eq_zero (by simpa using this.symm)
            rw [this] at ho; cases ho
          | cons m ms =>
            obtain ⟨o', _, i⟩ := a3.mem m List.mem_cons_self
            refine ⟨m, List.mem_cons_self, ?_⟩
            rw [i.v]
            exact (hsub o ho).2.2 u hu
    have hnode : NodeOk n L r.out ⟨4, 0, ms⟩ := {
      form := by unfold formed; rw [badIn_no hlt]; rfl
      smooth := fun _ k hk => by
        obtain ⟨o, _, i⟩ := a3.mem k hk
        rw [i.v, hV]
      dec := fun _ h => absurd h (show ¬ (4 : Int) = 3 by decide)
      det := fun hd _ S => by
        show bdisj (bsOf S r.out) false ms = true
        rw [a3.bdisj S]
        have := hd S
        unfold orOk at this
        rw [List.all_eq_true] at this
        have := this L[A.length] (List.getElem_mem hk)
        simpa [h4] using this
      dcn := fun hd _ => by
        unfold decideB at hd
        rw [List.all_eq_true] at hd
        have := hd L[A.length] (List.getElem_mem hk)
        rw [h4] at this
        simp only [bne_self_eq_false, Bool.false_or, Bool.and_eq_true, beq_iff_eq] at this
        obtain ⟨g1, g2⟩ := this
        refine ⟨a3.length.trans g1, ?_⟩
        revert a3 g1 g2
        generalize L[A.length].ins = il
        intro a3 g1 g2
        match il, ms, a3, g1, g2 with
        | [o0, o1], [m0, m1], .cons i0 (.cons i1 .nil), _, g2 => exact opp_mono g2 i0.heads i1.heads }
    refine ⟨⟨a1.ok.snoc hnode, a1.chs.app, ?_⟩, ?_⟩
    · refine ats_new hf h.ats (t := t ++ [⟨4, 0, ms⟩]) (by rw [ht]; simp) ?_
      exact {
        low := by rw [iOf_new]; omega
        high := by rw [iOf_new]; simp only [List.length_append, List.length_cons, List.length_nil]; omega
        kind := by rw [iOf_new, nOf_new, hnk, h4]
        lit := by rw [iOf_new, nOf_new, hnk, hlit]
        ins := fun e => by rw [hnk, h4] at e; exact absurd e (by decide)
        v := by rw [iOf_new, V_new, hV]
        b := fun S => by
          rw [iOf_new, B_new, hBk S]
          unfold bNode
          simp only [h4, show ¬ (4 : Int) = 1 by decide, show ¬ (4 : Int) = 2 by decide, show ¬ (4 : Int) = 3 by decide, if_false, if_true]
          exact a3.any S }
    · rw [iOf_new]; simp only [List.length_append, List.length_cons, List.length_nil]; omega
  · have e4 : (L[A.length].kind == 4) = false := by simpa using h4
    unfold stepN
    simp only [e4, insO_no, List.nil_append]
    have hat : ∀ x ∈ L[A.length].ins, AtOk L out A x := fun x hx => by have := hin x hx; exact h.ats x this.1 this.2
    have hlt : ∀ m ∈ L[A.length].ins.map (iOf A), 0 ≤ m ∧ m < (out.length : Int) := fun m hm => by
      obtain ⟨x, hx, rfl⟩ := List.mem_map.1 hm
      exact ⟨(hat x hx).low, (hat x hx).high⟩
    have hnode : NodeOk n L out ⟨L[A.length].kind, L[A.length].lit, L[A.length].ins.map (iOf A)⟩ := {
      form := formed_map hfk (by simp) hlt
      smooth := fun e => absurd e h4
      dec := fun hd e => by
        show disj (vsOf out) 0 (L[A.length].ins.map (iOf A)) = true
        rw [disj_map fun x hx => (hat x hx).v]
        unfold decomB at hd
        rw [List.all_eq_true] at hd
        have := hd L[A.length] (List.getElem_mem hk)
        have e' : L[A.length].kind = 3 := e
        simpa [e'] using this
      det := fun _ e => absurd e h4
      dcn := fun _ e => absurd e h4 }
    refine ⟨⟨h.ok.snoc hnode, h.chs.app, ?_⟩, ?_⟩
    · refine ats_new hf h.ats rfl ?_
      exact {
        low := by rw [iOf_new]; omega
        high := by rw [iOf_new]; simp only [List.length_append, List.length_cons, List.length_nil]; omega
        kind := by rw [iOf_new, nOf_new, hnk]
        lit := by rw [iOf_new, nOf_new, hnk]
        ins := fun _ => by
          rw [iOf_new, nOf_new, hnk]
          refine List.map_congr_left fun x hx => ?_
          exact (iOf_append _ _ _ (hin x hx).2).symm
        v := by
          rw [iOf_new, V_new, hVk]
          unfold vsNode
          exact orIns_map fun x hx => (hat x hx).v
        b := fun S => by
          rw [iOf_new, B_new, hBk S]
          unfold bNode
          simp only [h4, if_false]
          rw [all_map fun x hx => (hat x hx).b S] }
    · rw [iOf_new]; simp only [List.length_append, List.length_cons, List.length_nil]; omega
theorem smF_ok {n : Int} (hn : n ≤ 128) {L : List NodeT} (hf : formedTo n L L.length) : ∀ k, k ≤ L.length → Inv n L (smF L (vsOf L) (L.take k)).out (smF L (vsOf L) (L.take k)).ch (smF L (vsOf L) (L.take k)).at_
  | 0, _ => ⟨AllOk.nil n L, fun v c e => by (have e' : (none : Option Int) = some c := e; cases e'), fun old h0 h1 => by (have h2 : old < ((0 : Nat) : Int) := h1; omega)⟩
  | k + 1, h => by
    have ih := smF_ok hn hf k (by omega)
    have hl := smF_at L (vsOf L) k (by omega)
    rw [smF_take L (vsOf L) k (by omega)]
    have := (stepN_ok hn hf ih (by omega)).1
    simp only [hl] at this
    exact this
theorem smT_inv {n : Int} (hn : n ≤ 128) {L : List NodeT} (hf : formedTo n L L.length) : Inv n L (smT L) (smF L (vsOf L) L).ch (smF L (vsOf L) L).at_ := by
  have := smF_ok hn hf L.length (Nat.le_refl _)
  rw [List.take_length] at this
  exact this
theorem smT_last {n : Int} (hn : n ≤ 128) {L : List NodeT} (hf : formedTo n L L.length) (h0 : 0 < L.length) : iOf (smF L (vsOf L) L).at_ ((L.length : Int) - 1) = ((smT L).length : Int) - 1 := by
  have hl := smF_at L (vsOf L) (L.length - 1) (by omega)
  have ih := smF_ok hn hf (L.length - 1) (by omega)
  have := (stepN_ok hn hf ih (by omega)).2
  simp only [hl] at this
  rw [← smF_take L (vsOf L) (L.length - 1) (by omega), show L.length - 1 + 1 = L.length by omega, List.take_length, show ((L.length - 1 : Nat) : Int) = (L.length : Int) - 1 by omega] at this
  exact this
theorem smT_valid {n : Int} {L : List NodeT} (hv : validNet ⟨n, L⟩ = true) (hl : (smT L).length ≤ 65536) : validNet ⟨n, smT L⟩ = true := by
  obtain ⟨⟨r1, r2, r3, r4⟩, hf⟩ := (validNet_iff _).1 hv
  simp only at r1 r2 r3 r4 hf
  have hi := smT_inv r2 hf
  refine (validNet_iff _).2 ⟨⟨r1, r2, ?_, hl⟩, hi.ok.form⟩
  have hal : (smF L (vsOf L) L).at_.length = L.length := by
    have := smF_at L (vsOf L) L.length (Nat.le_refl _)
    rwa [List.take_length] at this
  have := hi.ats 0 (by omega) (by omega)
  have h1 := this.low
  have h2 := this.high
  show 1 ≤ (smT L).length
  omega
theorem V_take {out : List NodeT} {i : Nat} {k : Int} (hi : i ≤ out.length) (hk : k < (i : Int)) : sOf (vsOf out) k = sOf (vsOf (out.take i)) k := by
  have := V_app (L := out.take i) (t := out.drop i) (i := k) (by rw [List.length_take]; omega)
  rwa [List.take_append_drop] at this
theorem B_take {S : Int → Bool} {out : List NodeT} {i : Nat} {k : Int} (hi : i ≤ out.length) (hk : k < (i : Int)) : bOf (bsOf S out) k = bOf (bsOf S (out.take i)) k := by
  have := B_app (A := S) (L := out.take i) (t := out.drop i) (i := k) (by rw [List.length_take]; omega)
  rwa [List.take_append_drop] at this
theorem AllOk.smoothB {n : Int} {L out : List NodeT} (h : AllOk n L out) : smoothB out = true := by
  unfold Go.Proofs.YtpdbfbjfodckgaaDoor.smoothB
  rw [List.all_eq_true]
  intro i hi
  rw [List.mem_range] at hi
  rw [List.getD_eq_getElem?_getD, List.getElem?_eq_getElem hi, Option.getD_some]
  by_cases h4 : out[i].kind = 4
  · have hok := h i hi
    rw [Bool.or_eq_true]
    right
    rw [List.all_eq_true]
    intro k hk
    have hr := form_ins hok.form k hk
    rw [List.length_take, Nat.min_eq_left (by omega)] at hr
    rw [beq_iff_eq, V_take (i := i) (by omega) hr.2, hok.smooth h4 k hk]
    have := V_new (out.take i) out[i]
    rw [List.length_take, Nat.min_eq_left (by omega), ← List.take_succ_eq_append_getElem hi] at this
    rw [← this]
    exact (V_take (by omega) (by omega)).symm
  · simp [h4]
theorem smT_smooth {n : Int} {L : List NodeT} (hv : validNet ⟨n, L⟩ = true) : smoothB (smT L) = true := by
  obtain ⟨⟨r1, r2, r3, r4⟩, hf⟩ := (validNet_iff _).1 hv
  exact (smT_inv r2 hf).ok.smoothB
theorem smT_dec {n : Int} {L : List NodeT} (hv : validNet ⟨n, L⟩ = true) (hd : decomB L = true) : decomB (smT L) = true := by
  obtain ⟨⟨r1, r2, r3, r4⟩, hf⟩ := (validNet_iff _).1 hv
  simp only at r1 r2 r3 r4 hf
  have hi := smT_inv r2 hf
  unfold decomB
  rw [List.all_eq_true]
  intro x hx
  obtain ⟨i, hl, rfl⟩ := List.getElem_of_mem hx
  by_cases h3 : (smT L)[i].kind = 3
  · have hok := hi.ok i hl
    have := hok.dec hd h3
    rw [disj_congr fun k hk => (V_take (out := smT L) (i := i) (k := k) (by omega) (by
      have hr := form_ins hok.form k hk
      rw [List.length_take, Nat.min_eq_left (by omega)] at hr; exact hr.2)).symm] at this
    rw [this]; simp
  · simp [h3]
theorem bdisj_congr {M N : List Bool} : ∀ {l : List Int} {s : Bool}, (∀ x ∈ l, bOf M x = bOf N x) → bdisj M s l = bdisj N s l
  | [], _, _ => rfl
  | x :: l, s, h => by
    show (!(s && bOf M x) && bdisj M (s || bOf M x) l) = (!(s && bOf N x) && bdisj N (s || bOf N x) l)
    rw [h x List.mem_cons_self, bdisj_congr fun y hy => h y (List.mem_cons_of_mem _ hy)]
theorem smT_det {n : Int} {L : List NodeT} (hv : validNet ⟨n, L⟩ = true) (hd : ∀ S, orOk S L = true) (S : Int → Bool) : orOk S (smT L) = true := by
  obtain ⟨⟨r1, r2, r3, r4⟩, hf⟩ := (validNet_iff _).1 hv
  simp only at r1 r2 r3 r4 hf
  have hi := smT_inv r2 hf
  unfold orOk
  rw [List.all_eq_true]
  intro x hx
  obtain ⟨i, hl, rfl⟩ := List.getElem_of_mem hx
  by_cases h4 : (smT L)[i].kind = 4
  · have hok := hi.ok i hl
    have := hok.det hd h4 S
    rw [bdisj_congr fun k hk => (B_take (S := S) (out := smT L) (i := i) (k := k) (by omega) (by
      have hr := form_ins hok.form k hk
      rw [List.length_take, Nat.min_eq_left (by omega)] at hr; exact hr.2)).symm] at this
    rw [this]; simp
  · simp [h4]
theorem smT_dcn {n : Int} {L : List NodeT} (hv : validNet ⟨n, L⟩ = true) (hd : decideB L = true) : decideB (smT L) = true := by
  obtain ⟨⟨r1, r2, r3, r4⟩, hf⟩ := (validNet_iff _).1 hv
  simp only at r1 r2 r3 r4 hf
  have hi := smT_inv r2 hf
  unfold decideB
  rw [List.all_eq_true]
  intro x hx
  obtain ⟨i, hl, rfl⟩ := List.getElem_of_mem hx
  by_cases h4 : (smT L)[i].kind = 4
  · have hok := hi.ok i hl
    obtain ⟨g1, g2⟩ := hok.dcn hd h4
    have hft : formedTo n ((smT L).take i) ((smT L).take i).length := fun j hj _ => by
      have := hi.ok.form j (by rw [List.length_take] at hj; omega) (by rw [List.length_take] at hj; omega)
      rwa [List.getElem_take]
    have key : ∀ k ∈ (smT L)[i].ins, heads ((smT L).take i) k = heads (smT L) k := fun k hk => by
      have hr := form_ins hok.form k hk
      have := heads_app (L := (smT L).take i) (t := (smT L).drop i) (i := k) hr.2 fun j hj => (nOf_ins hft k j hj).2.2
      rw [List.take_append_drop] at this
      exact this.symm
    rw [Bool.or_eq_true]
    right
    rw [Bool.and_eq_true, beq_iff_eq]
    refine ⟨g1, ?_⟩
    revert g2 key g1
    generalize (smT L)[i].ins = il
    intro g1 g2 key
    match il, g1, g2, key with
    | [a, b], _, g2, key =>
      simp only [List.getD_cons_zero, List.getD_cons_succ] at g2 ⊢
      rw [key a (by simp), key b (by simp)] at g2
      exact g2
  · simp [h4]
/-! ### a smooth net is its own smooth form -/
theorem insO_same (L : List NodeT) (A : List Int) (or : Bool) (all : VS) : ∀ (l : List Int) (s : FS), (or = true → ∀ old ∈ l, sOf (vsOf L) old = all) → insO L (vsOf L) A or all s l = ⟨s.out, s.ch, s.inn ++ l.map (iOf A)⟩
  | [], s, _ => by show s = _; simp
  | o :: l, s, h => by
    show insO L (vsOf L) A or all (stepO L (vsOf L) A or all s o) l = _
    rw [insO_same L A or all l _ fun e x hx => h e x (List.mem_cons_of_mem _ hx)]
    unfold stepO
    rw [if_neg (fun e => e.2 (h e.1 o List.mem_cons_self))]
    simp
theorem smT_id {n : Int} {L : List NodeT} (hv : validNet ⟨n, L⟩ = true) (hs : smoothB L = true) : smT L = L := by
  obtain ⟨⟨r1, r2, r3, r4⟩, hf⟩ := (validNet_iff _).1 hv
  simp only at hf
  have key : ∀ k, k ≤ L.length → (smF L (vsOf L) (L.take k)).out = L.take k ∧ ∀ j : Int, 0 ≤ j → j < (k : Int) → iOf (smF L (vsOf L) (L.take k)).at_ j = j := by
    intro k
    induction k with
    | zero => intro _; exact ⟨rfl, fun j h0 h1 => by omega⟩
    | succ k ih =>
      intro hk
      obtain ⟨e1, e2⟩ := ih (by omega)
      have hl := smF_at L (vsOf L) k (by omega)
      rw [smF_take L (vsOf L) k (by omega)]
      unfold stepN
      simp only
      rw [insO_same _ _ _ _ _ _ (by
        intro e old ho
        unfold smoothB at hs
        rw [List.all_eq_true] at hs
        have := hs k (List.mem_range.2 (by omega))
        rw [List.getD_eq_getElem?_getD, List.getElem?_eq_getElem (by omega), Option.getD_some] at this
        rw [beq_iff_eq] at e
        rw [e] at this
        simp only [bne_self_eq_false, Bool.false_or, List.all_eq_true, beq_iff_eq] at this
        rw [hl]
        exact this old ho)]
      simp only [List.nil_append]
      have hm : L[k].ins.map (iOf (smF L (vsOf L) (L.take k)).at_) = L[k].ins := by
        conv => rhs; rw [← List.map_id L[k].ins]
        refine List.map_congr_left fun x hx => ?_
        have := ins_lt hf (show k < L.length by omega) x hx
        exact e2 x this.1 this.2
      rw [hm, e1]
      refine ⟨(List.take_succ_eq_append_getElem (by omega)).symm, fun j h0 h1 => ?_⟩
      by_cases e : j < (k : Int)
      · rw [iOf_append _ _ _ (by rw [hl]; exact e)]; exact e2 j h0 e
      · obtain rfl : j = ((smF L (vsOf L) (L.take k)).at_.length : Int) := by rw [hl]; omega
        rw [iOf_new, hl, List.length_take, Nat.min_eq_left (by omega)]
  have := (key L.length (Nat.le_refl _)).1
  rwa [List.take_length] at this
end Go.Proofs.YtpdbfbjfodckgaaDoor
