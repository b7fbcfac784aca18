/- Plain mathematics of nets: the smooth form is valid and smooth, and keeps values, variables and properties. No program in sight. -/
import Derived.Test.YtpdbfbjfodckgaaDoorHInv
namespace Go.Proofs.YtpdbfbjfodckgaaDoor

/-! ### moved nodes -/
/-- Where the node old is now. -/
structure AtOk (L out : List NodeT) (A : List Int) (old : Int) : Prop where
  low : 0 ≤ iOf A old
  high : iOf A old < (out.length : Int)
  kind : (nOf out (iOf A old)).kind = (nOf L old).kind
  lit : (nOf out (iOf A old)).lit = (nOf L old).lit
  ins : (nOf L old).kind = 3 → (nOf out (iOf A old)).ins = (nOf L old).ins.map (iOf A)
  v : sOf (vsOf out) (iOf A old) = sOf (vsOf L) old
  b : ∀ S, bOf (bsOf S out) (iOf A old) = bOf (bsOf S L) old
def Ats (L out : List NodeT) (A : List Int) : Prop := ∀ old : Int, 0 ≤ old → old < (A.length : Int) → AtOk L out A old
theorem AtOk.app {L out t : List NodeT} {A : List Int} {old : Int} (h : AtOk L out A old) : AtOk L (out ++ t) A old where
  low := h.low
  high := by have := h.high; simp only [List.length_append]; omega
  kind := by rw [nOf_app h.high]; exact h.kind
  lit := by rw [nOf_app h.high]; exact h.lit
  ins := by rw [nOf_app h.high]; exact h.ins
  v := by rw [V_app h.high]; exact h.v
  b := fun S => by rw [B_app h.high]; exact h.b S
theorem Ats.app {L out t : List NodeT} {A : List Int} (h : Ats L out A) : Ats L (out ++ t) A := fun old h0 h1 => (h old h0 h1).app
theorem AtOk.snoc {n : Int} {L out : List NodeT} (hf : formedTo n L L.length) {A : List Int} {old : Int} {m : Int} (h : AtOk L out A old) (hl : old < (A.length : Int)) : AtOk L out (A ++ [m]) old := by
  have e : iOf (A ++ [m]) old = iOf A old := iOf_append _ _ _ hl
  exact {
    low := by rw [e]; exact h.low
    high := by rw [e]; exact h.high
    kind := by rw [e]; exact h.kind
    lit := by rw [e]; exact h.lit
    ins := fun hk => by
      rw [e, h.ins hk]
      refine List.map_congr_left fun k hk2 => ?_
      have := nOf_ins hf old k hk2
      exact (iOf_append _ _ _ (by omega)).symm
    v := by rw [e]; exact h.v
    b := fun S => by rw [e]; exact h.b S }
theorem orIns_map {M N : List VS} {f : Int → Int} {s : VS} : ∀ {l : List Int}, (∀ x ∈ l, sOf M (f x) = sOf N x) → orIns M s (l.map f) = orIns N s l := by
  intro l
  induction l generalizing s with
  | nil => intro _; rfl
  | cons x l ih =>
    intro h
    show orIns M (s ||| sOf M (f x)) (l.map f) = orIns N (s ||| sOf N x) l
    rw [h x List.mem_cons_self]
    exact ih fun y hy => h y (List.mem_cons_of_mem _ hy)
theorem disj_map {M N : List VS} {f : Int → Int} : ∀ {l : List Int} {s : VS}, (∀ x ∈ l, sOf M (f x) = sOf N x) → disj M s (l.map f) = disj N s l
  | [], _, _ => rfl
  | x :: l, s, h => by
    show ((s &&& sOf M (f x) == 0) && disj M (s ||| sOf M (f x)) (l.map f)) = ((s &&& sOf N x == 0) && disj N (s ||| sOf N x) l)
    rw [h x List.mem_cons_self, disj_map fun y hy => h y (List.mem_cons_of_mem _ hy)]
theorem all_map {f : Int → Int} {g h : Int → Bool} : ∀ {l : List Int}, (∀ x ∈ l, g (f x) = h x) → (l.map f).all g = l.all h
  | [], _ => rfl
  | x :: l, e => by rw [List.map_cons, List.all_cons, List.all_cons, e x List.mem_cons_self, all_map fun y hy => e y (List.mem_cons_of_mem _ hy)]
/-! ### the inputs ahead of the choices -/
structure BaseOk (L out : List NodeT) (old : Int) (base : List Int) : Prop where
  lt : ∀ c ∈ base, 0 ≤ c ∧ c < (out.length : Int)
  v : orIns (vsOf out) 0 base = sOf (vsOf L) old
  b : ∀ S, base.all (bOf (bsOf S out)) = bOf (bsOf S L) old
  dec : decomB L = true → disj (vsOf out) 0 base = true
  heads : ∀ l ∈ heads L old, l ∈ litsOf out base
theorem nOf_get {L : List NodeT} {i : Int} (h0 : 0 ≤ i) (h1 : i < (L.length : Int)) : ∃ k : Nat, i = (k : Int) ∧ ∃ hk : k < L.length, nOf L i = L[k] :=
  ⟨i.toNat, by omega, by omega, by unfold nOf; rw [if_pos h0, List.getD_eq_getElem?_getD, List.getElem?_eq_getElem (by omega), Option.getD_some]⟩
theorem form_and {n before : Int} {x : NodeT} (h : formed x n before = true) (hk : x.kind = 3 ∨ x.kind = 4) : x.lit = 0 := by
  unfold formed at h
  split at h
  · cases h
  · rw [if_neg (show ¬ (x.kind = 0 ∨ x.kind = 1) by omega), if_neg (show ¬ x.kind = 2 by omega)] at h
    simpa [hk] using h
theorem mem_litsOf {L : List NodeT} {l : List Int} {x : Int} : x ∈ litsOf L l ↔ ∃ k ∈ l, (nOf L k).kind = 2 ∧ (nOf L k).lit = x := by
  unfold litsOf
  rw [List.mem_filterMap]
  constructor
  · rintro ⟨k, hk, e⟩
    split at e
    · rename_i h2
      injection e with e
      exact ⟨k, hk, h2, e⟩
    · cases e
  · rintro ⟨k, hk, h2, e⟩
    exact ⟨k, hk, by rw [if_pos h2, e]⟩
theorem base_ok {n : Int} {L out : List NodeT} (hf : formedTo n L L.length) {A : List Int} (hA : Ats L out A) (hAl : A.length ≤ L.length) {old : Int} (h0 : 0 ≤ old) (h1 : old < (A.length : Int)) : BaseOk L out old (inn0 L A old) := by
  obtain ⟨k, rfl, hk, e⟩ := nOf_get (L := L) h0 (by omega)
  unfold inn0
  by_cases h3 : (nOf L (k : Int)).kind = 3
  · rw [if_pos h3]
    have hin := nOf_ins hf (k : Int)
    have hat : ∀ x ∈ (nOf L (k : Int)).ins, AtOk L out A x := fun x hx => by have := hin x hx; exact hA x this.1 (by omega)
    have hl0 : L[k].lit = 0 := form_and (hf k hk hk) (.inl (e ▸ h3))
    exact {
      lt := fun c hc => by
        obtain ⟨x, hx, rfl⟩ := List.mem_map.1 hc
        exact ⟨(hat x hx).low, (hat x hx).high⟩
      v := by
        rw [orIns_map fun x hx => (hat x hx).v, vsOf_get hf hk, hl0, ofL_lit0, e]
      b := fun S => by
        rw [all_map fun x hx => (hat x hx).b S, bsOf_get S hf hk]
        rw [e] at h3 ⊢
        unfold bNode
        rw [if_neg (by omega), if_neg (by omega), if_pos h3]
      dec := fun hd => by
        rw [disj_map fun x hx => (hat x hx).v]
        unfold decomB at hd
        rw [List.all_eq_true] at hd
        have := hd L[k] (List.getElem_mem hk)
        rw [e] at h3 ⊢
        simpa [h3] using this
      heads := fun l hl => by
        unfold Go.Proofs.YtpdbfbjfodckgaaDoor.heads at hl
        rw [if_neg (by omega), if_pos h3, mem_litsOf] at hl
        obtain ⟨x, hx, x2, xl⟩ := hl
        rw [mem_litsOf]
        exact ⟨_, List.mem_map.2 ⟨x, hx, rfl⟩, (hat x hx).kind.trans x2, (hat x hx).lit.trans xl⟩ }
  · rw [if_neg h3]
    have ha := hA (k : Int) h0 h1
    exact {
      lt := fun c hc => by
        obtain rfl : c = iOf A (k : Int) := by simpa using hc
        exact ⟨ha.low, ha.high⟩
      v := by
        show (0 : VS) ||| sOf (vsOf out) (iOf A (k : Int)) = _
        rw [ha.v]
        refine ext_iff fun u => ?_
        rw [has_or, has_zero, Bool.false_or]
      b := fun S => by
        show (bOf (bsOf S out) (iOf A (k : Int)) && true) = _
        rw [ha.b S, Bool.and_true]
      dec := fun _ => by
        show (((0 : VS) &&& sOf (vsOf out) (iOf A (k : Int)) == 0) && true) = true
        rw [Bool.and_true, beq_iff_eq]
        refine ext_iff fun u => ?_
        rw [has_and, has_zero, Bool.false_and]
      heads := fun l hl => by
        unfold Go.Proofs.YtpdbfbjfodckgaaDoor.heads at hl
        by_cases h2 : (nOf L (k : Int)).kind = 2
        · rw [if_pos h2] at hl
          obtain rfl : l = (nOf L (k : Int)).lit := by simpa using hl
          rw [mem_litsOf]
          exact ⟨_, List.mem_singleton.2 rfl, ha.kind.trans h2, ha.lit⟩
        · rw [if_neg h2, if_neg h3] at hl
          cases hl }
theorem BaseOk.app {L out t : List NodeT} {old : Int} {base : List Int} (h : BaseOk L out old base) : BaseOk L (out ++ t) old base where
  lt := fun c hc => by have := h.lt c hc; simp only [List.length_append]; omega
  v := by rw [← h.v]; exact orIns_congr fun x hx => V_app (h.lt x hx).2
  b := fun S => by
    rw [← h.b S, Bool.eq_iff_iff, List.all_eq_true, List.all_eq_true]
    exact ⟨fun g k hk => (B_app (h.lt k hk).2).symm.trans (g k hk), fun g k hk => (B_app (h.lt k hk).2).trans (g k hk)⟩
  dec := fun hd => by rw [← h.dec hd]; exact disj_congr fun x hx => V_app (h.lt x hx).2
  heads := fun l hl => by rw [litsOf_congr fun x hx => nOf_app (h.lt x hx).2]; exact h.heads l hl
/-! ### the image of an input of a disjunction -/
structure Img (L out : List NodeT) (all : VS) (old m : Int) : Prop where
  low : 0 ≤ m
  high : m < (out.length : Int)
  b : ∀ S, bOf (bsOf S out) m = bOf (bsOf S L) old
  v : sOf (vsOf out) m = all
  heads : ∀ l ∈ heads L old, l ∈ heads out m
theorem Img.app {n : Int} {L out t : List NodeT} (hf : formedTo n out out.length) {all : VS} {old m : Int} (h : Img L out all old m) : Img L (out ++ t) all old m where
  low := h.low
  high := by have := h.high; simp only [List.length_append]; omega
  b := fun S => by rw [B_app h.high]; exact h.b S
  v := by rw [V_app h.high]; exact h.v
  heads := fun l hl => by rw [heads_app h.high fun k hk => (nOf_ins hf m k hk).2.2]; exact h.heads l hl
/-- The conjunction of a node and the choices that it lacks. -/
theorem and_ok {n : Int} (hn : n ≤ 128) {L out : List NodeT} (hO : AllOk n L out) {old : Int} {base cs : List Int} {all : VS} (hb : BaseOk L out old base)
    (hc : AllCh n out (mems (minus all (sOf (vsOf L) old))) cs) (hsub : ∀ u, has (sOf (vsOf L) old) u = true → has all u = true) :
    AllOk n L (out ++ [⟨3, 0, base ++ cs⟩]) ∧ Img L (out ++ [⟨3, 0, base ++ cs⟩]) all old (out.length : Int) := by
  have hf := hO.form
  have hlt : ∀ c ∈ base ++ cs, 0 ≤ c ∧ c < (out.length : Int) := fun c h => by
    rcases List.mem_append.1 h with h | h
    · exact hb.lt c h
    · exact hc.lt c h
  have hall : orIns (vsOf out) 0 (base ++ cs) = all := by
    rw [orIns_append, hb.v]
    refine ext_iff fun u => ?_
    rw [hc.V hn hf, mem_mems, has_minus]
    constructor
    · rintro (h | h)
      · exact hsub u h
      · simp only [Bool.and_eq_true] at h; exact h.1
    · intro h
      cases e : has (sOf (vsOf L) old) u with
      | true => exact .inl rfl
      | false => right; rw [h]; rfl
  have hnode : NodeOk n L out ⟨3, 0, base ++ cs⟩ := {
    form := by unfold formed; rw [badIn_no hlt]; rfl
    smooth := fun h => absurd h (show ¬ (3 : Int) = 4 by decide)
    dec := fun hd _ => by
      show disj (vsOf out) 0 (base ++ cs) = true
      rw [disj_append, hb.dec hd, hb.v, Bool.true_and]
      refine hc.disj hn hf (mems_sorted _) fun v hv => ?_
      rw [mem_mems, has_minus] at hv
      simp only [Bool.and_eq_true, Bool.not_eq_true'] at hv
      exact hv.2
    det := fun _ h => absurd h (show ¬ (3 : Int) = 4 by decide)
    dcn := fun _ h => absurd h (show ¬ (3 : Int) = 4 by decide) }
  refine ⟨hO.snoc hnode, by omega, by simp only [List.length_append, List.length_cons, List.length_nil]; omega, fun S => ?_, ?_, fun l hl => ?_⟩
  · rw [B_new]
    unfold bNode
    rw [if_neg (show ¬ (3 : Int) = 1 by decide), if_neg (show ¬ (3 : Int) = 2 by decide), if_pos rfl, List.all_append, hb.b S, hc.B hn hf S, Bool.and_true]
  · rw [V_new]
    unfold vsNode
    rw [ofL_lit0]; exact hall
  · unfold Go.Proofs.YtpdbfbjfodckgaaDoor.heads
    rw [nOf_new, if_neg (show ¬ (3 : Int) = 2 by decide), if_pos rfl]
    have hb' := hb.heads l hl
    rw [mem_litsOf] at hb' ⊢
    obtain ⟨k, hk, e1, e2⟩ := hb'
    refine ⟨k, List.mem_append_left _ hk, ?_⟩
    rw [nOf_app (hb.lt k hk).2]
    exact ⟨e1, e2⟩
inductive AllIm (L out : List NodeT) (all : VS) : List Int → List Int → Prop
  | nil : AllIm L out all [] []
  | cons {o m : Int} {l ms : List Int} : Img L out all o m → AllIm L out all l ms → AllIm L out all (o :: l) (m :: ms)
theorem AllIm.app {n : Int} {L out t : List NodeT} (hf : formedTo n out out.length) {all : VS} : ∀ {l ms : List Int}, AllIm L out all l ms → AllIm L (out ++ t) all l ms
  | _, _, .nil => .nil
  | _, _, .cons a b => .cons (a.app hf) (b.app hf)
theorem AllIm.mem {L out : List NodeT} {all : VS} : ∀ {l ms : List Int}, AllIm L out all l ms → ∀ m ∈ ms, ∃ o ∈ l, Img L out all o m
  | _, _, .nil, m, h => by simp at h
  | _, _, .cons a b, m, h => by
    rcases List.mem_cons.1 h with rfl | h
    · exact ⟨_, List.mem_cons_self, a⟩
    · obtain ⟨o, ho, i⟩ := b.mem m h
      exact ⟨o, List.mem_cons_of_mem _ ho, i⟩
theorem AllIm.length {L out : List NodeT} {all : VS} : ∀ {l ms : List Int}, AllIm L out all l ms → ms.length = l.length
  | _, _, .nil => rfl
  | _, _, .cons _ b => by rw [List.length_cons, List.length_cons, b.length]
theorem AllIm.any {L out : List NodeT} {all : VS} (S : Int → Bool) : ∀ {l ms : List Int}, AllIm L out all l ms → ms.any (bOf (bsOf S out)) = l.any (bOf (bsOf S L))
  | _, _, .nil => rfl
  | _, _, .cons a b => by rw [List.any_cons, List.any_cons, a.b S, b.any S]
theorem AllIm.bdisj {L out : List NodeT} {all : VS} (S : Int → Bool) : ∀ {l ms : List Int} {s : Bool}, AllIm L out all l ms → bdisj (bsOf S out) s ms = bdisj (bsOf S L) s l
  | _, _, _, .nil => rfl
  | o :: l, m :: ms, s, .cons a b => by
    show (!(s && bOf (bsOf S out) m) && Go.Proofs.YtpdbfbjfodckgaaDoor.bdisj (bsOf S out) (s || bOf (bsOf S out) m) ms) = (!(s && bOf (bsOf S L) o) && Go.Proofs.YtpdbfbjfodckgaaDoor.bdisj (bsOf S L) (s || bOf (bsOf S L) o) l)
    rw [a.b S, b.bdisj S]
/-! ### a step -/
structure Inv (n : Int) (L out : List NodeT) (ch : Int → Option Int) (A : List Int) : Prop where
  ok : AllOk n L out
  chs : ChOk n out ch
  ats : Ats L out A
theorem stepO_or {n : Int} (hn : n ≤ 128) {L : List NodeT} (hf : formedTo n L L.length) {A : List Int} (hAl : A.length ≤ L.length) {all : VS} (hall : ∀ u, has all u = true → u ≤ n) {s : FS} (h : Inv n L s.out s.ch A)
    {old : Int} (h0 : 0 ≤ old) (h1 : old < (A.length : Int)) (hsub : ∀ u, has (sOf (vsOf L) old) u = true → has all u = true) :
    Inv n L (stepO L (vsOf L) A true all s old).out (stepO L (vsOf L) A true all s old).ch A ∧ ∃ m, (stepO L (vsOf L) A true all s old).inn = s.inn ++ [m] ∧ Img L (stepO L (vsOf L) A true all s old).out all old m := by
  unfold stepO
  by_cases e : sOf (vsOf L) old = all
  · rw [if_neg (by simp [e])]
    have ha := h.ats old h0 h1
    refine ⟨h, _, rfl, ha.low, ha.high, ha.b, ha.v.trans e, fun l hl => ?_⟩
    unfold heads at hl ⊢
    rw [ha.kind, ha.lit]
    split at hl
    · rename_i h2; rw [if_pos h2]; exact hl
    · rename_i h2
      rw [if_neg h2]
      split at hl
      · rename_i h3
        rw [if_pos h3, ha.ins h3]
        rw [mem_litsOf] at hl ⊢
        obtain ⟨k, hk, e1, e2⟩ := hl
        have hk2 := nOf_ins hf old k hk
        have hb := h.ats k hk2.1 (by omega)
        exact ⟨_, List.mem_map.2 ⟨k, hk, rfl⟩, hb.kind.trans e1, hb.lit.trans e2⟩
      · cases hl
  · rw [if_pos ⟨rfl, e⟩]
    unfold fillO
    obtain ⟨k1, k2, cs, k3, k4⟩ := fillV_ok hn (L := L) (mems (minus all (sOf (vsOf L) old))) ⟨s.out, s.ch, inn0 L A old⟩ h.ok h.chs (fun v hv => by
      rw [mem_mems, has_minus] at hv
      simp only [Bool.and_eq_true] at hv
      exact ⟨(has_range hv.1).1, hall v hv.1⟩)
    obtain ⟨t, ht⟩ := fillV_out (mems (minus all (sOf (vsOf L) old))) ⟨s.out, s.ch, inn0 L A old⟩
    have hats : Ats L (fillV ⟨s.out, s.ch, inn0 L A old⟩ (mems (minus all (sOf (vsOf L) old)))).out A := by rw [ht]; exact h.ats.app
    have hb := base_ok hf hats hAl h0 h1
    obtain ⟨q1, q2⟩ := and_ok hn k1 hb k4 hsub
    simp only [] at k3
    rw [k3]
    exact ⟨⟨q1, k2.app, hats.app⟩, _, rfl, q2⟩
theorem insO_or {n : Int} (hn : n ≤ 128) {L : List NodeT} (hf : formedTo n L L.length) {A : List Int} (hAl : A.length ≤ L.length) {all : VS} (hall : ∀ u, has all u = true → u ≤ n) :
    ∀ (l : List Int) (s : FS), Inv n L s.out s.ch A → (∀ old ∈ l, 0 ≤ old ∧ old < (A.length : Int) ∧ ∀ u, has (sOf (vsOf L) old) u = true → has all u = true) →
    Inv n L (insO L (vsOf L) A true all s l).out (insO L (vsOf L) A true all s l).ch A ∧ ∃ ms, (insO L (vsOf L) A true all s l).inn = s.inn ++ ms ∧ AllIm L (insO L (vsOf L) A true all s l).out all l ms
  | [], s, h, _ => ⟨h, [], (List.append_nil _).symm, .nil⟩
  | o :: l, s, h, hl => by
    obtain ⟨r0, r1, r2⟩ := hl o List.mem_cons_self
    obtain ⟨a1, m, a2, a3⟩ := stepO_or hn hf hAl hall h r0 r1 r2
    obtain ⟨b1, ms, b2, b3⟩ := insO_or hn hf hAl hall l (stepO L (vsOf L) A true all s o) a1 fun x hx => hl x (List.mem_cons_of_mem _ hx)
    refine ⟨b1, m :: ms, ?_, ?_⟩
    · show (insO L (vsOf L) A true all (stepO L (vsOf L) A true all s o) l).inn = _
      rw [b2, a2, List.append_assoc]; rfl
    · obtain ⟨t, ht⟩ := insO_out L (vsOf L) A true all l (stepO L (vsOf L) A true all s o)
      have : Img L (insO L (vsOf L) A true all (stepO L (vsOf L) A true all s o) l).out all o m := by rw [ht]; exact a3.app a1.ok.form
      exact .cons this b3
theorem insO_no (L : List NodeT) (A : List Int) (all : VS) : ∀ (l : List Int) (s : FS), insO L (vsOf L) A false all s l = ⟨s.out, s.ch, s.inn ++ l.map (iOf A)⟩
  | [], s => by show s = _; simp
  | o :: l, s => by
    show insO L (vsOf L) A false all (stepO L (vsOf L) A false all s o) l = _
    rw [insO_no L A all l]
    unfold stepO
    rw [if_neg (by simp)]
    simp
end Go.Proofs.YtpdbfbjfodckgaaDoor
