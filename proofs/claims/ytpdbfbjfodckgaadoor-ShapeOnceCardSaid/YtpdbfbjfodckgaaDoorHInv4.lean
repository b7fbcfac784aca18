/- Plain mathematics of nets: how long the smooth form is. No program in sight. -/
import Derived.Test.YtpdbfbjfodckgaaDoorHInv3
namespace Go.Proofs.YtpdbfbjfodckgaaDoor

def cntCh (ch : Int → Option Int) : Nat := (List.range 128).countP fun i : Nat => (ch ((i : Int) + 1)).isSome
theorem cntCh_le (ch : Int → Option Int) : cntCh ch ≤ 128 := by
  have := List.countP_le_length (p := fun i : Nat => (ch ((i : Int) + 1)).isSome) (l := List.range 128)
  rw [List.length_range] at this
  exact this
theorem countP_mono' {p q : Nat → Bool} : ∀ {l : List Nat}, (∀ i, p i = true → q i = true) → l.countP p ≤ l.countP q
  | [], _ => Nat.le_refl _
  | x :: l, h => by
    rw [List.countP_cons, List.countP_cons]
    have := countP_mono' (l := l) h
    have hx := h x
    cases hp : p x <;> cases hq : q x <;> simp_all <;> omega
theorem countP_step {p q : Nat → Bool} {x : Nat} (hp : p x = false) (hq : q x = true) : ∀ {l : List Nat}, x ∈ l → (∀ i, p i = true → q i = true) → l.countP p + 1 ≤ l.countP q
  | [], hx, _ => by simp at hx
  | y :: l, hx, h => by
    rw [List.countP_cons, List.countP_cons]
    by_cases e : x = y
    · subst e
      have := countP_mono' (l := l) h
      rw [hp, hq]
      simp only [Bool.false_eq_true, if_false, if_true]; omega
    · have := countP_step hp hq (l := l) (by simpa [e] using hx) h
      have hy := h y
      cases hpy : p y <;> cases hqy : q y <;> simp_all <;> omega
theorem stepV_len {s : FS} {v : Int} (h1 : 1 ≤ v) (h2 : v ≤ 128) : (stepV s v).out.length + 3 * cntCh s.ch ≤ s.out.length + 3 * cntCh (stepV s v).ch := by
  cases e : s.ch v with
  | some c =>
    have : stepV s v = ⟨s.out, s.ch, s.inn ++ [c]⟩ := by unfold stepV; rw [e]
    rw [this]; exact Nat.le_refl _
  | none =>
    have : stepV s v = ⟨s.out ++ choice v s.out.length, fun u => if u = v then some ((s.out.length : Int) + 2) else s.ch u, s.inn ++ [(s.out.length : Int) + 2]⟩ := by unfold stepV; rw [e]
    rw [this]
    have hc : cntCh s.ch + 1 ≤ cntCh (fun u => if u = v then some ((s.out.length : Int) + 2) else s.ch u) := by
      unfold cntCh
      refine countP_step (x := (v - 1).toNat) ?_ ?_ (List.mem_range.2 (by omega)) fun i hi => ?_
      · rw [show (((v - 1).toNat : Nat) : Int) + 1 = v by omega, e]; rfl
      · rw [show (((v - 1).toNat : Nat) : Int) + 1 = v by omega]; simp
      · by_cases ei : (i : Int) + 1 = v
        · simp [ei]
        · simp only [if_neg ei]; exact hi
    simp only [List.length_append]
    have : (choice v s.out.length).length = 3 := rfl
    omega
theorem fillV_len : ∀ (l : List Int) (s : FS), (∀ v ∈ l, 1 ≤ v ∧ v ≤ 128) → (fillV s l).out.length + 3 * cntCh s.ch ≤ s.out.length + 3 * cntCh (fillV s l).ch
  | [], s, _ => Nat.le_refl _
  | v :: l, s, h => by
    have h1 := stepV_len (s := s) (h v List.mem_cons_self).1 (h v List.mem_cons_self).2
    have h2 := fillV_len l (stepV s v) fun u hu => h u (List.mem_cons_of_mem _ hu)
    show (fillV (stepV s v) l).out.length + 3 * cntCh s.ch ≤ s.out.length + 3 * cntCh (fillV (stepV s v) l).ch
    omega
theorem stepO_len (L : List NodeT) (M : List VS) (A : List Int) (or : Bool) (all : VS) (s : FS) (old : Int) :
    (stepO L M A or all s old).out.length + 3 * cntCh s.ch ≤ s.out.length + 3 * cntCh (stepO L M A or all s old).ch + 1 := by
  unfold stepO
  split
  · have := fillV_len (mems (minus all (sOf M old))) ⟨s.out, s.ch, inn0 L A old⟩ fun v hv => has_range ((mem_mems _ _).1 hv)
    unfold fillO
    simp only [List.length_append, List.length_cons, List.length_nil] at this ⊢
    omega
  · simp only []; omega
theorem insO_len (L : List NodeT) (M : List VS) (A : List Int) (or : Bool) (all : VS) : ∀ (l : List Int) (s : FS), (insO L M A or all s l).out.length + 3 * cntCh s.ch ≤ s.out.length + 3 * cntCh (insO L M A or all s l).ch + l.length
  | [], s => Nat.le_refl _
  | o :: l, s => by
    have h1 := stepO_len L M A or all s o
    have h2 := insO_len L M A or all l (stepO L M A or all s o)
    show (insO L M A or all (stepO L M A or all s o) l).out.length + 3 * cntCh s.ch ≤ s.out.length + 3 * cntCh (insO L M A or all (stepO L M A or all s o) l).ch + (l.length + 1)
    omega
theorem smF_len (L : List NodeT) (M : List VS) {m : Nat} (h : ∀ x ∈ L, x.ins.length ≤ m) : ∀ k, k ≤ L.length → (smF L M (L.take k)).out.length ≤ 3 * cntCh (smF L M (L.take k)).ch + k * (m + 1)
  | 0, _ => by show 0 ≤ _; omega
  | k + 1, hk => by
    have ih := smF_len L M h k (by omega)
    rw [smF_take L M k (by omega)]
    have h1 := insO_len L M (smF L M (L.take k)).at_ (L[k].kind == 4) (sOf M ((smF L M (L.take k)).at_.length : Int)) L[k].ins ⟨(smF L M (L.take k)).out, (smF L M (L.take k)).ch, []⟩
    have h2 := h L[k] (List.getElem_mem (by omega))
    unfold stepN
    simp only [List.length_append, List.length_cons, List.length_nil] at h1 ⊢
    have e : (k + 1) * (m + 1) = k * (m + 1) + (m + 1) := Nat.succ_mul k (m + 1)
    omega
/-- How long the smooth form can be. -/
theorem smT_len {L : List NodeT} {m : Nat} (h : ∀ x ∈ L, x.ins.length ≤ m) : (smT L).length ≤ 384 + L.length * (m + 1) := by
  have := smF_len L (vsOf L) h L.length (Nat.le_refl _)
  rw [List.take_length] at this
  have := cntCh_le (smF L (vsOf L) L).ch
  show (smF L (vsOf L) L).out.length ≤ _
  omega
/-! ### how many inputs a node of the smooth form has -/
def Short (m : Nat) (out : List NodeT) : Prop := ∀ x ∈ out, x.ins.length ≤ m
theorem Short.append {m : Nat} {a b : List NodeT} (ha : Short m a) (hb : Short m b) : Short m (a ++ b) := fun x hx => by
  rcases List.mem_append.1 hx with h | h
  · exact ha x h
  · exact hb x h
theorem Short.one {m : Nat} {x : NodeT} (h : x.ins.length ≤ m) : Short m [x] := fun y hy => by
  obtain rfl : y = x := by simpa using hy
  exact h
theorem stepV_short {m : Nat} (hm : 2 ≤ m) {s : FS} (h : Short m s.out) (v : Int) : Short m (stepV s v).out := by
  unfold stepV
  split
  · exact h
  · refine h.append fun x hx => ?_
    unfold choice at hx
    simp only [List.mem_cons, List.not_mem_nil, or_false] at hx
    rcases hx with rfl | rfl | rfl
    · exact Nat.zero_le _
    · exact Nat.zero_le _
    · exact hm
theorem fillV_short {m : Nat} (hm : 2 ≤ m) : ∀ (l : List Int) (s : FS), Short m s.out → Short m (fillV s l).out
  | [], _, h => h
  | v :: l, s, h => fillV_short hm l (stepV s v) (stepV_short hm h v)
theorem stepO_short {L : List NodeT} {M : List VS} {A : List Int} {or : Bool} {all : VS} {m : Nat} (hm : 2 ≤ m) (hL : Short m L) {s : FS} (h : Short (m + 128) s.out) (old : Int) : Short (m + 128) (stepO L M A or all s old).out := by
  unfold stepO
  split
  · refine Short.append (fillV_short (by omega) _ _ h) (Short.one ?_)
    unfold fillO
    simp only [fillV_inn]
    have h1 := mems_length (minus all (sOf M old))
    have h2 : (inn0 L A old).length ≤ m := by
      unfold inn0
      split
      · rename_i h3
        rw [List.length_map]
        obtain ⟨k, _, hk, e⟩ : ∃ k : Nat, old = (k : Int) ∧ ∃ hk : k < L.length, nOf L old = L[k] := by
          unfold nOf at h3 ⊢
          by_cases h0 : 0 ≤ old
          · rw [if_pos h0] at h3 ⊢
            by_cases hk : old.toNat < L.length
            · exact ⟨old.toNat, by omega, hk, by rw [List.getD_eq_getElem?_getD, List.getElem?_eq_getElem hk, Option.getD_some]⟩
            · rw [List.getD_eq_getElem?_getD, List.getElem?_eq_none (by omega)] at h3
              exact absurd h3 (by decide)
          · rw [if_neg h0] at h3
            exact absurd h3 (by decide)
        rw [e]; exact hL _ (List.getElem_mem hk)
      · simp only [List.length_cons, List.length_nil]; omega
    omega
  · exact h
theorem insO_short {L : List NodeT} {M : List VS} {A : List Int} {or : Bool} {all : VS} {m : Nat} (hm : 2 ≤ m) (hL : Short m L) : ∀ (l : List Int) (s : FS), Short (m + 128) s.out → Short (m + 128) (insO L M A or all s l).out
  | [], _, h => h
  | o :: l, s, h => insO_short hm hL l (stepO L M A or all s o) (stepO_short hm hL h o)
theorem smF_short {L : List NodeT} {M : List VS} {m : Nat} (hm : 2 ≤ m) (hL : Short m L) : ∀ k, k ≤ L.length → Short (m + 128) (smF L M (L.take k)).out
  | 0, _ => fun x hx => by cases hx
  | k + 1, hk => by
    have ih := smF_short (M := M) hm hL k (by omega)
    rw [smF_take L M k (by omega)]
    unfold stepN
    refine Short.append (insO_short hm hL _ _ ih) (Short.one ?_)
    simp only [insO_inn, List.length_nil, Nat.zero_add]
    have := hL L[k] (List.getElem_mem (by omega))
    omega
theorem smT_short {L : List NodeT} {m : Nat} (hm : 2 ≤ m) (hL : ∀ x ∈ L, x.ins.length ≤ m) : ∀ x ∈ smT L, x.ins.length ≤ m + 128 := by
  have := smF_short (M := vsOf L) hm hL L.length (Nat.le_refl _)
  rw [List.take_length] at this
  exact this
end Go.Proofs.YtpdbfbjfodckgaaDoor
