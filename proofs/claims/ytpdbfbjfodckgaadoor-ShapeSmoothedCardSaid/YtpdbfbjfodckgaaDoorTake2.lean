/- A region that draws its order: as Take, where A waits for the loads through others. -/
import Derived.Test.YtpdbfbjfodckgaaDoorTake
namespace Go.Proofs.YtpdbfbjfodckgaaDoor

section
variable {P : Program} {ops : Array Oper} {Q : Exit → Act → World → Prop} {md : Region.Mode} {A : Nat} {C : World → Prop}
/-- What is done is closed under what must come before. -/
def Closed (md : Region.Mode) (ops : Array Oper) (l : Array Bool) : Prop := ∀ k o, ops[k]? = some o → l.getD k true = true → ∀ e ∈ o.after, Region.binds md e = true → l.getD e.on true = true
/-- A waits for i. -/
inductive Waits (md : Region.Mode) (ops : Array Oper) (i : Nat) : Nat → Prop
  | one {k : Nat} {o : Oper} (ho : ops[k]? = some o) (h : ∃ e ∈ o.after, Region.binds md e = true ∧ e.on = i) : Waits md ops i k
  | more {k j : Nat} {o : Oper} (ho : ops[k]? = some o) (h : ∃ e ∈ o.after, Region.binds md e = true ∧ e.on = j) (hj : Waits md ops i j) : Waits md ops i k
theorem Waits.done {i k : Nat} {l : Array Bool} (hc : Closed md ops l) (h : Waits md ops i k) (hk : l.getD k true = true) : l.getD i true = true := by
  induction h with
  | one ho h =>
    obtain ⟨e, he, hb, rfl⟩ := h
    exact hc _ _ ho hk e he hb
  | more ho h _ ih =>
    obtain ⟨e, he, hb, rfl⟩ := h
    exact ih (hc _ _ ho hk e he hb)
theorem Closed.set {l : Array Bool} {j : Nat} (hc : Closed md ops l) (hj : j ∈ Region.ready md ops l) : Closed md ops (l.setIfInBounds j true) := by
  obtain ⟨_, oj, hoj, hall⟩ := mem_ready.1 hj
  have up : ∀ k, l.getD k true = true → (l.setIfInBounds j true).getD k true = true := fun k hk => by
    by_cases e : j = k
    · subst e
      by_cases hl : j < l.size
      · simp [hl]
      · simp [Array.setIfInBounds, hl]
    · rw [getD_set_ne true e]; exact hk
  intro k o ho hk e he hb
  by_cases e' : j = k
  · subst e'
    rw [hoj] at ho; cases ho
    have := hall e he hb
    refine up _ ?_
    by_cases hl : e.on < l.size
    · simp [hl] at this ⊢; exact this
    · simp [hl]
  · rw [getD_set_ne true e'] at hk
    exact up _ (hc k o ho hk e he hb)
theorem wpAnyL_first2 {i : Nat} {oi : Oper} {v : Value} (hi : ops[i]? = some oi) (hsel : ∀ (j : Nat) (o : Oper) cs b, ops[j]? = some o → o.op ≠ .select cs b)
    (hQ : ∀ c a w, Q (.panic c) (a.put oi.dst v) w → Q (.panic c) a w) (hiA : i ≠ A) (hdep : Waits md ops i A) :
    ∀ (fuel : Nat) (listed : Array Bool) (a : Act) (w : World),
      (∀ j oj, ops[j]? = some oj → j ≠ i → listed.getD j true = false → (∀ e ∈ oj.after, Region.binds md e = true → e.on ≠ i) → oi.apart ops oj = true) →
      i ∈ Region.ready md ops listed → YieldsIf P ops C oi v a → Closed md ops listed → listed.getD A true = false → tillA A C listed w →
      wpAnyL P md ops Q A C fuel (listed.setIfInBounds i true) (a.put oi.dst v) w → wpAnyL P md ops Q A C (fuel + 1) listed a w := by
  intro fuel
  induction fuel with
  | zero =>
    intro listed a w hfree hr hy hcl hA hS H
    have hD : C w := hS.resolve_left (by rw [hA]; simp)
    refine ⟨fun h => (by rw [h] at hr; cases hr), fun j hj => ?_⟩
    by_cases hji : j = i
    · subst hji; exact hy.wpOp hi hD ⟨(tillA_set hiA).2 hS, H⟩
    · have := ready_mono hj hji
      rw [H.1] at this
      cases this
  | succ fuel ih =>
    intro listed a w hfree hr hy hcl hA hS H
    have hD : C w := hS.resolve_left (by rw [hA]; simp)
    refine ⟨fun h => (by rw [h] at hr; cases hr), fun j hj => ?_⟩
    by_cases hji : j = i
    · subst hji; exact hy.wpOp hi hD ⟨(tillA_set hiA).2 hS, H⟩
    · have h1 := H.2 j (ready_mono hj hji)
      obtain ⟨hjun, oj, hoj, hall⟩ := mem_ready.1 hj
      have hi0 := (mem_ready.1 hr).1
      have hnot : ∀ e ∈ oj.after, Region.binds md e = true → e.on ≠ i := fun e he hb heq => by
        have h1 := hall e he hb
        have h0 := hi0
        rw [heq] at h1
        rcases Nat.lt_or_ge i listed.size with h' | h'
        · simp [h'] at h0 h1; rw [h0] at h1; cases h1
        · simp [Array.getElem?_eq_none h'] at h1
      have h2 := wpOp_putIf hoj (hfree j oj hoj hji hjun hnot) (fun cs b => hsel i oi cs b hi) (fun cs b => hsel j oj cs b hoj) hQ hy h1
      have hfree' : ∀ k ok, ops[k]? = some ok → k ≠ i → (listed.setIfInBounds j true).getD k true = false →
          (∀ e ∈ ok.after, Region.binds md e = true → e.on ≠ i) → oi.apart ops ok = true := fun k ok hk hki hun hno => by
        refine hfree k ok hk hki ?_ hno
        by_cases hjk : j = k
        · subst hjk; exact hjun
        · rw [getD_set_ne true hjk] at hun; exact hun
      have hcl' := hcl.set hj
      have hiu : (listed.setIfInBounds j true).getD i true = false := by rw [getD_set_ne true hji]; exact hi0
      have hA' : (listed.setIfInBounds j true).getD A true = false := by
        cases e : (listed.setIfInBounds j true).getD A true with
        | false => rfl
        | true => have := hdep.done hcl' e; rw [hiu] at this; cases this
      refine wpOp_mono (fun a' w' h3 => ?_) h2
      have hcomm : (listed.setIfInBounds i true).setIfInBounds j true = (listed.setIfInBounds j true).setIfInBounds i true := Array.setIfInBounds_comm _ _ (Ne.symm hji)
      have hS' : tillA A C (listed.setIfInBounds j true) w' := by
        have := h3.2.1
        rw [hcomm] at this
        exact (tillA_set hiA).1 this
      refine ⟨hS', ih (listed.setIfInBounds j true) a' w' hfree' (ready_mono hr (Ne.symm hji)) h3.1 hcl' hA' hS' ?_⟩
      rw [← hcomm]
      exact h3.2.2
def closedB (md : Region.Mode) (ops : Array Oper) (l : Array Bool) : Bool := (List.range ops.size).all fun k => !l.getD k true || match ops[k]? with
  | some o => o.after.all fun e => !Region.binds md e || l.getD e.on true
  | none => true
theorem closed_of {l : Array Bool} (h : closedB md ops l = true) : Closed md ops l := by
  intro k o ho hk e he hb
  have hlt : k < ops.size := (Array.getElem?_eq_some_iff.1 ho).1
  have h1 := List.all_eq_true.1 h k (List.mem_range.2 hlt)
  rw [hk, ho] at h1
  simp only [Bool.not_true, Bool.false_or] at h1
  obtain ⟨n, hn, rfl⟩ := Array.mem_iff_getElem.1 he
  have h2 := (Array.all_eq_true.1 h1) n hn
  rw [hb] at h2
  simpa using h2
/-- Take number i first: it reads what C tells; A waits for it through others. -/
theorem wpAnyL_load2 {i : Nat} {oi : Oper} {v : Value} {fuel : Nat} {listed : Array Bool} {a : Act} {w : World} (hi : ops[i]? = some oi)
    (hs : Region.noSelect ops = true) (hf : Region.free md ops listed i = true) (hr : (Region.ready md ops listed).contains i = true)
    (hQ : ∀ c a w, Q (.panic c) (a.put oi.dst v) w → Q (.panic c) a w) (hiA : i ≠ A) (hdep : Waits md ops i A) (hcl : closedB md ops listed = true) (hA : listed.getD A true = false) (hS : tillA A C listed w)
    (hy : YieldsIf P ops C oi v a)
    (h : tillA A C (listed.setIfInBounds i true) w → wpAnyL P md ops Q A C fuel (listed.setIfInBounds i true) (a.put oi.dst v) w) : wpAnyL P md ops Q A C (fuel + 1) listed a w :=
  wpAnyL_first2 hi (Region.noSelect_spec hs) hQ hiA hdep fuel listed a w (Region.free_spec hi hf) (by simpa using hr) hy (closed_of hcl) hA hS (h ((tillA_set hiA).2 hS))
end
end Go.Proofs.YtpdbfbjfodckgaaDoor
