/- A region that draws its order: what only reads is taken first; the condition on the world need hold only until one operation (which waits for the loads) is done. -/
import Derived.OrdersHeld
import Derived.RegionTactic
namespace Go.Proofs.YtpdbfbjfodckgaaDoor

section
variable {P : Program} {ops : Array Oper} {Q : Exit → Act → World → Prop} {md : Region.Mode} {A : Nat} {C : World → Prop}
/-- Until A is done C holds. -/
def tillA (A : Nat) (C : World → Prop) (l : Array Bool) (w : World) : Prop := l.getD A true = true ∨ C w
/-- Whatever order is picked from here on; C holds behind every operation until A is done. -/
def wpAnyL (P : Program) (md : Region.Mode) (ops : Array Oper) (Q : Exit → Act → World → Prop) (A : Nat) (C : World → Prop) : Nat → Array Bool → Act → World → Prop
  | 0, listed, a, w => Region.ready md ops listed = [] ∧ Q .normal a w
  | fuel + 1, listed, a, w =>
    (Region.ready md ops listed = [] → Q .normal a w) ∧
    ∀ i ∈ Region.ready md ops listed, wpOp P ops Q i (fun a' w' => tillA A C (listed.setIfInBounds i true) w' ∧ wpAnyL P md ops Q A C fuel (listed.setIfInBounds i true) a' w') a w
theorem wpAny_of_L : ∀ (fuel : Nat) (listed : Array Bool) (a : Act) (w : World), wpAnyL P md ops Q A C fuel listed a w → wpAny P md ops Q fuel listed a w
  | 0, _, _, _, h => h
  | fuel + 1, _, _, _, h => ⟨h.1, fun i hi => wpOp_mono (fun a' w' h' => wpAny_of_L fuel _ a' w' h'.2) (h.2 i hi)⟩
theorem tillA_set {l : Array Bool} {i : Nat} {w : World} (hi : i ≠ A) : tillA A C (l.setIfInBounds i true) w ↔ tillA A C l w := by
  unfold tillA
  rw [getD_set_ne true hi]
theorem wpAnyL_first {D : World → Prop} {i : Nat} {oi : Oper} {v : Value} (hi : ops[i]? = some oi) (hsel : ∀ (j : Nat) (o : Oper) cs b, ops[j]? = some o → o.op ≠ .select cs b)
    (hQ : ∀ c a w, Q (.panic c) (a.put oi.dst v) w → Q (.panic c) a w) (hiA : i ≠ A)
    (hdep : (∀ w, D w) ∨ ((∀ w, C w → D w) ∧ ∃ oA, ops[A]? = some oA ∧ ∃ e ∈ oA.after, Region.binds md e = true ∧ e.on = i)) :
    ∀ (fuel : Nat) (listed : Array Bool) (a : Act) (w : World),
      (∀ j oj, ops[j]? = some oj → j ≠ i → listed.getD j true = false → (∀ e ∈ oj.after, Region.binds md e = true → e.on ≠ i) → oi.apart ops oj = true) →
      i ∈ Region.ready md ops listed → YieldsIf P ops D oi v a → D w → ((∀ w, D w) ∨ listed.getD A true = false) → tillA A C listed w →
      wpAnyL P md ops Q A C fuel (listed.setIfInBounds i true) (a.put oi.dst v) w → wpAnyL P md ops Q A C (fuel + 1) listed a w := by
  intro fuel
  induction fuel with
  | zero =>
    intro listed a w hfree hr hy hD hA hS H
    refine ⟨fun h => (by rw [h] at hr; cases hr), fun j hj => ?_⟩
    by_cases hji : j = i
    · subst hji; exact hy.wpOp hi hD ⟨(tillA_set hiA).2 hS, H⟩
    · have := ready_mono hj hji
      rw [H.1] at this
      cases this
  | succ fuel ih =>
    intro listed a w hfree hr hy hD hA hS H
    refine ⟨fun h => (by rw [h] at hr; cases hr), fun j hj => ?_⟩
    by_cases hji : j = i
    · subst hji; exact hy.wpOp hi hD ⟨(tillA_set hiA).2 hS, H⟩
    · have h1 := H.2 j (ready_mono hj hji)
      obtain ⟨hjun, oj, hoj, hall⟩ := mem_ready.1 hj
      have hnot : ∀ e ∈ oj.after, Region.binds md e = true → e.on ≠ i := fun e he hb heq => by
        have h1 := hall e he hb
        have h0 := (mem_ready.1 hr).1
        rw [heq] at h1
        rcases Nat.lt_or_ge i listed.size with h' | h'
        · simp [h'] at h0 h1; rw [h0] at h1; cases h1
        · simp [Array.getElem?_eq_none h'] at h1
      have h2 := wpOp_putIf hoj (hfree j oj hoj hji hjun hnot) (fun cs b => hsel i oi cs b hi) (fun cs b => hsel j oj cs b hoj) hQ hy h1
      have hfree' : ∀ k ok, ops[k]? = some ok → k ≠ i → (listed.setIfInBounds j true).getD k true = false →
          (∀ e ∈ ok.after, Region.binds md e = true → e.on ≠ i) → oi.apart ops ok = true := fun k ok hk hki hun hno => by
        refine hfree k ok hk hki ?_ hno
        by_cases hjk : j = k
        · subst hjk; exact hjun
        · rw [getD_set_ne true hjk] at hun; exact hun
      -- A does not come up before i
      have hjA : (∀ w, D w) ∨ j ≠ A := by
        rcases hdep with h | ⟨_, oA, hoA, e, he, hb, hon⟩
        · exact .inl h
        · refine .inr fun e' => ?_
          subst e'
          rw [hoj] at hoA; cases hoA
          exact hnot e he hb hon
      have hA' : (∀ w, D w) ∨ (listed.setIfInBounds j true).getD A true = false := by
        rcases hA with h | h
        · exact .inl h
        · rcases hjA with h' | h'
          · exact .inl h'
          · exact .inr (by rw [getD_set_ne true h']; exact h)
      refine wpOp_mono (fun a' w' h3 => ?_) h2
      have hcomm : (listed.setIfInBounds i true).setIfInBounds j true = (listed.setIfInBounds j true).setIfInBounds i true := Array.setIfInBounds_comm _ _ (Ne.symm hji)
      have hS' : tillA A C (listed.setIfInBounds j true) w' := by
        have := h3.2.1
        rw [hcomm] at this
        exact (tillA_set hiA).1 this
      have hD' : D w' := by
        rcases hdep with h | ⟨h, _⟩
        · exact h w'
        · rcases hA' with h' | h'
          · exact h' w'
          · rcases hS' with h4 | h4
            · rw [h'] at h4; cases h4
            · exact h w' h4
      refine ⟨hS', ih (listed.setIfInBounds j true) a' w' hfree' (ready_mono hr (Ne.symm hji)) h3.1 hD' hA' hS' ?_⟩
      rw [← hcomm]
      exact h3.2.2
/-- Take number i first: it looks at no memory. -/
theorem wpAnyL_pure {i : Nat} {oi : Oper} {v : Value} {fuel : Nat} {listed : Array Bool} {a : Act} {w : World} (hi : ops[i]? = some oi)
    (hs : Region.noSelect ops = true) (hf : Region.free md ops listed i = true) (hr : (Region.ready md ops listed).contains i = true)
    (hQ : ∀ c a w, Q (.panic c) (a.put oi.dst v) w → Q (.panic c) a w) (hiA : i ≠ A) (hS : tillA A C listed w) (hy : YieldsIf P ops (fun _ => True) oi v a)
    (h : tillA A C (listed.setIfInBounds i true) w → wpAnyL P md ops Q A C fuel (listed.setIfInBounds i true) (a.put oi.dst v) w) : wpAnyL P md ops Q A C (fuel + 1) listed a w :=
  wpAnyL_first (D := fun _ => True) hi (Region.noSelect_spec hs) hQ hiA (.inl fun _ => trivial) fuel listed a w (Region.free_spec hi hf) (by simpa using hr) hy trivial (.inl fun _ => trivial) hS (h ((tillA_set hiA).2 hS))
/-- Take number i first: it reads what C tells. -/
theorem wpAnyL_load {i : Nat} {oi : Oper} {v : Value} {fuel : Nat} {listed : Array Bool} {a : Act} {w : World} (hi : ops[i]? = some oi)
    (hs : Region.noSelect ops = true) (hf : Region.free md ops listed i = true) (hr : (Region.ready md ops listed).contains i = true)
    (hQ : ∀ c a w, Q (.panic c) (a.put oi.dst v) w → Q (.panic c) a w) (hiA : i ≠ A) (hdep : ∃ oA, ops[A]? = some oA ∧ ∃ e ∈ oA.after, Region.binds md e = true ∧ e.on = i) (hA : listed.getD A true = false) (hS : tillA A C listed w)
    (hy : YieldsIf P ops C oi v a)
    (h : tillA A C (listed.setIfInBounds i true) w → wpAnyL P md ops Q A C fuel (listed.setIfInBounds i true) (a.put oi.dst v) w) : wpAnyL P md ops Q A C (fuel + 1) listed a w :=
  wpAnyL_first (D := C) hi (Region.noSelect_spec hs) hQ hiA (.inr ⟨fun _ h => h, hdep⟩) fuel listed a w (Region.free_spec hi hf) (by simpa using hr) hy (hS.resolve_left (by rw [hA]; simp)) (.inr hA) hS (h ((tillA_set hiA).2 hS))
/-- One operation alone may come up. -/
theorem wpAnyL_one {i : Nat} {o : Oper} {fuel : Nat} {listed : Array Bool} {a : Act} {w : World} (hr : Region.ready md ops listed = [i]) (ho : ops[i]? = some o) (hw : Region.wanted o (yielded ops a.tmps) = true)
    (h : o.wp P a w (fun a' w' => tillA A C (listed.setIfInBounds i true) w' ∧ wpAnyL P md ops Q A C fuel (listed.setIfInBounds i true) a' w') Q) : wpAnyL P md ops Q A C (fuel + 1) listed a w := by
  refine ⟨fun h0 => (by rw [hr] at h0; cases h0), fun j hj => ?_⟩
  rw [hr] at hj
  obtain rfl : j = i := by simpa using hj
  unfold wpOp
  rw [ho]
  simp only [hw, if_true]
  exact .inl h
theorem wpAnyL_done {listed : Array Bool} {a : Act} {w : World} (hr : Region.ready md ops listed = []) (h : Q .normal a w) :
    ∀ fuel, wpAnyL P md ops Q A C fuel listed a w
  | 0 => ⟨hr, h⟩
  | _ + 1 => ⟨fun _ => h, by rw [hr]; simp⟩
/-- The beginning. -/
theorem wp_region_L (n A : Nat) (C : World → Prop) {id : Nat} {a : Act} {w : World} (hm : P.follows .mixedOrders = true) (hn : ops.size = n) (hC : C w.drew)
    (h : tillA A C (Array.replicate n false) w.drew → wpAnyL P .any ops Q A C n (Array.replicate n false) a w.drew) : (Code.region id ops true).wp P Q a w := by
  subst hn
  exact wp_region_any hm (wpAny_of_L _ _ _ _ (h (.inr hC)))
/-- Operations by what they do: a value, a call, nothing. -/
theorem opwp_value {o : Oper} {a : Act} {w w' : World} {K : Act → World → Prop} {v : Value} (hrun : (execOp a.eval o).run P w = .ok (.value v) w') (h : K (a.put o.dst v) w') : o.wp P a w K Q := by
  unfold Oper.wp; rw [hrun]; exact h
theorem opwp_skip {o : Oper} {a : Act} {w w' : World} {K : Act → World → Prop} (hrun : (execOp a.eval o).run P w = .ok .skip w') (h : K (a.put o.dst undef) w') : o.wp P a w K Q := by
  unfold Oper.wp; rw [hrun]; exact h
theorem opwp_call {o : Oper} {a : Act} {w w' : World} {K : Act → World → Prop} {f : FuncId} {args : Array Value} (hrun : (execOp a.eval o).run P w = .ok (.enter f args) w')
    (h : Calls P f args w' fun e w'' => (∃ v, e = .returned v ∧ K (a.put o.dst v) w'') ∨ (∃ ch, e = .panicked ch ∧ Q (.panic ch) a w'')) : o.wp P a w K Q := by
  unfold Oper.wp; rw [hrun]
  refine Calls.mono h ?_
  rintro e w'' (⟨v, rfl, hk⟩ | ⟨ch, rfl, hk⟩)
  · exact hk
  · exact hk
end
end Go.Proofs.YtpdbfbjfodckgaaDoor
