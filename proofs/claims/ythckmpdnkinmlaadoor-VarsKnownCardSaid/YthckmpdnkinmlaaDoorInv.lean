/- A region that draws its order, met with an invariant: one obligation for each operation, none for each order. -/
import Derived.Orders
namespace Go.Proofs.YthckmpdnkinmlaaDoor

section
variable {P : Program} {ops : Array Oper} {Q : Exit → Act → World → Prop} {md : Region.Mode}
/-- What is done, with one operation more. -/
def upd (f : Nat → Bool) (i : Nat) : Nat → Bool := fun j => if j = i then true else f j
/-- The operations whose place in the list is lower. -/
def down (ops : Array Oper) : Bool := (List.range ops.size).all fun i => match ops[i]? with
  | some o => o.after.all fun e => decide (e.on < i)
  | none => true
theorem wpAny_inv (I : (Nat → Bool) → Act → World → Prop) (hd : down ops = true)
    (H : ∀ f i a w, I f a w → i < ops.size → f i = false → (∀ o, ops[i]? = some o → ∀ e ∈ o.after, Region.binds md e = true → f e.on = true) → wpOp P ops Q i (I (upd f i)) a w)
    (fin : ∀ f a w, I f a w → (∀ i, i < ops.size → f i = true) → Q .normal a w)
    (fuel : Nat) : ∀ (listed : Array Bool) (f : Nat → Bool) (a : Act) (w : World), listed.size = ops.size → (∀ i, i < ops.size → listed.getD i false = f i) → ((List.range ops.size).countP fun i => f i) + fuel = ops.size → I f a w → wpAny P md ops Q fuel listed a w := by
  have nil : ∀ (listed : Array Bool) (f : Nat → Bool), listed.size = ops.size → (∀ i, i < ops.size → listed.getD i false = f i) → Region.ready md ops listed = [] → ∀ i, i < ops.size → f i = true := by
    intro listed f hs hf hr i
    induction i using Nat.strongRecOn with
    | _ i ih =>
      intro hi
      cases hfi : f i with
      | true => rfl
      | false =>
        exfalso
        have : i ∈ Region.ready md ops listed := by
          refine mem_ready.2 ⟨?_, ops[i], by simp [hi], fun e he _ => ?_⟩
          · have := hf i hi
            have hi' : i < listed.size := by omega
            simp [hi'] at this ⊢
            rw [this]; exact hfi
          · have h1 := List.all_eq_true.1 hd i (by simp [hi])
            simp [hi] at h1
            obtain ⟨k, hk, rfl⟩ := Array.mem_iff_getElem.1 he
            have h2 := h1 k hk
            rw [hf _ (by omega)]
            exact ih _ h2 (by omega)
        rw [hr] at this; cases this
  induction fuel with
  | zero =>
    intro listed f a w hs hf hc hI
    have hall : ∀ i, i < ops.size → f i = true := by
      have := List.countP_eq_length (l := List.range ops.size) (p := fun i => f i)
      rw [List.length_range] at this
      intro i hi
      exact this.1 (by omega) i (by simp [hi])
    refine ⟨?_, fin f a w hI hall⟩
    cases hr : Region.ready md ops listed with
    | nil => rfl
    | cons x xs =>
      have hx : x ∈ Region.ready md ops listed := by rw [hr]; simp
      obtain ⟨h0, o, ho, _⟩ := mem_ready.1 hx
      have hlt : x < ops.size := (Array.getElem?_eq_some_iff.1 ho).1
      have h1 := hf x hlt
      rw [hall x hlt] at h1
      have hlt' : x < listed.size := by omega
      simp [hlt'] at h0 h1
      rw [h0] at h1; cases h1
  | succ fuel ih =>
    intro listed f a w hs hf hc hI
    refine ⟨fun hr => fin f a w hI (nil listed f hs hf hr), fun i hi => ?_⟩
    obtain ⟨h0, o, ho, hall⟩ := mem_ready.1 hi
    have hlt : i < ops.size := (Array.getElem?_eq_some_iff.1 ho).1
    have hlt' : i < listed.size := by omega
    have hfi : f i = false := by
      rw [← hf i hlt]; simp [hlt'] at h0 ⊢; exact h0
    refine wpOp_mono ?_ (H f i a w hI hlt hfi (fun o' ho' e he hb => ?_))
    · intro a' w' hI'
      refine ih (listed.setIfInBounds i true) (upd f i) a' w' (by simp [hs]) ?_ ?_ hI'
      · intro j hj
        unfold upd
        by_cases e : j = i
        · subst e; simp [hlt']
        · rw [getD_set_ne false (fun h => e h.symm), hf j hj]; simp [e]
      · have key : ∀ (l : List Nat), l.Nodup → i ∈ l → l.countP (fun j => upd f i j) = l.countP (fun j => f j) + 1 := by
          intro l
          induction l with
          | nil => intro _ h; cases h
          | cons x xs ih =>
            intro hn hm
            rw [List.countP_cons, List.countP_cons]
            by_cases e : x = i
            · subst e
              have hno : x ∉ xs := (List.nodup_cons.1 hn).1
              have : xs.countP (fun j => upd f x j) = xs.countP (fun j => f j) := by
                refine List.countP_congr fun j hj => ?_
                have : j ≠ x := fun e => hno (e ▸ hj)
                simp [upd, this]
              rw [this]; simp [upd, hfi]
            · have hm' : i ∈ xs := by
                rcases List.mem_cons.1 hm with h | h
                · exact absurd h.symm e
                · exact h
              rw [ih (List.nodup_cons.1 hn).2 hm']
              simp [upd, e]; omega
        rw [key _ List.nodup_range (by simp [hlt])]; omega
    · rw [ho] at ho'; cases ho'
      have := hall e he hb
      have hi2 := List.all_eq_true.1 hd i (by simp [hlt])
      have hoo : ops[i] = o := by
        have := Array.getElem?_eq_getElem hlt; rw [ho] at this; exact (Option.some.inj this).symm
      simp [hlt, hoo] at hi2
      obtain ⟨k, hk, rfl⟩ := Array.mem_iff_getElem.1 he
      rw [← hf _ (Nat.lt_trans (hi2 k hk) hlt)]; exact this
/-- What is done is closed under what must come before. -/
def closed (ops : Array Oper) (f : Nat → Bool) : Prop := ∀ k o, ops[k]? = some o → f k = true → ∀ e ∈ o.after, Region.binds .any e = true → f e.on = true
/-- A region that draws its order, by an invariant. -/
theorem wp_region_inv (I : (Nat → Bool) → Act → World → Prop) {id : Nat} {a : Act} {w : World} (hm : P.follows .mixedOrders = true) (hd : down ops = true)
    (start : I (fun _ => false) a { w with drawn := w.drawn + 1 })
    (H : ∀ f i a w, I f a w → i < ops.size → f i = false → closed ops f → (∀ o, ops[i]? = some o → ∀ e ∈ o.after, Region.binds .any e = true → f e.on = true) → wpOp P ops Q i (I (upd f i)) a w)
    (fin : ∀ f a w, I f a w → (∀ i, i < ops.size → f i = true) → Q .normal a w) : (Code.region id ops true).wp P Q a w :=
  wp_region_any hm (wpAny_inv (fun f a w => I f a w ∧ closed ops f) hd (fun f i a w hI hi hf hdep => wpOp_mono (fun a' w' h => ⟨h, fun k o ho hk e he hb => by
      by_cases hki : k = i
      · subst hki
        have := hdep o ho e he hb
        simp [upd, this]
      · have hk' : f k = true := by simpa [upd, hki] using hk
        have := hI.2 k o ho hk' e he hb
        simp [upd, this]⟩) (H f i a w hI.1 hi hf hI.2 hdep)) (fun f a w hI => fin f a w hI.1) ops.size _ (fun _ => false) a _ (by simp) (by intro i hi; simp [hi]) (by simp) ⟨start, fun k o _ h => by cases h⟩)
theorem wpOp_call {i : Nat} {o : Oper} {a : Act} {w w' : World} {K : Act → World → Prop} {f : FuncId} {args : Array Value} (ho : ops[i]? = some o) (hw : Region.wanted o (yielded ops a.tmps) = true)
    (hrun : (execOp a.eval o).run P w = .ok (.enter f args) w') (h : Calls P f args w' fun e w'' => ∃ v, e = .returned v ∧ K (a.put o.dst v) w'') : wpOp P ops Q i K a w := by
  unfold wpOp; rw [ho]; simp only [hw, if_true]
  refine .inl ?_
  unfold Oper.wp; rw [hrun]
  refine Calls.mono h ?_
  rintro e w'' ⟨v, rfl, hk⟩; exact hk
theorem wpOp_value {i : Nat} {o : Oper} {a : Act} {w w' : World} {K : Act → World → Prop} {v : Value} (ho : ops[i]? = some o) (hw : Region.wanted o (yielded ops a.tmps) = true)
    (hrun : (execOp a.eval o).run P w = .ok (.value v) w') (h : K (a.put o.dst v) w') : wpOp P ops Q i K a w := by
  unfold wpOp; rw [ho]; simp only [hw, if_true]
  refine .inl ?_
  unfold Oper.wp; rw [hrun]; exact h
theorem wpOp_skip {i : Nat} {o : Oper} {a : Act} {w w' : World} {K : Act → World → Prop} (ho : ops[i]? = some o) (hw : Region.wanted o (yielded ops a.tmps) = true)
    (hrun : (execOp a.eval o).run P w = .ok .skip w') (h : K (a.put o.dst undef) w') : wpOp P ops Q i K a w := by
  unfold wpOp; rw [ho]; simp only [hw, if_true]
  refine .inl ?_
  unfold Oper.wp; rw [hrun]; exact h
end
end Go.Proofs.YthckmpdnkinmlaaDoor
