/- A region that draws its order, within a round of a range over a function: it goes as elsewhere. -/
import Derived.Test.YtpdbfbjfodckgaaDoorTake2
import Derived.RangeFuncCalls
import Derived.OrdersIn
namespace Go.Proofs.YtpdbfbjfodckgaaDoor

section
variable {P : Program} {ops : Array Oper} {Q : Exit → Act → World → Prop} {l n : Nat}
theorem opIn_of {o : Oper} {a : Act} {w : World} {K : Act → World → Prop} (hd : ∀ c, o.op ≠ .defer c) (h : o.wp P a w K Q) : o.wpIn (Fence.wide.inRound l) n P a w K Q := by
  unfold Oper.wp at h
  unfold Oper.wpIn
  refine ⟨fun _ _ => trivial, ?_⟩
  rw [Oper.semAt_eq _ _ _ hd]
  generalize (execOp a.eval o).run P w = r at *
  cases r with
  | ok x w' =>
    cases x <;> simp only [Oper.upon, Oper.uponIn] at h ⊢
    case value => exact h
    case skip => exact h
    case defer => exact h
    case enter => exact ⟨fun h0 => (by cases h0), CallsIn.inRound l (callsIn_wide.2 h)⟩
    case row =>
      refine ⟨fun h0 => (by cases h0), fun c cs _ => ?_⟩
      obtain ⟨v, w', r, s⟩ := h c cs
      exact ⟨v, w', r, stepsIn_wide.2 s⟩
  | halt x w' => cases x <;> simp only [Oper.upon, Oper.uponIn] at h ⊢ <;> exact h
theorem opsIn_of (hd : ∀ (i : Nat) (o : Oper), ops[i]? = some o → ∀ c, o.op ≠ .defer c) (hlo : ¬ LetsOut Q) : ∀ (is : List Nat) (a : Act) (w : World), wpOps P ops Q is a w → wpOpsIn (Fence.wide.inRound l) n P ops Q is a w
  | [], _, _, h => h
  | i :: rest, a, w, h => by
    rw [wpOps_cons] at h
    rw [wpOpsIn_cons]
    unfold wpOp at h
    unfold wpOpIn
    split
    · rename_i ho
      rw [ho] at h
      exact opsIn_of hd hlo rest a w h
    · rename_i o ho
      rw [ho] at h
      simp only at h
      split
      · rename_i hw
        rw [if_pos hw] at h
        have h2 := h.resolve_right (fun h => hlo h.2)
        exact Oper.wpIn_mono (fun a w h => opsIn_of hd hlo rest a w h) (opIn_of (hd i o ho) h2)
      · rename_i hw
        rw [if_neg hw] at h
        exact ⟨fun _ _ => trivial, opsIn_of hd hlo rest _ w h⟩
def noDefer (ops : Array Oper) : Bool := ops.all fun o => match o.op with | .defer _ => false | _ => true
theorem noDefer_spec (h : noDefer ops = true) (i : Nat) (o : Oper) (ho : ops[i]? = some o) (c : Call) : o.op ≠ .defer c := by
  intro e
  obtain ⟨hi, rfl⟩ := Array.getElem?_eq_some_iff.1 ho
  have := (Array.all_eq_true.1 h) i hi
  rw [e] at this; cases this
theorem wpIn_region_L (m A : Nat) (C : World → Prop) {id : Nat} {a : Act} {w : World} (hm : P.follows .mixedOrders = true) (hn : ops.size = m) (hd : noDefer ops = true) (hlo : ¬ LetsOut Q) (hC : C w.drew)
    (h : tillA A C (Array.replicate m false) w.drew → wpAnyL P .any ops Q A C m (Array.replicate m false) a w.drew) : (Code.region id ops true).wpIn (Fence.wide.inRound l) n P Q a w := by
  subst hn
  refine wpIn_region_draw fun t => opsIn_of (noDefer_spec hd) hlo _ _ _ ?_
  simp only [Region.schedule, hm, Bool.true_or, if_true]
  exact wpAny_sound _ t _ a _ (wpAny_of_L _ _ _ _ (h (.inr hC)))
end
/-- Neither a panic nor an end that lets out. -/
def PN (Q : Exit → Act → World → Prop) : Exit → Act → World → Prop
  | .panic _, _, _ => False
  | .outgrown, _, _ => False
  | e, a, w => Q e a w
theorem PN_normal {Q : Exit → Act → World → Prop} {a : Act} {w : World} (h : Q .normal a w) : PN Q .normal a w := h
theorem PN_imp {Q : Exit → Act → World → Prop} : ∀ (e : Exit) (a : Act) (w : World), PN Q e a w → Q e a w
  | .normal, _, _, h => h
  | .ret, _, _, h => h
  | .exit _, _, _, h => h
  | .goto _, _, _, h => h
  | .panic _, _, _, h => h.elim
  | .outgrown, _, _, h => h.elim
theorem PN_out {Q : Exit → Act → World → Prop} : ¬ LetsOut (PN Q) := fun ⟨_, _, h⟩ => h
theorem wp_PN {P : Program} {c : Code} {Q : Exit → Act → World → Prop} {a : Act} {w : World} (h : c.wp P (PN Q) a w) : c.wp P Q a w := wp_mono h PN_imp
theorem wpIn_PN {F : Fence} {n : Nat} {P : Program} {c : Code} {Q : Exit → Act → World → Prop} {a : Act} {w : World} (h : c.wpIn F n P (PN Q) a w) : c.wpIn F n P Q a w := wpIn_mono h PN_imp
end Go.Proofs.YtpdbfbjfodckgaaDoor
