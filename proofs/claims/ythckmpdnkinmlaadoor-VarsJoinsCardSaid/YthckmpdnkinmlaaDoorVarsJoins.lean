/- Proved: the law VarsJoins of the layer vars: Union, Cut, Minus and Sub return what the chapter specifies, at every two sets; the examples hold. Condition: the table of math/bits is as its initialiser lays it, tied by the card. -/
import Derived.Test.YthckmpdnkinmlaaDoorLawA
import Derived.Test.YthckmpdnkinmlaaDoorFrame
import Derived.Test.YthckmpdnkinmlaaDoorCards
namespace Go.Proofs.YthckmpdnkinmlaaDoor
open Go.ChangeShapes Go.WideShapes Go.ChangeAt Go.WideMaps Go.WideElems Go.RowKit
attribute [local go_sem ↓] run_eqlS run_neqS

set_option maxRecDepth 100000 in
set_option maxHeartbeats 1000000 in
theorem varsJoins_walk (a b : VS) (w : World) (hT : TabAt w) :
    Calls Tryd.prog 6 #[encS a, encS b] w fun e w' => e = .returned (.bool true) ∧ Below w.heap.size w w' := by
  have hgl := hT.lt
  have hTa : Hid (∀ o0 o1 : Obj, TabAt ((w.alloc o0).alloc o1)) := fun o0 o1 => hT.below hgl (((Below.refl _ w).alloc (Nat.le_refl _) _).alloc (by simp <;> omega) _)
  have hTx : Hid (∀ {o0 o1 : Obj} (x : Ext), TabAt (ext ((w.alloc o0).alloc o1) x)) := fun {o0 o1} x => hT.below hgl ((((Below.refl _ w).alloc (Nat.le_refl _) _).alloc (by simp <;> omega) _).trans ((ext_below _ x).mono (by simp <;> omega)))
  go_enter Tryd.func6, Tryd.ntmps6
  go_wp2_with fail
  refine wp_region_pure (by kernel_rfl) (by kernel_rfl) ?_
  repeat (go_big_quiet_step ((first
    | (go_at_call 22; exact Calls.ext_of (Union_c _ _ _))
    | (go_at_call 23; exact Calls.ext_of (rUnion_c _ _ _))
    | (go_at_call 21; exact Calls.ext_of (Cut_c _ _ _))
    | (go_at_call 24; exact Calls.ext_of (rCut_c _ _ _))
    | (go_at_call 25; exact Calls.ext_of (Minus_c _ _ _))
    | (go_at_call 26; exact Calls.ext_of (rMinus_c _ _ _))
    | (go_at_call 27; exact Calls.ext_of (Sub_c _ _ _))
    | (go_at_call 28; exact Calls.ext_of (rSub_c _ _ _))
    | (go_at_call 13; exact Calls.ext_of (works_c _ (hTx.out _))))))
  refine wpQuiet_nil ?_
  intro w1 hb1
  have hB : Below w.heap.size w w1 := (((Below.refl _ w).alloc (Nat.le_refl _) _).alloc (by simp <;> omega) _).trans (hb1.mono (by simp; omega))
  clear hb1
  go_wp2
  go_ret
  exact ⟨rfl, hB⟩

set_option maxRecDepth 100000 in
theorem varsJoins_lifted (os : Os) (started : os.Started) (H : Type) (enc : TypeId × Value → H) :
    ReturnsInHanded {} Tryd.checked os 6 .any (fun w args => (Rows.varsJoinsSpec.pre enc Tryd.prog Tryd.f6 [] false w args ∧ laidMetH Tryd.prog [("math/bits.deBruijn64tab", Rows.laid_math_bits_deBruijn64tab)] w) ∧ sizedMet enc Tryd.prog Tryd.f6 (OpenSpec.ofChange Rows.varsJoinsSpec) false w args)
      (Rows.varsJoinsSpec.post enc Tryd.prog Tryd.f6 false true false false) := by
  refine returnsInHanded_of_change_and (C := Tryd.checked) (X := fun w _ => laidMetH Tryd.prog [("math/bits.deBruijn64tab", Rows.laid_math_bits_deBruijn64tab)] w) (fun _ _ _ hh h => h.of_heap hh) own started (by kernel_rfl) Tryd.func6
    (ChangeSpec.witness_shaped (enc := enc) (C := Tryd.checked) (os := os) (X := fun w _ => laidMetH Tryd.prog [("math/bits.deBruijn64tab", Rows.laid_math_bits_deBruijn64tab)] w) false (World.doorLaid Tryd.prog 400 os) #[.agg #[.int .u64 0, .int .u64 0], .agg #[.int .u64 0, .int .u64 0]] 8 rfl (World.shaped_of_RefB (by kernel_rfl) (by kernel_rfl)) (by kernel_rfl) (by kernel_rfl) (by kernel_rfl) (door_met os _)) ?_
  intro W base args ds gs before hval0 hW _ _ hL _
  have hval : ∀ (j : Nat) t v, Tryd.f6.params[j]? = some t → args[j]? = some v → Value.okWide Tryd.prog W .any base t v := hval0
  have hW' := hW
  obtain ⟨p, q, hA0, hV, rfl, hfz, hnd⟩ := hW
  have hA : DataW.TrodAll enc Tryd.prog W 0 (fun _ => true) true Tryd.f6.params.toList args.toList ds p := hA0
  rw [Tryd.params6] at hA hval
  obtain ⟨v0, vs0, d0, ds0, p0, q0, hargs, rfl, rfl, h0, r0⟩ := trodAll_cons hA
  obtain ⟨v1, vs1, d1, ds1, p1, q1, rfl, rfl, rfl, h1, r1⟩ := trodAll_cons r0
  obtain ⟨rfl, rfl, rfl⟩ := trodAll_nil r1
  obtain rfl : args = #[v0, v1] := by cases args; simp_all
  have k0 := h0
  have lt0 : ∀ x ∈ p0, x.block < W.heap.size := by obtain ⟨m, hm⟩ := k0; exact DataW.trod_lt m _ _ _ hm
  have k1 := h1
  have lt1 : ∀ x ∈ p1, x.block < W.heap.size := by obtain ⟨m, hm⟩ := k1; exact DataW.trod_lt m _ _ _ hm
  obtain ⟨rfl, rfl⟩ := trodVars_none hV
  obtain ⟨s0, rfl⟩ := open_set (hval 0 26 v0 rfl rfl) k0
  obtain ⟨s1, rfl⟩ := open_set (hval 1 26 v1 rfl rfl) k1
  have hT := of_laid hL
  clear hA0 hval0 hL
  simp only [List.append_nil] at hW'
  refine (varsJoins_walk s0 s1 W hT).mono fun e W' ⟨he, bel⟩ => ?_
  subst he
  exact ⟨_, rfl, _, _, _, [], _, [], hW', trodAll_mk1 (shut_bool Tryd.underlying4 _), (trodAll_cons_mk (Below.trod laidOut (by kernel_rfl) (of_decide_eq_true (by kernel_rfl)) k0 bel lt0) (trodAll_cons_mk (Below.trod laidOut (by kernel_rfl) (of_decide_eq_true (by kernel_rfl)) k1 bel lt1) trodAll_mk0)), rfl, bel.frame _, fun h => by cases h⟩
theorem varsJoins_holds : Rows.VarsJoinsSaid :=
  OpenClaim.holds_of_wide 6 Tryd.f6 rfl rfl rfl rfl rfl rfl rfl ⟨rfl, rfl, rfl, rfl, rfl⟩ rfl rfl rfl rfl rfl (by kernel_rfl) Tryd.func6 (by kernel_rfl)
    (of_decide_eq_true (by kernel_rfl)) (by unfold Func.isWrapper; rw [if_neg (of_decide_eq_false (by kernel_rfl))]; exact ⟨rfl, rfl⟩)
    (fun os started H enc _ => varsJoins_lifted os started H enc)
/-- THE CARD. -/
theorem varsJoins_card : Rows.VarsJoinsCardSaid :=
  Claim7.holds_tied_plain_at .later [] [.data] true Rows.varsJoinsCard.stood.harness false
    varsJoins_holds (fun _ h => by cases h) (by kernel_rfl) (fun _ h => by cases h) varsJoins_row_tie rfl ⟨rfl, rfl⟩ (by kernel_rfl) rfl
    (fun f fn hf hfn => by
      obtain rfl : f = 6 := Option.some.inj ((show Tryd.prog.funcNamed "census/censuslaw03.VarsJoins" = some 6 by kernel_rfl).symm.trans hf) |>.symm
      obtain rfl : fn = Tryd.f6 := (Option.some.inj (Tryd.func6.symm.trans hfn)).symm
      exact ⟨by kernel_rfl, fun j t ht => by
        rw [Tryd.params6] at ht
        have hm : t ∈ [26, 26] := by simpa using Array.mem_of_getElem? ht
        have hall : ([26, 26].all fun u => !Tryd.prog.wantsStandIn u) = true := by kernel_rfl
        exact (show Tryd.prog.wantsStandIn t = false by simpa using List.all_eq_true.1 hall t hm)⟩)
    (by kernel_rfl)
#print axioms varsJoins_card
end Go.Proofs.YthckmpdnkinmlaaDoor
