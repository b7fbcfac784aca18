/- Proved: the law VarsLists of the layer vars: Len, List and First return what the chapter specifies, at every set; the examples hold. Condition: the table of math/bits is as its initialiser lays it, tied by the card. -/
import Derived.Test.YthckmpdnkinmlaaDoorLawA
import Derived.Test.YthckmpdnkinmlaaDoorArgs
import Derived.Test.YthckmpdnkinmlaaDoorStep
import Derived.Deep.RegionHeld3
import Derived.Test.YthckmpdnkinmlaaDoorFrame
import Derived.Test.YthckmpdnkinmlaaDoorCards
namespace Go.Proofs.YthckmpdnkinmlaaDoor
open Go.ChangeShapes Go.WideShapes Go.ChangeAt Go.WideMaps Go.WideElems Go.RowKit
attribute [local go_sem ↓] run_eqlS run_neqS

set_option maxRecDepth 100000 in
set_option maxHeartbeats 4000000 in
theorem varsLists_walk (s : VS) (w : World) (hT0 : TabAt w) :
    Calls Tryd.prog 10 #[encS s] w fun e w' => e = .returned (.bool true) ∧ Below w.heap.size w w' := by
  have hB : Below w.heap.size w (w.alloc (.cells #[.int .u64 ((lw s).toNat : Int), .int .u64 ((hw s).toNat : Int)] 26)).drew := ((Below.refl _ w).alloc (Nat.le_refl _) _).drew
  have ss : SetVar (w.alloc (.cells #[.int .u64 ((lw s).toNat : Int), .int .u64 ((hw s).toNat : Int)] 26)).drew w.heap.size s := SetVar.new w s 26
  have hT := hT0.below hT0.lt hB
  have hml := mems_length s
  have hdec : decide (mems s = mems s) = true := by simp
  go_enter Tryd.func10, Tryd.ntmps10
  go_wp2_with fail
  go_region_held3 (fun w' => w'.cell? ⟨w.heap.size, 0, none⟩ = some (.int .u64 ((lw s).toNat : Int)) ∧ w'.cell? ⟨w.heap.size, 1, none⟩ = some (.int .u64 ((hw s).toNat : Int)))
    (first | (go_keep; done) | (exact ⟨by assumption, by assumption⟩) | (dsimp only; exact ⟨by assumption, by assumption⟩))
    (first
      | (go_at_call 35; refine (Len_c _ _).mono ?_; rintro e w1 ⟨rfl, hb⟩; replace hT := hT.below hT.lt hb; replace hB := hB.trans (hb.mono hB.size); replace ss := ss.below hb ss.lt; obtain ⟨z0, z1, _, _⟩ := ss.cells; clear hb)
      | (go_at_call 36; refine (rLen_c _ _).mono ?_; rintro e w1 ⟨rfl, hb⟩; replace hT := hT.below hT.lt hb; replace hB := hB.trans (hb.mono hB.size); replace ss := ss.below hb ss.lt; obtain ⟨z0, z1, _, _⟩ := ss.cells; clear hb)
      | (go_at_call 37; refine (List_c _ _ hT).mono ?_; rintro e w1 ⟨v1, rfl, n1, hb⟩; have i1 := n1.ints; clear n1; replace hT := hT.below hT.lt hb; replace hB := hB.trans (hb.mono hB.size); replace ss := ss.below hb ss.lt; obtain ⟨z0, z1, _, _⟩ := ss.cells; clear hb)
      | (go_at_call 38; refine (rList_c _ _).mono ?_; rintro e w1 ⟨v2, rfl, n2, hb⟩; have i2 := n2.ints; clear n2; replace i1 := i1.below hb; replace hT := hT.below hT.lt hb; replace hB := hB.trans (hb.mono hB.size); replace ss := ss.below hb ss.lt; obtain ⟨z0, z1, _, _⟩ := ss.cells; clear hb)
      | (go_at_call 16; refine (rSame_c _ _ (mems s) (mems s) _ i1 i2 (by omega) (by omega)).mono ?_; rintro e w1 ⟨rfl, hb⟩; clear i1 i2; replace hT := hT.below hT.lt hb; replace hB := hB.trans (hb.mono hB.size); replace ss := ss.below hb ss.lt; obtain ⟨z0, z1, _, _⟩ := ss.cells; clear hb)
      | (go_at_call 39; refine (First_c _ _ hT).mono ?_; rintro e w1 ⟨rfl, hb⟩; replace hT := hT.below hT.lt hb; replace hB := hB.trans (hb.mono hB.size); replace ss := ss.below hb ss.lt; obtain ⟨z0, z1, _, _⟩ := ss.cells; clear hb)
      | (go_at_call 40; refine (rFirst_c _ _).mono ?_; rintro e w1 ⟨rfl, hb⟩; replace hT := hT.below hT.lt hb; replace hB := hB.trans (hb.mono hB.size); replace ss := ss.below hb ss.lt; obtain ⟨z0, z1, _, _⟩ := ss.cells; clear hb)
      | (go_at_call 13; refine (works_c _ hT).mono ?_; rintro e w1 ⟨rfl, hb⟩; replace hT := hT.below hT.lt hb; replace hB := hB.trans (hb.mono hB.size); replace ss := ss.below hb ss.lt; obtain ⟨z0, z1, _, _⟩ := ss.cells; clear hb))
  go_wp2
  go_ret
  exact ⟨rfl, hB⟩

set_option maxRecDepth 100000 in
theorem varsLists_lifted (os : Os) (started : os.Started) (H : Type) (enc : TypeId × Value → H) :
    ReturnsInHanded {} Tryd.checked os 10 .any (fun w args => (Rows.varsListsSpec.pre enc Tryd.prog Tryd.f10 [] false w args ∧ laidMetH Tryd.prog [("math/bits.deBruijn64tab", Rows.laid_math_bits_deBruijn64tab)] w) ∧ sizedMet enc Tryd.prog Tryd.f10 (OpenSpec.ofChange Rows.varsListsSpec) false w args)
      (Rows.varsListsSpec.post enc Tryd.prog Tryd.f10 false true false false) := by
  refine returnsInHanded_of_change_and (C := Tryd.checked) (X := fun w _ => laidMetH Tryd.prog [("math/bits.deBruijn64tab", Rows.laid_math_bits_deBruijn64tab)] w) (fun _ _ _ hh h => h.of_heap hh) own started (by kernel_rfl) Tryd.func10
    (ChangeSpec.witness_shaped (enc := enc) (C := Tryd.checked) (os := os) (X := fun w _ => laidMetH Tryd.prog [("math/bits.deBruijn64tab", Rows.laid_math_bits_deBruijn64tab)] w) false (World.doorLaid Tryd.prog 400 os) #[.agg #[.int .u64 0, .int .u64 0]] 8 rfl (World.shaped_of_RefB (by kernel_rfl) (by kernel_rfl)) (by kernel_rfl) (by kernel_rfl) (by kernel_rfl) (door_met os _)) ?_
  intro W base args ds gs before hval0 hW _ _ hL _
  have hval : ∀ (j : Nat) t v, Tryd.f10.params[j]? = some t → args[j]? = some v → Value.okWide Tryd.prog W .any base t v := hval0
  have hW' := hW
  obtain ⟨p, q, hA0, hV, rfl, hfz, hnd⟩ := hW
  have hA : DataW.TrodAll enc Tryd.prog W 0 (fun _ => true) true Tryd.f10.params.toList args.toList ds p := hA0
  rw [Tryd.params10] at hA hval
  obtain ⟨v0, vs0, d0, ds0, p0, q0, hargs, rfl, rfl, h0, r0⟩ := trodAll_cons hA
  obtain ⟨rfl, rfl, rfl⟩ := trodAll_nil r0
  obtain rfl : args = #[v0] := by cases args; simp_all
  have k0 := h0
  have lt0 : ∀ x ∈ p0, x.block < W.heap.size := by obtain ⟨m, hm⟩ := k0; exact DataW.trod_lt m _ _ _ hm
  obtain ⟨rfl, rfl⟩ := trodVars_none hV
  obtain ⟨s0, rfl⟩ := open_set (hval 0 26 v0 rfl rfl) k0
  have hT := of_laid hL
  clear hA0 hval0 hL
  simp only [List.append_nil] at hW'
  refine (varsLists_walk s0 W hT).mono fun e W' ⟨he, bel⟩ => ?_
  subst he
  exact ⟨_, rfl, _, _, _, [], _, [], hW', trodAll_mk1 (shut_bool Tryd.underlying4 _), (trodAll_cons_mk (Below.trod laidOut (by kernel_rfl) (of_decide_eq_true (by kernel_rfl)) k0 bel lt0) trodAll_mk0), rfl, bel.frame _, fun h => by cases h⟩
theorem varsLists_holds : Rows.VarsListsSaid :=
  OpenClaim.holds_of_wide 10 Tryd.f10 rfl rfl rfl rfl rfl rfl rfl ⟨rfl, rfl, rfl, rfl, rfl⟩ rfl rfl rfl rfl rfl (by kernel_rfl) Tryd.func10 (by kernel_rfl)
    (of_decide_eq_true (by kernel_rfl)) (by unfold Func.isWrapper; rw [if_neg (of_decide_eq_false (by kernel_rfl))]; exact ⟨rfl, rfl⟩)
    (fun os started H enc _ => varsLists_lifted os started H enc)
/-- THE CARD. -/
theorem varsLists_card : Rows.VarsListsCardSaid :=
  Claim7.holds_tied_plain_at .later [] [.data] true Rows.varsListsCard.stood.harness false
    varsLists_holds (fun _ h => by cases h) (by kernel_rfl) (fun _ h => by cases h) varsLists_row_tie rfl ⟨rfl, rfl⟩ (by kernel_rfl) rfl
    (fun f fn hf hfn => by
      obtain rfl : f = 10 := Option.some.inj ((show Tryd.prog.funcNamed "census/censuslaw03.VarsLists" = some 10 by kernel_rfl).symm.trans hf) |>.symm
      obtain rfl : fn = Tryd.f10 := (Option.some.inj (Tryd.func10.symm.trans hfn)).symm
      exact ⟨by kernel_rfl, fun j t ht => by
        rw [Tryd.params10] at ht
        have hm : t ∈ [26] := by simpa using Array.mem_of_getElem? ht
        have hall : ([26].all fun u => !Tryd.prog.wantsStandIn u) = true := by kernel_rfl
        exact (show Tryd.prog.wantsStandIn t = false by simpa using List.all_eq_true.1 hall t hm)⟩)
    (by kernel_rfl)
#print axioms varsLists_card
end Go.Proofs.YthckmpdnkinmlaaDoor
