/- Proved: the law VarsTotal of the layer vars: Less is a strict total order, and proper subsets come first; the examples hold. Condition: the table of math/bits is as its initialiser lays it, tied by the card. -/
import Derived.Test.YthckmpdnkinmlaaDoorLawA
import Derived.Test.YthckmpdnkinmlaaDoorVOrder
import Derived.Test.YthckmpdnkinmlaaDoorFrame
import Derived.Test.YthckmpdnkinmlaaDoorCards
namespace Go.Proofs.YthckmpdnkinmlaaDoor
open Go.ChangeShapes Go.WideShapes Go.ChangeAt Go.WideMaps Go.WideElems Go.RowKit
attribute [local go_sem ↓] run_eqlS run_neqS

set_option maxRecDepth 100000 in
set_option maxHeartbeats 1000000 in
theorem varsTotal_walk (a b c : VS) (w : World) (hT : TabAt w) :
    Calls Tryd.prog 5 #[encS a, encS b, encS c] w fun e w' => e = .returned (.bool true) ∧ Below w.heap.size w w' := by
  have hcut : ((a &&& b) == a) = true ∨ (((a &&& b) == a) = false ∧ less (a &&& b) a = true) := by
    cases h : ((a &&& b) == a)
    · exact .inr ⟨rfl, less_cut h⟩
    · exact .inl rfl
  have heq : ((a == b) = true ∧ less a b = false) ∨ ((a == b) = false ∧ less b a = !less a b) := by
    by_cases h : a = b
    · subst h; exact .inl ⟨by simp, less_irr a⟩
    · exact .inr ⟨by simpa using h, less_total h⟩
  have htr : ¬ (less a b = true ∧ less b c = true ∧ less a c = false) := by
    rintro ⟨h1, h2, h3⟩; rw [less_trans h1 h2] at h3; cases h3
  have HTR := hid htr
  clear htr
  obtain ⟨hB, sa, sb, sc⟩ := box3 a b c w
  go_enter Tryd.func5, Tryd.ntmps5
  go_wp2_with fail
  have hz0 : w.heap.size < (((w.alloc (.cells #[.int .u64 ((lw a).toNat : Int), .int .u64 ((hw a).toNat : Int)] 26)).alloc (.cells #[.int .u64 ((lw b).toNat : Int), .int .u64 ((hw b).toNat : Int)] 26)).alloc (.cells #[.int .u64 ((lw c).toNat : Int), .int .u64 ((hw c).toNat : Int)] 26)).heap.size := by simp <;> omega
  generalize (((w.alloc (.cells #[.int .u64 ((lw a).toNat : Int), .int .u64 ((hw a).toNat : Int)] 26)).alloc (.cells #[.int .u64 ((lw b).toNat : Int), .int .u64 ((hw b).toNat : Int)] 26)).alloc (.cells #[.int .u64 ((lw c).toNat : Int), .int .u64 ((hw c).toNat : Int)] 26)) = w0 at *
  replace hT := hT.below hT.lt hB
  obtain ⟨a0, a1, _, _⟩ := sa.cells
  have la := sa.lt
  obtain ⟨b0, b1, _, _⟩ := sb.cells
  have lb := sb.lt
  obtain ⟨c0, c1, _, _⟩ := sc.cells
  have lc := sc.lt
  cases h1 : less a b <;> cases h2 : less b c <;> cases h3 : less a c
  case true.true.false => exact absurd ⟨h1, h2, h3⟩ HTR.out
  all_goals
    rw [h1] at heq
    rcases heq with ⟨heq, hl⟩ | ⟨heq, h4⟩
    all_goals first | (exact absurd hl (by decide)) | skip
    go_wp2_with (first
      | (go_at_call 19; refine (Less_c _ _ _ hT).mono ?_; rintro e w' ⟨rfl, hb⟩; replace sa := sa.below hb sa.lt; replace sb := sb.below hb sb.lt; replace sc := sc.below hb sc.lt; replace hT := hT.below hT.lt hb; replace hB := hB.trans (hb.mono hB.size); clear hb; clear a0 a1 la; clear b0 b1 lb; clear c0 c1 lc; obtain ⟨a0, a1, _, _⟩ := sa.cells; have la := sa.lt; obtain ⟨b0, b1, _, _⟩ := sb.cells; have lb := sb.lt; obtain ⟨c0, c1, _, _⟩ := sc.cells; have lc := sc.lt)
      | (go_at_call 21; refine (Cut_c _ _ _).mono ?_; rintro e w' ⟨rfl, hb⟩; replace sa := sa.below hb sa.lt; replace sb := sb.below hb sb.lt; replace sc := sc.below hb sc.lt; replace hT := hT.below hT.lt hb; replace hB := hB.trans (hb.mono hB.size); clear hb; clear a0 a1 la; clear b0 b1 lb; clear c0 c1 lc; obtain ⟨a0, a1, _, _⟩ := sa.cells; have la := sa.lt; obtain ⟨b0, b1, _, _⟩ := sb.cells; have lb := sb.lt; obtain ⟨c0, c1, _, _⟩ := sc.cells; have lc := sc.lt)
      | (go_at_call 13; refine (works_c _ hT).mono ?_; rintro e w' ⟨rfl, hb⟩; replace sa := sa.below hb sa.lt; replace sb := sb.below hb sb.lt; replace sc := sc.below hb sc.lt; replace hT := hT.below hT.lt hb; replace hB := hB.trans (hb.mono hB.size); clear hb; clear a0 a1 la; clear b0 b1 lb; clear c0 c1 lc; obtain ⟨a0, a1, _, _⟩ := sa.cells; have la := sa.lt; obtain ⟨b0, b1, _, _⟩ := sb.cells; have lb := sb.lt; obtain ⟨c0, c1, _, _⟩ := sc.cells; have lc := sc.lt))
    all_goals first
      | (go_ret; exact ⟨rfl, hB⟩)
      | skip
    all_goals
    refine wp_region_pure (by kernel_rfl) (by kernel_rfl) ?_
    repeat (go_big_quiet_step ((first
      | (go_at_call 19; exact Calls.ext_of (Less_c _ _ _ (hT.below hT.lt (ext_below _ _)))))))
    refine wpQuiet_nil ?_
    intro w1 hb
    replace sa := sa.below hb sa.lt
    replace sb := sb.below hb sb.lt
    replace sc := sc.below hb sc.lt
    replace hT := hT.below hT.lt hb
    replace hB := hB.trans (hb.mono hB.size)
    clear hb
    clear a0 a1 la
    clear b0 b1 lb
    clear c0 c1 lc
    obtain ⟨a0, a1, _, _⟩ := sa.cells; have la := sa.lt
    obtain ⟨b0, b1, _, _⟩ := sb.cells; have lb := sb.lt
    obtain ⟨c0, c1, _, _⟩ := sc.cells; have lc := sc.lt
    go_wp2_with fail
    refine (Cut_c a b _).mono ?_
    rintro e w' ⟨rfl, hb⟩
    replace sa := sa.below hb sa.lt
    replace sb := sb.below hb sb.lt
    replace sc := sc.below hb sc.lt
    replace hT := hT.below hT.lt hb
    replace hB := hB.trans (hb.mono hB.size)
    clear hb
    clear a0 a1 la
    clear b0 b1 lb
    clear c0 c1 lc
    obtain ⟨a0, a1, _, _⟩ := sa.cells; have la := sa.lt
    obtain ⟨b0, b1, _, _⟩ := sb.cells; have lb := sb.lt
    obtain ⟨c0, c1, _, _⟩ := sc.cells; have lc := sc.lt
    rcases hcut with h5 | ⟨h5, h6⟩
    · go_wp2_with fail
      refine (works_c _ (hT.below hT.lt ((Below.refl _ _).alloc (Nat.le_refl _) _))).mono ?_; rintro e w2 ⟨rfl, hb2⟩
      have hB2 := (hB.alloc hB.size _).trans (hb2.mono (by have := hB.size; simp; omega))
      clear hb2
      go_wp2_with fail
      go_ret
      exact ⟨rfl, hB2⟩
    · go_wp2_with fail
      refine (Less_c _ _ _ (hT.below hT.lt ((Below.refl _ _).alloc (Nat.le_refl _) _))).mono ?_; rintro e w2 ⟨rfl, hb2⟩
      have hB2 := (hB.alloc hB.size _).trans (hb2.mono (by have := hB.size; simp; omega))
      have hT2 := (hT.below hT.lt ((Below.refl _ _).alloc (Nat.le_refl _) _)).below (by have := hT.lt; simp <;> omega) hb2
      clear hb2
      go_wp2_with fail
      refine (works_c _ hT2).mono ?_; rintro e w3 ⟨rfl, hb3⟩
      have hB3 := hB2.trans (hb3.mono hB2.size)
      clear hb3
      go_wp2_with fail
      go_ret
      exact ⟨rfl, hB3⟩

set_option maxRecDepth 100000 in
theorem varsTotal_lifted (os : Os) (started : os.Started) (H : Type) (enc : TypeId × Value → H) :
    ReturnsInHanded {} Tryd.checked os 5 .any (fun w args => (Rows.varsTotalSpec.pre enc Tryd.prog Tryd.f5 [] false w args ∧ laidMetH Tryd.prog [("math/bits.deBruijn64tab", Rows.laid_math_bits_deBruijn64tab)] w) ∧ sizedMet enc Tryd.prog Tryd.f5 (OpenSpec.ofChange Rows.varsTotalSpec) false w args)
      (Rows.varsTotalSpec.post enc Tryd.prog Tryd.f5 false true false false) := by
  refine returnsInHanded_of_change_and (C := Tryd.checked) (X := fun w _ => laidMetH Tryd.prog [("math/bits.deBruijn64tab", Rows.laid_math_bits_deBruijn64tab)] w) (fun _ _ _ hh h => h.of_heap hh) own started (by kernel_rfl) Tryd.func5
    (ChangeSpec.witness_shaped (enc := enc) (C := Tryd.checked) (os := os) (X := fun w _ => laidMetH Tryd.prog [("math/bits.deBruijn64tab", Rows.laid_math_bits_deBruijn64tab)] w) false (World.doorLaid Tryd.prog 400 os) #[.agg #[.int .u64 0, .int .u64 0], .agg #[.int .u64 0, .int .u64 0], .agg #[.int .u64 0, .int .u64 0]] 8 rfl (World.shaped_of_RefB (by kernel_rfl) (by kernel_rfl)) (by kernel_rfl) (by kernel_rfl) (by kernel_rfl) (door_met os _)) ?_
  intro W base args ds gs before hval0 hW _ _ hL _
  have hval : ∀ (j : Nat) t v, Tryd.f5.params[j]? = some t → args[j]? = some v → Value.okWide Tryd.prog W .any base t v := hval0
  have hW' := hW
  obtain ⟨p, q, hA0, hV, rfl, hfz, hnd⟩ := hW
  have hA : DataW.TrodAll enc Tryd.prog W 0 (fun _ => true) true Tryd.f5.params.toList args.toList ds p := hA0
  rw [Tryd.params5] at hA hval
  obtain ⟨v0, vs0, d0, ds0, p0, q0, hargs, rfl, rfl, h0, r0⟩ := trodAll_cons hA
  obtain ⟨v1, vs1, d1, ds1, p1, q1, rfl, rfl, rfl, h1, r1⟩ := trodAll_cons r0
  obtain ⟨v2, vs2, d2, ds2, p2, q2, rfl, rfl, rfl, h2, r2⟩ := trodAll_cons r1
  obtain ⟨rfl, rfl, rfl⟩ := trodAll_nil r2
  obtain rfl : args = #[v0, v1, v2] := by cases args; simp_all
  have k0 := h0
  have lt0 : ∀ x ∈ p0, x.block < W.heap.size := by obtain ⟨m, hm⟩ := k0; exact DataW.trod_lt m _ _ _ hm
  have k1 := h1
  have lt1 : ∀ x ∈ p1, x.block < W.heap.size := by obtain ⟨m, hm⟩ := k1; exact DataW.trod_lt m _ _ _ hm
  have k2 := h2
  have lt2 : ∀ x ∈ p2, x.block < W.heap.size := by obtain ⟨m, hm⟩ := k2; exact DataW.trod_lt m _ _ _ hm
  obtain ⟨rfl, rfl⟩ := trodVars_none hV
  obtain ⟨s0, rfl⟩ := open_set (hval 0 26 v0 rfl rfl) k0
  obtain ⟨s1, rfl⟩ := open_set (hval 1 26 v1 rfl rfl) k1
  obtain ⟨s2, rfl⟩ := open_set (hval 2 26 v2 rfl rfl) k2
  have hT := of_laid hL
  clear hA0 hval0 hL
  simp only [List.append_nil] at hW'
  refine (varsTotal_walk s0 s1 s2 W hT).mono fun e W' ⟨he, bel⟩ => ?_
  subst he
  exact ⟨_, rfl, _, _, _, [], _, [], hW', trodAll_mk1 (shut_bool Tryd.underlying4 _), (trodAll_cons_mk (Below.trod laidOut (by kernel_rfl) (of_decide_eq_true (by kernel_rfl)) k0 bel lt0) (trodAll_cons_mk (Below.trod laidOut (by kernel_rfl) (of_decide_eq_true (by kernel_rfl)) k1 bel lt1) (trodAll_cons_mk (Below.trod laidOut (by kernel_rfl) (of_decide_eq_true (by kernel_rfl)) k2 bel lt2) trodAll_mk0))), rfl, bel.frame _, fun h => by cases h⟩
theorem varsTotal_holds : Rows.VarsTotalSaid :=
  OpenClaim.holds_of_wide 5 Tryd.f5 rfl rfl rfl rfl rfl rfl rfl ⟨rfl, rfl, rfl, rfl, rfl⟩ rfl rfl rfl rfl rfl (by kernel_rfl) Tryd.func5 (by kernel_rfl)
    (of_decide_eq_true (by kernel_rfl)) (by unfold Func.isWrapper; rw [if_neg (of_decide_eq_false (by kernel_rfl))]; exact ⟨rfl, rfl⟩)
    (fun os started H enc _ => varsTotal_lifted os started H enc)
/-- THE CARD. -/
theorem varsTotal_card : Rows.VarsTotalCardSaid :=
  Claim7.holds_tied_plain_at .later [] [.data] true Rows.varsTotalCard.stood.harness false
    varsTotal_holds (fun _ h => by cases h) (by kernel_rfl) (fun _ h => by cases h) varsTotal_row_tie rfl ⟨rfl, rfl⟩ (by kernel_rfl) rfl
    (fun f fn hf hfn => by
      obtain rfl : f = 5 := Option.some.inj ((show Tryd.prog.funcNamed "census/censuslaw03.VarsTotal" = some 5 by kernel_rfl).symm.trans hf) |>.symm
      obtain rfl : fn = Tryd.f5 := (Option.some.inj (Tryd.func5.symm.trans hfn)).symm
      exact ⟨by kernel_rfl, fun j t ht => by
        rw [Tryd.params5] at ht
        have hm : t ∈ [26, 26, 26] := by simpa using Array.mem_of_getElem? ht
        have hall : ([26, 26, 26].all fun u => !Tryd.prog.wantsStandIn u) = true := by kernel_rfl
        exact (show Tryd.prog.wantsStandIn t = false by simpa using List.all_eq_true.1 hall t hm)⟩)
    (by kernel_rfl)
#print axioms varsTotal_card
end Go.Proofs.YthckmpdnkinmlaaDoor
