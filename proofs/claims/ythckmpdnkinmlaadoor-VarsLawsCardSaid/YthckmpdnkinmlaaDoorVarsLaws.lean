/- Proved: the law VarsLaws of the layer vars: union and intersection are commutative, intersection is distributive, differences are intersections with complements, numbers add up; the examples hold. Condition: the table of math/bits is as its initialiser lays it, tied by the card. -/
import Derived.Test.YthckmpdnkinmlaaDoorLawA
import Derived.Test.YthckmpdnkinmlaaDoorVOrder
import Derived.Test.YthckmpdnkinmlaaDoorFrame
import Derived.Test.YthckmpdnkinmlaaDoorCards
namespace Go.Proofs.YthckmpdnkinmlaaDoor
open Go.ChangeShapes Go.WideShapes Go.ChangeAt Go.WideMaps Go.WideElems Go.RowKit
attribute [local go_sem ↓] run_eqlS run_neqS

theorem law_dist (a b c : VS) : a &&& (b ||| c) = (a &&& b) ||| (a &&& c) := by
  apply ext_has; intro u _ _; simp only [has_and, has_or]; cases has a u <;> rfl
theorem law_minus (a b : VS) : a &&& minus (allV 128) b = minus a b := by
  apply ext_has; intro u h1 h2; simp only [has_and, has_minus, has_allV]; simp [h1, h2]
theorem len_range (a : VS) : 0 ≤ len a ∧ len a ≤ 128 := by
  have := mems_length a; unfold len; omega
theorem filter_sum (p q : Int → Bool) (l : List Int) : (l.filter (fun v => p v || q v)).length + (l.filter (fun v => p v && q v)).length = (l.filter p).length + (l.filter q).length := by
  induction l with
  | nil => rfl
  | cons x l ih =>
    simp only [List.filter_cons]
    cases p x <;> cases q x <;> simp <;> omega
theorem law_len (a b : VS) : len (a ||| b) + len (a &&& b) = len a + len b := by
  have h := filter_sum (has a) (has b) ((List.range 128).map fun i : Nat => (i : Int) + 1)
  have e1 : mems (a ||| b) = ((List.range 128).map fun i : Nat => (i : Int) + 1).filter (fun v => has a v || has b v) := by
    unfold mems; congr 1; funext v; rw [has_or]
  have e2 : mems (a &&& b) = ((List.range 128).map fun i : Nat => (i : Int) + 1).filter (fun v => has a v && has b v) := by
    unfold mems; congr 1; funext v; rw [has_and]
  unfold len
  rw [e1, e2]
  unfold mems
  omega

set_option maxRecDepth 100000 in
set_option maxHeartbeats 1000000 in
theorem varsLaws_walk (a b c : VS) (w : World) (hT : TabAt w) :
    Calls Tryd.prog 9 #[encS a, encS b, encS c] w fun e w' => e = .returned (.bool true) ∧ Below w.heap.size w w' := by
  have e1 : ((b ||| a) == (a ||| b)) = true := by rw [BitVec.or_comm]; simp
  have e1' : ((a ||| b) == (b ||| a)) = true := by rw [BitVec.or_comm]; simp
  have e2 : ((a &&& b) == (b &&& a)) = true := by rw [BitVec.and_comm]; simp
  have e3 : ((a &&& (b ||| c)) == ((a &&& b) ||| (a &&& c))) = true := by rw [law_dist]; simp
  have e4 : (minus a b == (a &&& minus (allV 128) b)) = true := by rw [law_minus]; simp
  have e5 : len (a ||| b) + len (a &&& b) = len a + len b := law_len a b
  have E5 := hid e5
  clear e5
  have r1 := len_range a
  have r2 := len_range b
  have r3 := len_range (a ||| b)
  have r4 := len_range (a &&& b)
  obtain ⟨r1, r1'⟩ := r1
  obtain ⟨r2, r2'⟩ := r2
  obtain ⟨r3, r3'⟩ := r3
  obtain ⟨r4, r4'⟩ := r4
  obtain ⟨hB, sa, sb, sc⟩ := box3 a b c w
  go_enter Tryd.func9, Tryd.ntmps9
  go_wp2_with fail
  have hz0 : w.heap.size < (((w.alloc (.cells #[.int .u64 ((lw a).toNat : Int), .int .u64 ((hw a).toNat : Int)] 26)).alloc (.cells #[.int .u64 ((lw b).toNat : Int), .int .u64 ((hw b).toNat : Int)] 26)).alloc (.cells #[.int .u64 ((lw c).toNat : Int), .int .u64 ((hw c).toNat : Int)] 26)).heap.size := by simp <;> omega
  generalize (((w.alloc (.cells #[.int .u64 ((lw a).toNat : Int), .int .u64 ((hw a).toNat : Int)] 26)).alloc (.cells #[.int .u64 ((lw b).toNat : Int), .int .u64 ((hw b).toNat : Int)] 26)).alloc (.cells #[.int .u64 ((lw c).toNat : Int), .int .u64 ((hw c).toNat : Int)] 26)) = w0 at *
  replace hT := hT.below hT.lt hB
  obtain ⟨a0, a1, _, _⟩ := sa.cells
  have la := sa.lt
  obtain ⟨b0, b1, _, _⟩ := sb.cells
  have lb := sb.lt
  obtain ⟨c0, c1, _, _⟩ := sc.cells
  have lc := sc.lt
  refine wp_region_pure (by kernel_rfl) (by kernel_rfl) ?_
  repeat (go_big_quiet_step ((first
    | (go_at_call 22; exact Calls.ext_of (Union_c _ _ _))
    | (go_at_call 21; exact Calls.ext_of (Cut_c _ _ _)))))
  refine wpQuiet_nil ?_
  intro w1 hb
  replace sa := sa.below hb sa.lt
  replace sb := sb.below hb sb.lt
  replace sc := sc.below hb sc.lt
  replace hT := hT.below hT.lt hb
  replace hB := hB.trans (hb.mono hB.size)
  clear hb
  clear a0 a1 la
  clear b0 b1 lb
  clear c0 c1 lc
  obtain ⟨a0, a1, _, _⟩ := sa.cells; have la := sa.lt
  obtain ⟨b0, b1, _, _⟩ := sb.cells; have lb := sb.lt
  obtain ⟨c0, c1, _, _⟩ := sc.cells; have lc := sc.lt
  go_wp2_with fail
  refine wp_region_pure (by kernel_rfl) (by kernel_rfl) ?_
  repeat (go_big_quiet_step ((first
    | (go_at_call 22; exact Calls.ext_of (Union_c _ _ _))
    | (go_at_call 21; exact Calls.ext_of (Cut_c _ _ _))
    | (go_at_call 25; exact Calls.ext_of (Minus_c _ _ _))
    | (go_at_call 17; exact Calls.ext_of (All_c _ _)))))
  refine wpQuiet_nil ?_
  intro w1 hb
  replace sa := sa.below hb sa.lt
  replace sb := sb.below hb sb.lt
  replace sc := sc.below hb sc.lt
  replace hT := hT.below hT.lt hb
  replace hB := hB.trans (hb.mono hB.size)
  clear hb
  clear a0 a1 la
  clear b0 b1 lb
  clear c0 c1 lc
  obtain ⟨a0, a1, _, _⟩ := sa.cells; have la := sa.lt
  obtain ⟨b0, b1, _, _⟩ := sb.cells; have lb := sb.lt
  obtain ⟨c0, c1, _, _⟩ := sc.cells; have lc := sc.lt
  go_wp2_with fail
  have e6 : (len a + len b == len (a ||| b) + len (a &&& b)) = true := by rw [E5.out]; simp
  refine wp_region_pure (by kernel_rfl) (by kernel_rfl) ?_
  repeat (go_big_quiet_step ((first
    | (go_at_call 35; exact Calls.ext_of (Len_c _ _))
    | (go_at_call 22; exact Calls.ext_of (Union_c _ _ _))
    | (go_at_call 21; exact Calls.ext_of (Cut_c _ _ _))
    | (go_at_call 13; exact Calls.ext_of (works_c _ (hT.below hT.lt (ext_below _ _)))))))
  refine wpQuiet_nil ?_
  intro w1 hb
  replace sa := sa.below hb sa.lt
  replace sb := sb.below hb sb.lt
  replace sc := sc.below hb sc.lt
  replace hT := hT.below hT.lt hb
  replace hB := hB.trans (hb.mono hB.size)
  clear hb
  clear a0 a1 la
  clear b0 b1 lb
  clear c0 c1 lc
  obtain ⟨a0, a1, _, _⟩ := sa.cells; have la := sa.lt
  obtain ⟨b0, b1, _, _⟩ := sb.cells; have lb := sb.lt
  obtain ⟨c0, c1, _, _⟩ := sc.cells; have lc := sc.lt
  go_wp2
  go_ret
  exact ⟨rfl, hB⟩

set_option maxRecDepth 100000 in
theorem varsLaws_lifted (os : Os) (started : os.Started) (H : Type) (enc : TypeId × Value → H) :
    ReturnsInHanded {} Tryd.checked os 9 .any (fun w args => (Rows.varsLawsSpec.pre enc Tryd.prog Tryd.f9 [] false w args ∧ laidMetH Tryd.prog [("math/bits.deBruijn64tab", Rows.laid_math_bits_deBruijn64tab)] w) ∧ sizedMet enc Tryd.prog Tryd.f9 (OpenSpec.ofChange Rows.varsLawsSpec) false w args)
      (Rows.varsLawsSpec.post enc Tryd.prog Tryd.f9 false true false false) := by
  refine returnsInHanded_of_change_and (C := Tryd.checked) (X := fun w _ => laidMetH Tryd.prog [("math/bits.deBruijn64tab", Rows.laid_math_bits_deBruijn64tab)] w) (fun _ _ _ hh h => h.of_heap hh) own started (by kernel_rfl) Tryd.func9
    (ChangeSpec.witness_shaped (enc := enc) (C := Tryd.checked) (os := os) (X := fun w _ => laidMetH Tryd.prog [("math/bits.deBruijn64tab", Rows.laid_math_bits_deBruijn64tab)] w) false (World.doorLaid Tryd.prog 400 os) #[.agg #[.int .u64 0, .int .u64 0], .agg #[.int .u64 0, .int .u64 0], .agg #[.int .u64 0, .int .u64 0]] 8 rfl (World.shaped_of_RefB (by kernel_rfl) (by kernel_rfl)) (by kernel_rfl) (by kernel_rfl) (by kernel_rfl) (door_met os _)) ?_
  intro W base args ds gs before hval0 hW _ _ hL _
  have hval : ∀ (j : Nat) t v, Tryd.f9.params[j]? = some t → args[j]? = some v → Value.okWide Tryd.prog W .any base t v := hval0
  have hW' := hW
  obtain ⟨p, q, hA0, hV, rfl, hfz, hnd⟩ := hW
  have hA : DataW.TrodAll enc Tryd.prog W 0 (fun _ => true) true Tryd.f9.params.toList args.toList ds p := hA0
  rw [Tryd.params9] at hA hval
  obtain ⟨v0, vs0, d0, ds0, p0, q0, hargs, rfl, rfl, h0, r0⟩ := trodAll_cons hA
  obtain ⟨v1, vs1, d1, ds1, p1, q1, rfl, rfl, rfl, h1, r1⟩ := trodAll_cons r0
  obtain ⟨v2, vs2, d2, ds2, p2, q2, rfl, rfl, rfl, h2, r2⟩ := trodAll_cons r1
  obtain ⟨rfl, rfl, rfl⟩ := trodAll_nil r2
  obtain rfl : args = #[v0, v1, v2] := by cases args; simp_all
  have k0 := h0
  have lt0 : ∀ x ∈ p0, x.block < W.heap.size := by obtain ⟨m, hm⟩ := k0; exact DataW.trod_lt m _ _ _ hm
  have k1 := h1
  have lt1 : ∀ x ∈ p1, x.block < W.heap.size := by obtain ⟨m, hm⟩ := k1; exact DataW.trod_lt m _ _ _ hm
  have k2 := h2
  have lt2 : ∀ x ∈ p2, x.block < W.heap.size := by obtain ⟨m, hm⟩ := k2; exact DataW.trod_lt m _ _ _ hm
  obtain ⟨rfl, rfl⟩ := trodVars_none hV
  obtain ⟨s0, rfl⟩ := open_set (hval 0 26 v0 rfl rfl) k0
  obtain ⟨s1, rfl⟩ := open_set (hval 1 26 v1 rfl rfl) k1
  obtain ⟨s2, rfl⟩ := open_set (hval 2 26 v2 rfl rfl) k2
  have hT := of_laid hL
  clear hA0 hval0 hL
  simp only [List.append_nil] at hW'
  refine (varsLaws_walk s0 s1 s2 W hT).mono fun e W' ⟨he, bel⟩ => ?_
  subst he
  exact ⟨_, rfl, _, _, _, [], _, [], hW', trodAll_mk1 (shut_bool Tryd.underlying4 _), (trodAll_cons_mk (Below.trod laidOut (by kernel_rfl) (of_decide_eq_true (by kernel_rfl)) k0 bel lt0) (trodAll_cons_mk (Below.trod laidOut (by kernel_rfl) (of_decide_eq_true (by kernel_rfl)) k1 bel lt1) (trodAll_cons_mk (Below.trod laidOut (by kernel_rfl) (of_decide_eq_true (by kernel_rfl)) k2 bel lt2) trodAll_mk0))), rfl, bel.frame _, fun h => by cases h⟩
theorem varsLaws_holds : Rows.VarsLawsSaid :=
  OpenClaim.holds_of_wide 9 Tryd.f9 rfl rfl rfl rfl rfl rfl rfl ⟨rfl, rfl, rfl, rfl, rfl⟩ rfl rfl rfl rfl rfl (by kernel_rfl) Tryd.func9 (by kernel_rfl)
    (of_decide_eq_true (by kernel_rfl)) (by unfold Func.isWrapper; rw [if_neg (of_decide_eq_false (by kernel_rfl))]; exact ⟨rfl, rfl⟩)
    (fun os started H enc _ => varsLaws_lifted os started H enc)
/-- THE CARD. -/
theorem varsLaws_card : Rows.VarsLawsCardSaid :=
  Claim7.holds_tied_plain_at .later [] [.data] true Rows.varsLawsCard.stood.harness false
    varsLaws_holds (fun _ h => by cases h) (by kernel_rfl) (fun _ h => by cases h) varsLaws_row_tie rfl ⟨rfl, rfl⟩ (by kernel_rfl) rfl
    (fun f fn hf hfn => by
      obtain rfl : f = 9 := Option.some.inj ((show Tryd.prog.funcNamed "census/censuslaw03.VarsLaws" = some 9 by kernel_rfl).symm.trans hf) |>.symm
      obtain rfl : fn = Tryd.f9 := (Option.some.inj (Tryd.func9.symm.trans hfn)).symm
      exact ⟨by kernel_rfl, fun j t ht => by
        rw [Tryd.params9] at ht
        have hm : t ∈ [26, 26, 26] := by simpa using Array.mem_of_getElem? ht
        have hall : ([26, 26, 26].all fun u => !Tryd.prog.wantsStandIn u) = true := by kernel_rfl
        exact (show Tryd.prog.wantsStandIn t = false by simpa using List.all_eq_true.1 hall t hm)⟩)
    (by kernel_rfl)
#print axioms varsLaws_card
end Go.Proofs.YthckmpdnkinmlaaDoor
