/- Proved: the law VarsMakes of the layer vars: Of and All return the sets that the chapter specifies, at every list of at most 1000 numbers and every number; the examples hold. Condition: the table of math/bits is as its initialiser lays it, tied by the card. -/
import Derived.Test.YthckmpdnkinmlaaDoorLawA
import Derived.Test.YthckmpdnkinmlaaDoorArgs
import Derived.Test.YthckmpdnkinmlaaDoorFrame
import Derived.Test.YthckmpdnkinmlaaDoorCards
namespace Go.Proofs.YthckmpdnkinmlaaDoor
open Go.ChangeShapes Go.WideShapes Go.ChangeAt Go.WideMaps Go.WideElems Go.RowKit
attribute [local go_sem ↓] run_eqlS run_neqS

theorem append_own0 (w : World) : (w.alloc (.cells #[] 3)).ownsRow w.heap.size 3 1 (.slice (some ⟨w.heap.size, 0, none⟩) 0 0) 0 [] :=
  World.ownsRow_made w #[] 0 (Nat.le_refl _) (by decide) rfl
theorem ext_alloc (w : World) (o : Obj) (x : Ext) : Below w.heap.size w (ext (w.alloc o) x) := ((Below.refl _ w).alloc (Nat.le_refl _) o).trans ((ext_below _ x).mono (by simp))
theorem owns_ints {w : World} {B : Nat} {v : Value} {l : List Int} (h : w.ownsRow B 3 1 v l.length (l.map (Value.int .i64))) : IntsAt w v l := by
  obtain ⟨_, h | ⟨g, cap, cur, rfl, _, hg, hn, _, _, ht⟩⟩ := h
  · exact ⟨none, 0, by rw [h.1, h.2], .inl (List.eq_nil_of_length_eq_zero h.2)⟩
  · refine ⟨_, cap, rfl, .inr ⟨g, 0, rfl, fun i hi => ?_⟩⟩
    have : (l.map (Value.int .i64))[i]? = some (.int .i64 l[i]) := by simp [hi]
    rw [← ht, List.getElem?_take] at this
    simp [hi] at this
    simp [World.cell?, hg, hi]
    exact this
theorem ints_news {w : World} {ad : Addr} {l : List Int} (h : ∀ i, i < l.length → w.cell? (ad.add i) = some (.int .i64 (l[i]?.getD 0))) : ∀ j u, (l.map (Value.int .i64))[j]? = some u → w.cell? (ad.add j) = some u := by
  intro j u hu
  rw [List.getElem?_map] at hu
  cases hj : l[j]? with
  | none => rw [hj] at hu; cases hu
  | some x =>
    rw [hj] at hu
    have hlt := (List.getElem?_eq_some_iff.1 hj).1
    rw [h j hlt, hj]
    exact hu

set_option maxRecDepth 100000 in
set_option maxHeartbeats 1000000 in
theorem varsMakes_walk0 (v : Value) (l : List Int) (n : Int) (w : World) (hl : ArgInts w v l) (hn : ∀ n ∈ l, -9223372036854775808 ≤ n ∧ n ≤ 9223372036854775807) (hv : -9223372036854775808 ≤ n ∧ n ≤ 9223372036854775807) (hT : TabAt w) :
    Calls Tryd.prog 3 #[v, .int .i64 n] w fun e w' => e = .returned (.bool true) ∧ Below w.heap.size w w' := by
  have hI := hl.ints
  have HN := hid hn
  clear hn
  have hdec : decide (l = l) = true := by simp
  by_cases h1000 : l.length ≤ 1000
  · obtain ⟨i0, hi, hz0, hz1, hz2⟩ := info_parts info_int
    have hown := append_own0 w
    rcases hl with ⟨rfl, rfl⟩ | ⟨ad, c, rfl, hc, hm⟩
    · have HI := hid hI
      clear hI
      go_enter Tryd.func3, Tryd.ntmps3
      go_wp2_with (at_builtin; refine wpList_append_own_none rfl _ _ 22 rfl w.heap.size 3 i0 1 Tryd.underlying22 hi _ 0 [] rfl hown rfl ?_)
      have HV := hid (owns_ints (l := []) hown)
      have hB1 := ((Below.refl _ w).alloc (Nat.le_refl _) (.cells #[] 3))
      generalize w.alloc (.cells #[] 3) = w1 at *
      clear hown
      obtain ⟨l, hl0⟩ : ∃ l : List Int, l = [] := ⟨[], rfl⟩
      clear hdec
      have hdec : decide (l = l) = true := by simp
      rw [← hl0] at HI HV
      have HL0 := hid hl0
      clear hl0
      have hT1 := hT.below hT.lt hB1
      have hl1 := HI.out.below hB1
      have hl1' := hid hl1
      clear hl1
      refine (Of_c _ l _ HV.out (by rw [HL0.out]; decide)).mono ?_; rintro e w2 ⟨rfl, hb2⟩
      have hB2 := hB1.trans (hb2.mono hB1.size)
      have hT2 := hT1.below hT1.lt hb2
      have HI2 := hid (hl1'.out.below hb2)
      have HV2 := hid (HV.out.below hb2)
      clear hb2 hT1 hB1
      go_wp2_with fail
      refine wp_region_pure (by kernel_rfl) (by kernel_rfl) ?_
      repeat (go_big_quiet_step ((first
        | (go_at_call 15; exact Calls.ext_of (rOf_c _ l _ (HI2.out.below (ext_alloc _ _ _)) (by rw [HL0.out]; decide)))
        | (go_at_call 16; exact Calls.ext_of (rSame_c _ _ l l _ (HV2.out.below (ext_alloc _ _ _)) (HI2.out.below (ext_alloc _ _ _)) (by rw [HL0.out]; decide) (by rw [HL0.out]; decide)))
        | (go_at_call 17; exact Calls.ext_of (All_c _ _))
        | (go_at_call 18; exact Calls.ext_of (rAll_c _ _))
        | (go_at_call 13; exact Calls.ext_of (works_c _ (hT2.below hT2.lt (ext_alloc _ _ _)))))))
      refine wpQuiet_nil ?_
      intro w3 hb3
      have hB3 := (hB2.alloc hB2.size _).trans (hb3.mono (by have := hB2.size; simp <;> omega))
      clear hb3
      go_wp2
      go_ret
      exact ⟨rfl, hB3⟩
    · have HI := hid hI
      have HC := hid (ints_news hc)
      clear hI hc
      have hgt : ¬ (1000 : Int) < (l.length : Int) := by omega
      go_enter Tryd.func3, Tryd.ntmps3
      go_wp2_with (at_builtin; refine wpList_append_own _ rfl _ _ 22 rfl w.heap.size 3 i0 (.int .i64 0) 1 8 Tryd.underlying22 hi hz0 hz1 hz2 rfl (by decide) _ 0 [] rfl hown ad l.length c (l.map (Value.int .i64)) rfl (by simp) (fun j u hu => by rw [World.cell?_alloc_some _ _ _ (by rw [HC.out j u hu]; rfl)]; exact HC.out j u hu) (by simp [Value.oneCell']) (by unfold maxLen; omega) (by omega) (by simp) ?_; intro v' w1 hown' hgrow _)
      have HV := hid (owns_ints (l := l) (by simpa using hown'))
      have hB1 := ((Below.refl _ w).alloc (Nat.le_refl _) (.cells #[] 3)).grown hgrow (by simp) (fun k e => by cases e; exact Nat.le_refl _)
      clear hown' hgrow hown
      have hT1 := hT.below hT.lt hB1
      have hl1 := HI.out.below hB1
      have hl1' := hid hl1
      clear hl1
      refine (Of_c _ l _ HV.out (by omega)).mono ?_; rintro e w2 ⟨rfl, hb2⟩
      have hB2 := hB1.trans (hb2.mono hB1.size)
      have hT2 := hT1.below hT1.lt hb2
      have HI2 := hid (hl1'.out.below hb2)
      have HV2 := hid (HV.out.below hb2)
      clear hb2 hT1 hB1
      go_wp2_with fail
      refine wp_region_pure (by kernel_rfl) (by kernel_rfl) ?_
      repeat (go_big_quiet_step ((first
        | (go_at_call 15; exact Calls.ext_of (rOf_c _ l _ (HI2.out.below (ext_alloc _ _ _)) (by omega)))
        | (go_at_call 16; exact Calls.ext_of (rSame_c _ _ l l _ (HV2.out.below (ext_alloc _ _ _)) (HI2.out.below (ext_alloc _ _ _)) (by omega) (by omega)))
        | (go_at_call 17; exact Calls.ext_of (All_c _ _))
        | (go_at_call 18; exact Calls.ext_of (rAll_c _ _))
        | (go_at_call 13; exact Calls.ext_of (works_c _ (hT2.below hT2.lt (ext_alloc _ _ _)))))))
      refine wpQuiet_nil ?_
      intro w3 hb3
      have hB3 := (hB2.alloc hB2.size _).trans (hb3.mono (by have := hB2.size; simp <;> omega))
      clear hb3
      go_wp2
      go_ret
      exact ⟨rfl, hB3⟩
  · have hgt : (1000 : Int) < (l.length : Int) := by omega
    obtain ⟨p, c, rfl, _⟩ := hI
    clear hl
    go_enter Tryd.func3, Tryd.ntmps3
    go_wp2_with fail
    refine (works_c _ hT).mono ?_; rintro e w1 ⟨rfl, hb1⟩
    go_wp2_with fail
    go_ret
    exact ⟨rfl, hb1⟩
theorem varsMakes_walk (v : Value) (l : List Int) {w0 : World} (hl : ArgInts w0 v l) (hn : ∀ n ∈ l, -9223372036854775808 ≤ n ∧ n ≤ 9223372036854775807) (n : Int) (hv : -9223372036854775808 ≤ n ∧ n ≤ 9223372036854775807) (w : World) (hT : TabAt w) (e : w0 = w := by rfl) :
    Calls Tryd.prog 3 #[v, .int .i64 n] w fun e w' => e = .returned (.bool true) ∧ Below w.heap.size w w' := by
  subst e; exact varsMakes_walk0 v l n w0 hl hn hv hT

set_option maxRecDepth 100000 in
theorem varsMakes_lifted (os : Os) (started : os.Started) (H : Type) (enc : TypeId × Value → H) :
    ReturnsInHanded {} Tryd.checked os 3 .any (fun w args => (Rows.varsMakesSpec.pre enc Tryd.prog Tryd.f3 [] false w args ∧ laidMetH Tryd.prog [("math/bits.deBruijn64tab", Rows.laid_math_bits_deBruijn64tab)] w) ∧ sizedMet enc Tryd.prog Tryd.f3 (OpenSpec.ofChange Rows.varsMakesSpec) false w args)
      (Rows.varsMakesSpec.post enc Tryd.prog Tryd.f3 false true false false) := by
  refine returnsInHanded_of_change_and (C := Tryd.checked) (X := fun w _ => laidMetH Tryd.prog [("math/bits.deBruijn64tab", Rows.laid_math_bits_deBruijn64tab)] w) (fun _ _ _ hh h => h.of_heap hh) own started (by kernel_rfl) Tryd.func3
    (ChangeSpec.witness_shaped (enc := enc) (C := Tryd.checked) (os := os) (X := fun w _ => laidMetH Tryd.prog [("math/bits.deBruijn64tab", Rows.laid_math_bits_deBruijn64tab)] w) false (World.doorLaid Tryd.prog 400 os) #[.slice none 0 0, .int .i64 0] 8 rfl (World.shaped_of_RefB (by kernel_rfl) (by kernel_rfl)) (by kernel_rfl) (by kernel_rfl) (by kernel_rfl) (door_met os _)) ?_
  intro W base args ds gs before hval0 hW _ _ hL _
  have hval : ∀ (j : Nat) t v, Tryd.f3.params[j]? = some t → args[j]? = some v → Value.okWide Tryd.prog W .any base t v := hval0
  have hW' := hW
  obtain ⟨p, q, hA0, hV, rfl, hfz, hnd⟩ := hW
  have hA : DataW.TrodAll enc Tryd.prog W 0 (fun _ => true) true Tryd.f3.params.toList args.toList ds p := hA0
  rw [Tryd.params3] at hA hval
  obtain ⟨v0, vs0, d0, ds0, p0, q0, hargs, rfl, rfl, h0, r0⟩ := trodAll_cons hA
  obtain ⟨v1, vs1, d1, ds1, p1, q1, rfl, rfl, rfl, h1, r1⟩ := trodAll_cons r0
  obtain ⟨rfl, rfl, rfl⟩ := trodAll_nil r1
  obtain rfl : args = #[v0, v1] := by cases args; simp_all
  have k0 := h0
  have lt0 : ∀ x ∈ p0, x.block < W.heap.size := by obtain ⟨m, hm⟩ := k0; exact DataW.trod_lt m _ _ _ hm
  have k1 := h1
  have lt1 : ∀ x ∈ p1, x.block < W.heap.size := by obtain ⟨m, hm⟩ := k1; exact DataW.trod_lt m _ _ _ hm
  obtain ⟨rfl, rfl⟩ := trodVars_none hV
  obtain ⟨l0, il0, ln0⟩ := open_list (hval 0 22 v0 rfl rfl) k0
  obtain ⟨s1, rfl, rfl, rfl, wf1⟩ := open_int Tryd.underlying3 (hval 1 3 v1 rfl rfl) h1
  have bd1 := bounds_i64 wf1
  have hT := of_laid hL
  clear hA0 hval0 hL
  simp only [List.append_nil] at hW'
  refine (varsMakes_walk v0 l0 il0 ln0 s1 bd1 W hT).mono fun e W' ⟨he, bel⟩ => ?_
  subst he
  exact ⟨_, rfl, _, _, _, [], _, [], hW', trodAll_mk1 (shut_bool Tryd.underlying4 _), (trodAll_cons_mk (Below.trod laidOut (by kernel_rfl) (of_decide_eq_true (by kernel_rfl)) k0 bel lt0) (trodAll_cons_mk (shut_int Tryd.underlying3 wf1) trodAll_mk0)), rfl, bel.frame _, fun h => by cases h⟩
theorem varsMakes_holds : Rows.VarsMakesSaid :=
  OpenClaim.holds_of_wide 3 Tryd.f3 rfl rfl rfl rfl rfl rfl rfl ⟨rfl, rfl, rfl, rfl, rfl⟩ rfl rfl rfl rfl rfl (by kernel_rfl) Tryd.func3 (by kernel_rfl)
    (of_decide_eq_true (by kernel_rfl)) (by unfold Func.isWrapper; rw [if_neg (of_decide_eq_false (by kernel_rfl))]; exact ⟨rfl, rfl⟩)
    (fun os started H enc _ => varsMakes_lifted os started H enc)
/-- THE CARD. -/
theorem varsMakes_card : Rows.VarsMakesCardSaid :=
  Claim7.holds_tied_plain_at .later [] [.data] true Rows.varsMakesCard.stood.harness false
    varsMakes_holds (fun _ h => by cases h) (by kernel_rfl) (fun _ h => by cases h) varsMakes_row_tie rfl ⟨rfl, rfl⟩ (by kernel_rfl) rfl
    (fun f fn hf hfn => by
      obtain rfl : f = 3 := Option.some.inj ((show Tryd.prog.funcNamed "census/censuslaw03.VarsMakes" = some 3 by kernel_rfl).symm.trans hf) |>.symm
      obtain rfl : fn = Tryd.f3 := (Option.some.inj (Tryd.func3.symm.trans hfn)).symm
      exact ⟨by kernel_rfl, fun j t ht => by
        rw [Tryd.params3] at ht
        have hm : t ∈ [22, 3] := by simpa using Array.mem_of_getElem? ht
        have hall : ([22, 3].all fun u => !Tryd.prog.wantsStandIn u) = true := by kernel_rfl
        exact (show Tryd.prog.wantsStandIn t = false by simpa using List.all_eq_true.1 hall t hm)⟩)
    (by kernel_rfl)
#print axioms varsMakes_card
end Go.Proofs.YthckmpdnkinmlaaDoor
