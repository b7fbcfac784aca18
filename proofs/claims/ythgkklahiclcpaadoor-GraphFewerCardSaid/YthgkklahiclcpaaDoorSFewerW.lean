/- The walk of the law GraphFewer. -/
import Derived.Test.YthgkklahiclcpaaDoorSLink
import Derived.Test.YthgkklahiclcpaaDoorSShuf
import Derived.Test.YthgkklahiclcpaaDoorSMoreP2
namespace Go.Proofs.YthgkklahiclcpaaDoor
open Go.RowKit
attribute [local go_sem ↓] run_eqlS run_neqS run_eqlS0 run_neqS0

/-- The graph in which the first variables of a list are all joined. -/
def moreTo (L : List VS) (l : List Int) (i k : Nat) : List VS := joinAll L (pairsTo l i ++ rowTo (fun _ => 0) l (l.getD i 0) k)
theorem moreTo_length (L : List VS) (l : List Int) (i k : Nat) : (moreTo L l i k).length = L.length := joinAll_length _ _
theorem moreTo_zero (L : List VS) (l : List Int) : moreTo L l 0 0 = L := by simp [moreTo, pairsTo, missTo, rowTo, joinAll]
theorem moreTo_next (L : List VS) (l : List Int) (i : Nat) : moreTo L l i i = moreTo L l (i + 1) 0 := by
  unfold moreTo pairsTo
  rw [missTo]; simp [rowTo]
theorem moreTo_succ (L : List VS) (l : List Int) (i k : Nat) (hi : i < l.length) (hk : k < l.length) (hne : l[i] ≠ l[k]) (h1 : l[i] ≤ 128) (h2 : l[k] ≤ 128) :
    linkG (moreTo L l i k) l[i] l[k] = moreTo L l i (k + 1) := by
  rw [linkG_yes (by omega)]
  unfold moreTo
  have e : l.getD i 0 = l[i] := by rw [List.getD_eq_getElem?_getD, List.getElem?_eq_getElem hi, Option.getD_some]
  rw [rowTo_succ _ _ _ _ hk, e]
  have e2 : cellP (fun _ => 0) l[i] l[k] = [(l[i], l[k])] := by unfold cellP; rw [has_zero]; rfl
  rw [e2, ← List.append_assoc, joinAll_snoc]
theorem moreTo_end (L : List VS) (l : List Int) : moreTo L l l.length 0 = joinAll L (pairsTo l l.length) := by simp [moreTo, rowTo]

set_option maxRecDepth 100000 in
set_option maxHeartbeats 16000000 in
theorem graphFewer_walk (v : Value) (L : List VS) (v2 : Value) (P : List Int) (a b : Int) (S : VS) (w : World) (hT : TabAt w) (hI : SetsAt w v L) (hL : L.length ≤ 9223372036854775807) (hP : U8sAt w v2 P) (hPl : P.length ≤ 9223372036854775807) (ha : 0 ≤ a ∧ a ≤ 255) (hb : 0 ≤ b ∧ b ≤ 255) :
    Calls Tryd.prog 6 #[v, v2, .int .u8 a, .int .u8 b, encS S] w (LawPost w) := by
  have HM := hid (fun w' (h : Below w.heap.size w w') => small_c v L w' (hI.below h) hL)
  have HW := hid (fun w' (h : Below w.heap.size w w') => works_c w' (hT.below hT.lt h))
  have HI := hid hI
  have HP := hid hP
  have hb0 : Below w.heap.size w (w.alloc (.cells #[.int .u64 ((lw S).toNat : Int), .int .u64 ((hw S).toNat : Int)] 35)) := (Below.refl _ w).alloc (Nat.le_refl _) _
  have HB0 := hid hb0
  have HSV := hid (SetVar.new w S 35)
  obtain ⟨p, c, rfl, hdrop⟩ := id hI
  clear hdrop hI hP hb0
  cases hs : smallG L with
  | false =>
    clear HSV
    go_enter Tryd.func6, Tryd.ntmps6
    go_wp2_with fail
    refine (HM.out _ HB0.out).mono ?_
    rintro e w1 ⟨rfl, hb1⟩
    have hB1 := HB0.out.trans (hb1.mono HB0.out.size)
    rw [hs]
    go_wp2_with fail
    refine (HW.out w1 hB1).mono ?_
    rintro e w2 ⟨rfl, hb2⟩
    have hB2 := hB1.trans (hb2.mono hB1.size)
    go_wp2_with fail
    go_ret
    exact ⟨rfl, hB2⟩
  | true =>
  have HSM := hid hs
  have hV : ValidG L := validG_iff.1 (by unfold smallG at hs; rw [Bool.and_eq_true] at hs; exact hs.2)
  have hL17 : L.length ≤ 17 := by unfold smallG at hs; rw [Bool.and_eq_true] at hs; exact of_decide_eq_true hs.1
  have hpos := hV.pos
  clear hs
  by_cases hl1 : (L.length : Int) - 1 < 1
  · clear HSV hV
    go_enter Tryd.func6, Tryd.ntmps6
    go_wp2_with fail
    refine (HM.out _ HB0.out).mono ?_
    rintro e w1 ⟨rfl, hb1⟩
    have hB1 := HB0.out.trans (hb1.mono HB0.out.size)
    rw [HSM.out]
    go_wp2_with fail
    refine (HW.out w1 hB1).mono ?_
    rintro e w2 ⟨rfl, hb2⟩
    have hB2 := hB1.trans (hb2.mono hB1.size)
    go_wp2_with fail
    go_ret
    exact ⟨rfl, hB2⟩
  · obtain ⟨an, rfl⟩ : ∃ an : Nat, a = (an : Int) := ⟨a.toNat, by omega⟩
    obtain ⟨bn, rfl⟩ : ∃ bn : Nat, b = (bn : Int) := ⟨b.toNat, by omega⟩
    obtain ⟨A, hA, hA1, hA2⟩ : ∃ A : Nat, 1 + (an : Int) % ((L.length : Int) - 1) = (A : Int) ∧ 1 ≤ A ∧ A < L.length := ⟨(1 + (an : Int) % ((L.length : Int) - 1)).toNat, by have := Int.emod_nonneg (an : Int) (show (L.length : Int) - 1 ≠ 0 by omega); have := Int.emod_lt_of_pos (an : Int) (show 0 < (L.length : Int) - 1 by omega); omega⟩
    obtain ⟨B, hBB, hB1', hB2'⟩ : ∃ B : Nat, 1 + (bn : Int) % ((L.length : Int) - 1) = (B : Int) ∧ 1 ≤ B ∧ B < L.length := ⟨(1 + (bn : Int) % ((L.length : Int) - 1)).toNat, by have := Int.emod_nonneg (bn : Int) (show (L.length : Int) - 1 ≠ 0 by omega); have := Int.emod_lt_of_pos (bn : Int) (show 0 < (L.length : Int) - 1 by omega); omega⟩
    have htma : Int.tmod (an : Int) ((L.length : Int) - 1) = (an : Int) % ((L.length : Int) - 1) := Int.tmod_eq_emod_of_nonneg (by omega)
    have htmb : Int.tmod (bn : Int) ((L.length : Int) - 1) = (bn : Int) % ((L.length : Int) - 1) := Int.tmod_eq_emod_of_nonneg (by omega)
    have hma : 0 ≤ (an : Int) % ((L.length : Int) - 1) ∧ (an : Int) % ((L.length : Int) - 1) ≤ 16 := by omega
    have hmb : 0 ≤ (bn : Int) % ((L.length : Int) - 1) ∧ (bn : Int) % ((L.length : Int) - 1) ≤ 16 := by omega
    have hne : ((L.length : Int) - 1 == 0) = false := by simp; omega
    have hne2 : ¬ (L.length : Int) - 1 = 0 := by omega
    have zA : (0 : Int) ≤ (A : Int) ∧ (A : Int) < (L.length : Int) := by omega
    have zB : (0 : Int) ≤ (B : Int) ∧ (B : Int) < (L.length : Int) := by omega
    have hn : ((L.length - 1 : Nat) : Int) = (L.length : Int) - 1 := by omega
    have HSH := hid (fun w' (h : Below w.heap.size w w') => shuffled_c (L.length - 1) (by omega) v2 P w' (HP.out.below h) hPl)
    rw [hn] at HSH
    have HV := hid hV
    clear hV hn
    go_enter Tryd.func6, Tryd.ntmps6
    go_wp2_with fail
    refine (HM.out _ HB0.out).mono ?_
    rintro e w1 ⟨rfl, hb1⟩
    have hB1 := HB0.out.trans (hb1.mono HB0.out.size)
    have HSV1 := hid (HSV.out.below hb1 HSV.out.lt)
    rw [HSM.out]
    have HS1 := hid (HSH.out w1 hB1)
    clear HSH HM HB0 HSV HSM hb1
    go_wp2_with fail
    refine HS1.out.mono ?_
    rintro e w2 ⟨u, l, rfl, hN2, hO, hb2⟩
    have hB2 := hB1.trans (hb2.mono hB1.size)
    have hi2 := hN2.ints
    have HO := hid hO
    have hl16 : l.length ≤ 16 := by have := hO.len; omega
    obtain ⟨pu, cu, hu, hdrop⟩ := id hi2
    subst hu
    have HW2 := hid (Width_c _ _ L l w2 (HI.out.below hB2) hi2 (hT.below hT.lt hB2) (by omega) (by omega))
    have hx0 : 0 ≤ widthP L l := by rw [widthP_ord HV.out hO]; exact widthF_pos _ _
    have HX1 := hid (less_width HV.out (a := (A : Int)) (b := (B : Int)) (by omega) (by omega) hO)
    have HX0 := hid hx0
    have HXM := hid (fun s (h : ∀ x, has s x = true → x < (L.length : Int)) => more_width HV.out h hO)
    have HI2 := hid hi2
    have HSV2 := hid (HSV1.out.below hb2 HSV1.out.lt)
    clear hdrop hb2 hN2 hi2 hO hx0 HS1 HSV1 hB1
    go_wp2_with fail
    refine HW2.out.mono ?_
    rintro e w3 ⟨rfl, hb3⟩
    have hB3 := hB2.trans (hb3.mono hB2.size)
    have HI3 := hid (HI2.out.below hb3)
    have HSV3 := hid (HSV2.out.below hb3 HSV2.out.lt)
    clear HW2 HI2 HSV2 hb3 hB2
    generalize hX : widthP L l = X at *
    go_wp2_with fail
    go_quiet (fail)
    have hq4 : Below w3.heap.size w3 (w3.drewN nq) := below_drewN (Below.refl _ _) nq
    generalize w3.drewN nq = w4 at *
    have hle4 := hq4.size
    clear htma htmb hma hmb hne hne2 hA hBB
    by_cases hAB : A = B
    · subst hAB
      have hN1 := SetRow.none w4
      have hbe : Below w4.heap.size w4 (w4.alloc (.cells #[] 35)) := (Below.refl _ w4).alloc (Nat.le_refl _) _
      have hI5 := HI.out.below (hB3.trans ((hq4.trans (hbe.mono hle4)).mono hB3.size))
      go_wp2_with (at_builtin; refine wpList_append_sets rfl _ _ rfl w4.heap.size rfl hN1 _ L rfl hI5 (by omega) ?_; intro g cg w5 hR5 hg5 hb5 hcl hcm; obtain ⟨sA, hsA, c0, c1, f0, f1⟩ := hR5.get A hA2)
      have hq5 := (hq4.trans (hbe.mono hle4)).trans (hb5.mono (Nat.le_trans hle4 hbe.size))
      refine (rWithout_c sA (A : Int) w5).mono ?_
      rintro e w6 ⟨rfl, hb6⟩
      have hR6 := hR5.below hb6 hR5.lt
      have hq6 := hq5.trans (hb6.mono hq5.size)
      have HSA := hid hsA
      clear hN1 hbe hI5 c0 c1 f0 f1 hb6 hR5 hb5 hq5 hsA hq4
      obtain ⟨sA', hsA', c0, c1, f0, f1⟩ := hR6.get A hA2
      obtain rfl : sA = sA' := HSA.out.symm.trans hsA'
      clear hsA'
      have hst := hR6.store A hA2 (withoutV sA (A : Int))
      have hq7 := (hq6.setCell (p := ⟨g, A * 2, none⟩) (by show w3.heap.size ≤ g; omega) (.int .u64 ((lw (withoutV sA (A : Int))).toNat : Int))).setCell (p := ⟨g, A * 2 + 1, none⟩) (by show w3.heap.size ≤ g; omega) (.int .u64 ((hw (withoutV sA (A : Int))).toNat : Int))
      have HR7 := hid hst
      have HQ7 := hid hq7
      clear hst hq7 hR6 hq6
      go_wp2_with fail
      refine (rWithout_c (withoutV sA (A : Int)) (A : Int) _).mono ?_
      rintro e w8 ⟨rfl, hb8⟩
      have hR8 := HR7.out.below hb8 HR7.out.lt
      have hq8 := HQ7.out.trans (hb8.mono HQ7.out.size)
      clear HR7 HQ7 hb8 c0 c1 f0 f1
      have hlB : A < (L.set A (withoutV sA (A : Int))).length := by simpa using hA2
      obtain ⟨sB', hsB', c0, c1, f0, f1⟩ := hR8.get A hlB
      have hsB2 : sB' = (withoutV sA (A : Int)) := by
        rw [← hsB']
        rw [gOf_nat _ A (by simpa using hA2), List.getElem_set, if_pos rfl]
      have hless : lessL L (A : Int) (A : Int) = (L.set A (withoutV sA (A : Int))).set A (withoutV (withoutV sA (A : Int)) (A : Int)) := by
        unfold lessL
        simp only [Int.toNat_natCast]
        rw [HSA.out, hsB', hsB2]
      subst hsB2
      have hst := hR8.store A hlB (withoutV (withoutV sA (A : Int)) (A : Int))
      have hq9 := (hq8.setCell (p := ⟨g, A * 2, none⟩) (by show w3.heap.size ≤ g; omega) (.int .u64 ((lw (withoutV (withoutV sA (A : Int)) (A : Int))).toNat : Int))).setCell (p := ⟨g, A * 2 + 1, none⟩) (by show w3.heap.size ≤ g; omega) (.int .u64 ((hw (withoutV (withoutV sA (A : Int)) (A : Int))).toNat : Int))
      rw [← hless] at hst
      have HR9 := hid hst
      have HQ9 := hid hq9
      clear hst hq9 hR8 hq8 hless hsB'
      go_wp2_with fail
      generalize ((w8.setCell ⟨g, A * 2, none⟩ (.int .u64 ((lw (withoutV (withoutV sA (A : Int)) (A : Int))).toNat : Int))).setCell ⟨g, A * 2 + 1, none⟩ (.int .u64 ((hw (withoutV (withoutV sA (A : Int)) (A : Int))).toNat : Int))) = w9 at *
      clear c0 c1 f0 f1 hlB
      have hsv := HSV3.out.below HQ9.out HSV3.out.lt
      obtain ⟨x0, x1, y0, y1⟩ := hsv.cells
      clear y0 y1 hsv
      refine Go.Proofs.YthgkklahiclcpaaDoor.wp_region_L 6 3 (fun w' => w'.cell? ⟨w.heap.size, 0, none⟩ = some (.int .u64 ((lw S).toNat : Int)) ∧ w'.cell? ⟨w.heap.size, 1, none⟩ = some (.int .u64 ((hw S).toNat : Int))) (by kernel_rfl) rfl ⟨x0, x1⟩ (fun hS => ?_)
      refine wpAnyL_load (i := 0) (v := encS S) (by simp only [List.getElem?_toArray, List.getElem?_cons_zero] <;> rfl) (by kernel_rfl) (by kernel_rfl) (by kernel_rfl) (by exact fun _ _ _ h => h) (by decide) ⟨_, rfl, ⟨0, .data⟩, by simp, rfl, rfl⟩ (by kernel_rfl) hS (Or.inl ⟨by rfl, fun w hw => (by obtain ⟨x0, x1⟩ := hw; simp [execOp, go_sem, Act.eval, x0, x1, encS])⟩) (fun hS => ?_)
      simp only [Act.put, List.setIfInBounds_toArray, List.set_cons_zero, List.set_cons_succ]
      refine wpAnyL_pure (i := 1) (v := .int .i64 ((L.length : Int) - 1)) (by simp only [List.getElem?_toArray, List.getElem?_cons_zero, List.getElem?_cons_succ] <;> rfl) (by kernel_rfl) (by kernel_rfl) (by kernel_rfl) (by exact fun _ _ _ h => h) (by decide) hS (Or.inl ⟨by rfl, fun w _ => (by simp [execOp, go_sem, Act.eval])⟩) (fun hS => ?_)
      simp only [Act.put, List.setIfInBounds_toArray, List.set_cons_zero, List.set_cons_succ]
      refine wpAnyL_one (i := 2) (by kernel_rfl) (by simp only [List.getElem?_toArray, List.getElem?_cons_zero, List.getElem?_cons_succ] <;> rfl) (by rfl) ?_
      refine opwp_call (f := 27) (args := #[.int .i64 ((L.length : Int) - 1)]) (w' := w9.drew) (by simp [go_sem, Act.eval]) ?_
      refine (rAll_c ((L.length : Int) - 1) w9.drew).mono ?_
      rintro e w10 ⟨rfl, hb10⟩
      refine .inl ⟨_, rfl, .inr ⟨(hb10.cell (cell_lt x0)).trans x0, (hb10.cell (cell_lt x1)).trans x1⟩, ?_⟩
      simp only [Act.put, List.setIfInBounds_toArray, List.set_cons_zero, List.set_cons_succ]
      refine wpAnyL_one (i := 3) (by kernel_rfl) (by simp only [List.getElem?_toArray, List.getElem?_cons_zero, List.getElem?_cons_succ] <;> rfl) (by rfl) ?_
      refine opwp_call (f := 26) (args := #[encS S, encS (allV ((L.length : Int) - 1))]) (w' := w10) (by simp [go_sem, Act.eval]) ?_
      refine (rCut_c S (allV ((L.length : Int) - 1)) w10).mono ?_
      rintro e w11 ⟨rfl, hb11⟩
      refine .inl ⟨_, rfl, .inl (by kernel_rfl), ?_⟩
      simp only [Act.put, List.setIfInBounds_toArray, List.set_cons_zero, List.set_cons_succ]
      refine wpAnyL_one (i := 4) (by kernel_rfl) (by simp only [List.getElem?_toArray, List.getElem?_cons_zero, List.getElem?_cons_succ] <;> rfl) (by rfl) ?_
      refine opwp_call (f := 25) (args := #[encS (S &&& allV ((L.length : Int) - 1))]) (w' := w11) (by simp [go_sem, Act.eval]) ?_
      refine (rList_c (S &&& allV ((L.length : Int) - 1)) w11).mono ?_
      rintro e w12 ⟨v12, rfl, hn12, hb12⟩
      refine .inl ⟨_, rfl, .inl (by kernel_rfl), ?_⟩
      simp only [Act.put, List.setIfInBounds_toArray, List.set_cons_zero, List.set_cons_succ]
      refine wpAnyL_one (i := 5) (by kernel_rfl) (by simp only [List.getElem?_toArray, List.getElem?_cons_zero, List.getElem?_cons_succ] <;> rfl) (by rfl) ?_
      refine opwp_value (v := v12) (w' := w12) (by simp [execOp, go_sem, Act.eval]) ⟨.inl (by kernel_rfl), ?_⟩
      simp only [Act.put, List.setIfInBounds_toArray, List.set_cons_zero, List.set_cons_succ]
      refine wpAnyL_done (by kernel_rfl) ?_ _
      have hb912 : Below w9.heap.size w9 w12 := (((Below.refl _ w9).drew.trans hb10).trans (hb11.mono hb10.size)).trans (hb12.mono (Nat.le_trans hb10.size hb11.size))
      have hq12 := HQ9.out.trans (hb912.mono HQ9.out.size)
      have HR12 := hid (HR9.out.below hb912 HR9.out.lt)
      obtain ⟨HM1, HM2⟩ := HXM.out (S &&& allV ((L.length : Int) - 1)) (fun x hx => by rw [has_and, Bool.and_eq_true, has_allV, Bool.and_eq_true, Bool.and_eq_true] at hx; have := of_decide_eq_true hx.2.1.1; omega)
      have HRG := hid (show ∀ x, has (S &&& allV ((L.length : Int) - 1)) x = true → 1 ≤ x ∧ x < (L.length : Int) from fun x hx => by have h1 := has_range hx; rw [has_and, Bool.and_eq_true, has_allV, Bool.and_eq_true, Bool.and_eq_true] at hx; have := of_decide_eq_true hx.2.1.1; omega)
      generalize S &&& allV ((L.length : Int) - 1) = Z at *
      have HZ1 := hid HM1
      have HZ2 := hid HM2
      obtain ⟨pl, cl, rfl, hl12⟩ := hn12.ints
      have HL12 := hid hl12
      have hml := mems_length Z
      have hle12 := hq12.size
      clear hS x0 x1 hb10 hb11 hb912 HR9 HQ9 HM1 HM2 hn12 hl12 HXM HSV3 hb12
      have hN2 := SetRow.none w12
      have hbf : Below w12.heap.size w12 (w12.alloc (.cells #[] 35)) := (Below.refl _ w12).alloc (Nat.le_refl _) _
      have hI13 := HI.out.below (hB3.trans ((hq12.trans (hbf.mono hle12)).mono hB3.size))
      have HQ12 := hid hq12
      clear hq12
      go_wp2_with (at_builtin; refine wpList_append_sets rfl _ _ rfl w12.heap.size rfl hN2 _ L rfl hI13 (by omega) ?_; intro g2 c2 w13 hR13 hg13 hb13 hcl2 hcm2)
      have hq13 := hbf.trans (hb13.mono hbf.size)
      clear hN2 hbf hI13 hb13
      go_loopw [18, 19] (fun m i wr => ∃ k : Nat, k ≤ (mems Z).length ∧ i = .int .i64 k ∧ m = .slice (some ⟨g2, 0, none⟩) L.length c2 ∧ SetRow wr g2 (moreTo L (mems Z) k 0) ∧ Below w12.heap.size w12 wr) (fun _ i _ => (mems Z).length - (intOf i).toNat)
      case atStart => exact ⟨0, Nat.zero_le _, rfl, rfl, by rw [moreTo_zero]; exact hR13, hq13⟩
      case round =>
        clear hR13 hq13
        obtain ⟨i, hi1, rfl, rfl, hR, hB⟩ := hrel
        by_cases hil : i < (mems Z).length
        · obtain ⟨bm, om, rfl, hm⟩ := HL12.out.resolve_left (by intro e; rw [e] at hil; simp at hil)
          have hci := hm i hil
          rw [List.getElem?_eq_getElem hil, Option.getD_some] at hci
          have hri := HRG.out _ ((mem_mems _ _).1 (List.getElem_mem hil))
          have HIL := hid hil
          have zi : (0 : Int) ≤ (i : Int) ∧ (i : Int) < ((mems Z).length : Int) := by omega
          have HMM := hid hm
          have HCI := hid hci
          have HRI := hid hri
          clear hm hci hri
          obtain ⟨wo, hwo⟩ : ∃ wo : World, wo = wr := ⟨_, rfl⟩
          clear hwo
          go_wp2_with fail
          go_loopw [18, 20] (fun m j wq => ∃ k : Nat, k ≤ i ∧ j = .int .i64 k ∧ m = .slice (some ⟨g2, 0, none⟩) L.length c2 ∧ SetRow wq g2 (moreTo L (mems Z) i k) ∧ Below w12.heap.size w12 wq) (fun _ j _ => i - (intOf j).toNat)
          case atStart => exact ⟨0, Nat.zero_le _, rfl, rfl, hR, hB⟩
          case round =>
            clear hR hB
            obtain ⟨k, hk, rfl, rfl, hR, hB⟩ := hrel
            by_cases hki : k < i
            · have hkl : k < (mems Z).length := by have := HIL.out; omega
              have hck := HMM.out k hkl
              rw [List.getElem?_eq_getElem hkl, Option.getD_some] at hck
              have hrk := HRG.out _ ((mem_mems _ _).1 (List.getElem_mem hkl))
              have c1 := (hB.cell (cell_lt HCI.out)).trans HCI.out
              have c2' := (hB.cell (cell_lt hck)).trans hck
              have zk : (0 : Int) ≤ (k : Int) ∧ (k : Int) < ((mems Z).length : Int) := by omega
              have hri := HRI.out
              have hnx : (mems Z)[i]'HIL.out ≠ (mems Z)[k] := by
                have := List.pairwise_iff_getElem.1 (mems_sorted Z) k i hkl HIL.out hki
                omega
              have HNX := hid (moreTo_succ L (mems Z) i k HIL.out hkl hnx (by omega) (by omega))
              have hzl := hB.size
              generalize hxx : (mems Z)[i]'HIL.out = x at *
              generalize hyy : (mems Z)[k] = y at *
              have HLK := hid (fun w' (h : SetRow w' g2 (moreTo L (mems Z) i k)) => linked_c g2 c2 (moreTo L (mems Z) i k) x y w' h (by rw [moreTo_length]; exact hri) (by rw [moreTo_length]; exact hrk) (by rw [moreTo_length]; omega))
              rw [moreTo_length] at HLK
              clear hck hrk hri hnx hxx hyy
              go_wp2_with fail
              refine Go.Proofs.YthgkklahiclcpaaDoor.wp_region_L 11 9 (fun w' => w'.cell? ⟨bm, om + i, none⟩ = some (.int .i64 x) ∧ w'.cell? ⟨bm, om + k, none⟩ = some (.int .i64 y)) (by kernel_rfl) rfl ⟨c1, c2'⟩ (fun hS => ?_)
              refine wpAnyL_pure (i := 0) (v := .slice (some ⟨g2, 0, none⟩) L.length c2) (by simp only [List.getElem?_toArray, List.getElem?_cons_zero] <;> rfl) (by kernel_rfl) (by kernel_rfl) (by kernel_rfl) (by exact fun _ _ _ h => h) (by decide) hS (Or.inl ⟨by rfl, fun w _ => (by simp [execOp, go_sem, Act.eval])⟩) (fun hS => ?_)
              simp only [Act.put, List.setIfInBounds_toArray, List.set_cons_zero, List.set_cons_succ]
              refine wpAnyL_pure (i := 1) (v := .slice (some ⟨bm, om, none⟩) (mems Z).length cl) (by simp only [List.getElem?_toArray, List.getElem?_cons_zero, List.getElem?_cons_succ] <;> rfl) (by kernel_rfl) (by kernel_rfl) (by kernel_rfl) (by exact fun _ _ _ h => h) (by decide) hS (Or.inl ⟨by rfl, fun w _ => (by simp [execOp, go_sem, Act.eval])⟩) (fun hS => ?_)
              simp only [Act.put, List.setIfInBounds_toArray, List.set_cons_zero, List.set_cons_succ]
              refine wpAnyL_pure (i := 2) (v := .int .i64 (i : Int)) (by simp only [List.getElem?_toArray, List.getElem?_cons_zero, List.getElem?_cons_succ] <;> rfl) (by kernel_rfl) (by kernel_rfl) (by kernel_rfl) (by exact fun _ _ _ h => h) (by decide) hS (Or.inl ⟨by rfl, fun w _ => (by simp [execOp, go_sem, Act.eval])⟩) (fun hS => ?_)
              simp only [Act.put, List.setIfInBounds_toArray, List.set_cons_zero, List.set_cons_succ]
              refine wpAnyL_pure (i := 3) (v := .pointer (some ⟨bm, om + i, none⟩)) (by simp only [List.getElem?_toArray, List.getElem?_cons_zero, List.getElem?_cons_succ] <;> rfl) (by kernel_rfl) (by kernel_rfl) (by kernel_rfl) (by exact fun _ _ _ h => h) (by decide) hS (Or.inl ⟨by rfl, fun w _ => (by simp [execOp, go_sem, Act.eval, zi])⟩) (fun hS => ?_)
              simp only [Act.put, List.setIfInBounds_toArray, List.set_cons_zero, List.set_cons_succ]
              refine wpAnyL_load (i := 4) (v := .int .i64 x) (by simp only [List.getElem?_toArray, List.getElem?_cons_zero, List.getElem?_cons_succ] <;> rfl) (by kernel_rfl) (by kernel_rfl) (by kernel_rfl) (by exact fun _ _ _ h => h) (by decide) ⟨_, rfl, ⟨4, .data⟩, by simp, rfl, rfl⟩ (by kernel_rfl) hS (Or.inl ⟨by rfl, fun w hw => (by obtain ⟨x0, x1⟩ := hw; simp [execOp, go_sem, Act.eval, x0])⟩) (fun hS => ?_)
              simp only [Act.put, List.setIfInBounds_toArray, List.set_cons_zero, List.set_cons_succ]
              refine wpAnyL_pure (i := 5) (v := .slice (some ⟨bm, om, none⟩) (mems Z).length cl) (by simp only [List.getElem?_toArray, List.getElem?_cons_zero, List.getElem?_cons_succ] <;> rfl) (by kernel_rfl) (by kernel_rfl) (by kernel_rfl) (by exact fun _ _ _ h => h) (by decide) hS (Or.inl ⟨by rfl, fun w _ => (by simp [execOp, go_sem, Act.eval])⟩) (fun hS => ?_)
              simp only [Act.put, List.setIfInBounds_toArray, List.set_cons_zero, List.set_cons_succ]
              refine wpAnyL_pure (i := 6) (v := .int .i64 (k : Int)) (by simp only [List.getElem?_toArray, List.getElem?_cons_zero, List.getElem?_cons_succ] <;> rfl) (by kernel_rfl) (by kernel_rfl) (by kernel_rfl) (by exact fun _ _ _ h => h) (by decide) hS (Or.inl ⟨by rfl, fun w _ => (by simp [execOp, go_sem, Act.eval])⟩) (fun hS => ?_)
              simp only [Act.put, List.setIfInBounds_toArray, List.set_cons_zero, List.set_cons_succ]
              refine wpAnyL_pure (i := 7) (v := .pointer (some ⟨bm, om + k, none⟩)) (by simp only [List.getElem?_toArray, List.getElem?_cons_zero, List.getElem?_cons_succ] <;> rfl) (by kernel_rfl) (by kernel_rfl) (by kernel_rfl) (by exact fun _ _ _ h => h) (by decide) hS (Or.inl ⟨by rfl, fun w _ => (by simp [execOp, go_sem, Act.eval, zk])⟩) (fun hS => ?_)
              simp only [Act.put, List.setIfInBounds_toArray, List.set_cons_zero, List.set_cons_succ]
              refine wpAnyL_load (i := 8) (v := .int .i64 y) (by simp only [List.getElem?_toArray, List.getElem?_cons_zero, List.getElem?_cons_succ] <;> rfl) (by kernel_rfl) (by kernel_rfl) (by kernel_rfl) (by exact fun _ _ _ h => h) (by decide) ⟨_, rfl, ⟨8, .data⟩, by simp, rfl, rfl⟩ (by kernel_rfl) hS (Or.inl ⟨by rfl, fun w hw => (by obtain ⟨x0, x1⟩ := hw; simp [execOp, go_sem, Act.eval, x1])⟩) (fun hS => ?_)
              simp only [Act.put, List.setIfInBounds_toArray, List.set_cons_zero, List.set_cons_succ]
              refine wpAnyL_one (i := 9) (by kernel_rfl) (by simp only [List.getElem?_toArray, List.getElem?_cons_zero, List.getElem?_cons_succ] <;> rfl) (by rfl) ?_
              refine opwp_call (f := 21) (args := #[.slice (some ⟨g2, 0, none⟩) L.length c2, .int .i64 x, .int .i64 y]) (w' := wr.drew) (by simp [go_sem, Act.eval]) ?_
              refine (HLK.out wr.drew (hR.same rfl)).mono ?_
              rintro e w15 ⟨rfl, hR15, hg15⟩
              rw [moreTo_length]
              refine .inl ⟨_, rfl, .inl (by kernel_rfl), ?_⟩
              simp only [Act.put, List.setIfInBounds_toArray, List.set_cons_zero, List.set_cons_succ]
              refine wpAnyL_one (i := 10) (by kernel_rfl) (by simp only [List.getElem?_toArray, List.getElem?_cons_zero, List.getElem?_cons_succ] <;> rfl) (by rfl) ?_
              refine opwp_value (v := .slice (some ⟨g2, 0, none⟩) L.length c2) (w' := w15) (by simp [execOp, go_sem, Act.eval]) ⟨.inl (by kernel_rfl), ?_⟩
              simp only [Act.put, List.setIfInBounds_toArray, List.set_cons_zero, List.set_cons_succ]
              refine wpAnyL_done (by kernel_rfl) ?_ _
              rw [HNX.out] at hR15
              have hB15 := hB.drew.grown hg15 (by exact hzl) (fun j e => by cases e; exact hg13)
              clear hS c1 c2' HLK hR hB
              go_wp2_with fail
              go_roundw
              case rel => exact ⟨k + 1, by omega, by go_num, rfl, hR15, hB15⟩
              case measure => simp [intOf]; omega
            · obtain rfl : k = i := by omega
              rw [moreTo_next] at hR
              go_wp2_with fail
              go_roundw
              case rel => exact ⟨k + 1, by have := HIL.out; omega, by go_num, rfl, hR, hB⟩
              case measure => simp [intOf]; have := HIL.out; omega
        · obtain rfl : i = (mems Z).length := by omega
          rw [moreTo_end] at hR
          have hlen : (joinAll L (pairsTo (mems Z) (mems Z).length)).length = L.length := joinAll_length _ _
          have hS := hR.sets c2
          rw [hlen] at hS
          have hq14 := HQ12.out.trans (hB.mono HQ12.out.size)
          have hB14 := hB3.trans (hq14.mono hB3.size)
          have HW14 := hid (Width_c _ _ _ l wr hS (HI3.out.below hq14) (hT.below hT.lt hB14) (by rw [hlen]; omega) (by omega))
          have hR14 := HR12.out.below hB HR12.out.lt
          have hll : (lessL L (A : Int) (A : Int)).length = L.length := lessL_length _ _ _
          have hS2 := hR14.sets cg
          rw [hll] at hS2
          have HW15 := hid (fun w' (h : Below wr.heap.size wr w') => Width_c _ _ _ l w' (hS2.below h) ((HI3.out.below hq14).below h) (hT.below hT.lt (hB14.trans (h.mono hB14.size))) (by rw [hll]; omega) (by omega))
          have hz0 := HX0.out
          have hz1 := HX1.out
          have hz2 := HZ1.out
          have hz3 := HZ2.out
          have hz4 : Go.Proofs.YthgkklahiclcpaaDoor.len Z = ((mems Z).length : Int) := rfl
          rw [hz4] at hz3
          generalize widthP (joinAll L (pairsTo (mems Z) (mems Z).length)) l = X2 at *
          generalize widthP (lessL L (A : Int) (A : Int)) l = X1 at *
          have zz2 : decide (X ≤ X2) = true := decide_eq_true hz2
          clear hlen hll hS hS2 hR hR14 hB HQ12 HR12 hz4
          go_wp2_with fail
          refine HW14.out.mono ?_
          rintro e w15 ⟨rfl, hb15⟩
          have hB15 := hB14.trans (hb15.mono hB14.size)
          have HW15' := hid (HW15.out w15 hb15)
          clear HW14 HW15
          go_wp2_with fail
          refine HW15'.out.mono ?_
          rintro e w16 ⟨rfl, hb16⟩
          have hB16 := hB15.trans (hb16.mono hB15.size)
          go_wp2_with fail
          refine (HW.out w16 hB16).mono ?_
          rintro e w17 ⟨rfl, hb17⟩
          have hB17 := hB16.trans (hb17.mono hB16.size)
          go_wp2_with fail
          go_ret
          exact ⟨rfl, hB17⟩
    · have nAB : ¬ B = A := fun e => hAB e.symm
      have n1 : ¬ B * 2 = A * 2 := by omega
      have n2 : ¬ B * 2 + 1 = A * 2 := by omega
      have n3 : ¬ B * 2 = A * 2 + 1 := by omega
      have hN1 := SetRow.none w4
      have hbe : Below w4.heap.size w4 (w4.alloc (.cells #[] 35)) := (Below.refl _ w4).alloc (Nat.le_refl _) _
      have hI5 := HI.out.below (hB3.trans ((hq4.trans (hbe.mono hle4)).mono hB3.size))
      go_wp2_with (at_builtin; refine wpList_append_sets rfl _ _ rfl w4.heap.size rfl hN1 _ L rfl hI5 (by omega) ?_; intro g cg w5 hR5 hg5 hb5 hcl hcm; obtain ⟨sA, hsA, c0, c1, f0, f1⟩ := hR5.get A hA2)
      have hq5 := (hq4.trans (hbe.mono hle4)).trans (hb5.mono (Nat.le_trans hle4 hbe.size))
      refine (rWithout_c sA (B : Int) w5).mono ?_
      rintro e w6 ⟨rfl, hb6⟩
      have hR6 := hR5.below hb6 hR5.lt
      have hq6 := hq5.trans (hb6.mono hq5.size)
      have HSA := hid hsA
      clear hN1 hbe hI5 c0 c1 f0 f1 hb6 hR5 hb5 hq5 hsA hq4
      obtain ⟨sA', hsA', c0, c1, f0, f1⟩ := hR6.get A hA2
      obtain rfl : sA = sA' := HSA.out.symm.trans hsA'
      clear hsA'
      obtain ⟨sB, hsB, d0, d1, g0, g1⟩ := hR6.get B hB2'
      have HSB := hid hsB
      clear hsB
      have hst := hR6.store A hA2 (withoutV sA (B : Int))
      have hq7 := (hq6.setCell (p := ⟨g, A * 2, none⟩) (by show w3.heap.size ≤ g; omega) (.int .u64 ((lw (withoutV sA (B : Int))).toNat : Int))).setCell (p := ⟨g, A * 2 + 1, none⟩) (by show w3.heap.size ≤ g; omega) (.int .u64 ((hw (withoutV sA (B : Int))).toNat : Int))
      have HR7 := hid hst
      have HQ7 := hid hq7
      clear hst hq7 hR6 hq6
      go_wp2_with fail
      refine (rWithout_c sB (A : Int) _).mono ?_
      rintro e w8 ⟨rfl, hb8⟩
      have hR8 := HR7.out.below hb8 HR7.out.lt
      have hq8 := HQ7.out.trans (hb8.mono HQ7.out.size)
      clear HR7 HQ7 hb8 c0 c1 f0 f1 d0 d1 g0 g1
      have hlB : B < (L.set A (withoutV sA (B : Int))).length := by simpa using hB2'
      obtain ⟨sB', hsB', c0, c1, f0, f1⟩ := hR8.get B hlB
      have hsB2 : sB' = sB := by
        rw [← hsB']
        rw [gOf_set_ne hAB hB2']; exact HSB.out
      have hless : lessL L (A : Int) (B : Int) = (L.set A (withoutV sA (B : Int))).set B (withoutV sB (A : Int)) := by
        unfold lessL
        simp only [Int.toNat_natCast]
        rw [HSA.out, hsB', hsB2]
      subst hsB2
      have hst := hR8.store B hlB (withoutV sB' (A : Int))
      have hq9 := (hq8.setCell (p := ⟨g, B * 2, none⟩) (by show w3.heap.size ≤ g; omega) (.int .u64 ((lw (withoutV sB' (A : Int))).toNat : Int))).setCell (p := ⟨g, B * 2 + 1, none⟩) (by show w3.heap.size ≤ g; omega) (.int .u64 ((hw (withoutV sB' (A : Int))).toNat : Int))
      rw [← hless] at hst
      have HR9 := hid hst
      have HQ9 := hid hq9
      clear hst hq9 hR8 hq8 hless hsB'
      go_wp2_with fail
      generalize ((w8.setCell ⟨g, B * 2, none⟩ (.int .u64 ((lw (withoutV sB' (A : Int))).toNat : Int))).setCell ⟨g, B * 2 + 1, none⟩ (.int .u64 ((hw (withoutV sB' (A : Int))).toNat : Int))) = w9 at *
      clear c0 c1 f0 f1 hlB
      have hsv := HSV3.out.below HQ9.out HSV3.out.lt
      obtain ⟨x0, x1, y0, y1⟩ := hsv.cells
      clear y0 y1 hsv
      refine Go.Proofs.YthgkklahiclcpaaDoor.wp_region_L 6 3 (fun w' => w'.cell? ⟨w.heap.size, 0, none⟩ = some (.int .u64 ((lw S).toNat : Int)) ∧ w'.cell? ⟨w.heap.size, 1, none⟩ = some (.int .u64 ((hw S).toNat : Int))) (by kernel_rfl) rfl ⟨x0, x1⟩ (fun hS => ?_)
      refine wpAnyL_load (i := 0) (v := encS S) (by simp only [List.getElem?_toArray, List.getElem?_cons_zero] <;> rfl) (by kernel_rfl) (by kernel_rfl) (by kernel_rfl) (by exact fun _ _ _ h => h) (by decide) ⟨_, rfl, ⟨0, .data⟩, by simp, rfl, rfl⟩ (by kernel_rfl) hS (Or.inl ⟨by rfl, fun w hw => (by obtain ⟨x0, x1⟩ := hw; simp [execOp, go_sem, Act.eval, x0, x1, encS])⟩) (fun hS => ?_)
      simp only [Act.put, List.setIfInBounds_toArray, List.set_cons_zero, List.set_cons_succ]
      refine wpAnyL_pure (i := 1) (v := .int .i64 ((L.length : Int) - 1)) (by simp only [List.getElem?_toArray, List.getElem?_cons_zero, List.getElem?_cons_succ] <;> rfl) (by kernel_rfl) (by kernel_rfl) (by kernel_rfl) (by exact fun _ _ _ h => h) (by decide) hS (Or.inl ⟨by rfl, fun w _ => (by simp [execOp, go_sem, Act.eval])⟩) (fun hS => ?_)
      simp only [Act.put, List.setIfInBounds_toArray, List.set_cons_zero, List.set_cons_succ]
      refine wpAnyL_one (i := 2) (by kernel_rfl) (by simp only [List.getElem?_toArray, List.getElem?_cons_zero, List.getElem?_cons_succ] <;> rfl) (by rfl) ?_
      refine opwp_call (f := 27) (args := #[.int .i64 ((L.length : Int) - 1)]) (w' := w9.drew) (by simp [go_sem, Act.eval]) ?_
      refine (rAll_c ((L.length : Int) - 1) w9.drew).mono ?_
      rintro e w10 ⟨rfl, hb10⟩
      refine .inl ⟨_, rfl, .inr ⟨(hb10.cell (cell_lt x0)).trans x0, (hb10.cell (cell_lt x1)).trans x1⟩, ?_⟩
      simp only [Act.put, List.setIfInBounds_toArray, List.set_cons_zero, List.set_cons_succ]
      refine wpAnyL_one (i := 3) (by kernel_rfl) (by simp only [List.getElem?_toArray, List.getElem?_cons_zero, List.getElem?_cons_succ] <;> rfl) (by rfl) ?_
      refine opwp_call (f := 26) (args := #[encS S, encS (allV ((L.length : Int) - 1))]) (w' := w10) (by simp [go_sem, Act.eval]) ?_
      refine (rCut_c S (allV ((L.length : Int) - 1)) w10).mono ?_
      rintro e w11 ⟨rfl, hb11⟩
      refine .inl ⟨_, rfl, .inl (by kernel_rfl), ?_⟩
      simp only [Act.put, List.setIfInBounds_toArray, List.set_cons_zero, List.set_cons_succ]
      refine wpAnyL_one (i := 4) (by kernel_rfl) (by simp only [List.getElem?_toArray, List.getElem?_cons_zero, List.getElem?_cons_succ] <;> rfl) (by rfl) ?_
      refine opwp_call (f := 25) (args := #[encS (S &&& allV ((L.length : Int) - 1))]) (w' := w11) (by simp [go_sem, Act.eval]) ?_
      refine (rList_c (S &&& allV ((L.length : Int) - 1)) w11).mono ?_
      rintro e w12 ⟨v12, rfl, hn12, hb12⟩
      refine .inl ⟨_, rfl, .inl (by kernel_rfl), ?_⟩
      simp only [Act.put, List.setIfInBounds_toArray, List.set_cons_zero, List.set_cons_succ]
      refine wpAnyL_one (i := 5) (by kernel_rfl) (by simp only [List.getElem?_toArray, List.getElem?_cons_zero, List.getElem?_cons_succ] <;> rfl) (by rfl) ?_
      refine opwp_value (v := v12) (w' := w12) (by simp [execOp, go_sem, Act.eval]) ⟨.inl (by kernel_rfl), ?_⟩
      simp only [Act.put, List.setIfInBounds_toArray, List.set_cons_zero, List.set_cons_succ]
      refine wpAnyL_done (by kernel_rfl) ?_ _
      have hb912 : Below w9.heap.size w9 w12 := (((Below.refl _ w9).drew.trans hb10).trans (hb11.mono hb10.size)).trans (hb12.mono (Nat.le_trans hb10.size hb11.size))
      have hq12 := HQ9.out.trans (hb912.mono HQ9.out.size)
      have HR12 := hid (HR9.out.below hb912 HR9.out.lt)
      obtain ⟨HM1, HM2⟩ := HXM.out (S &&& allV ((L.length : Int) - 1)) (fun x hx => by rw [has_and, Bool.and_eq_true, has_allV, Bool.and_eq_true, Bool.and_eq_true] at hx; have := of_decide_eq_true hx.2.1.1; omega)
      have HRG := hid (show ∀ x, has (S &&& allV ((L.length : Int) - 1)) x = true → 1 ≤ x ∧ x < (L.length : Int) from fun x hx => by have h1 := has_range hx; rw [has_and, Bool.and_eq_true, has_allV, Bool.and_eq_true, Bool.and_eq_true] at hx; have := of_decide_eq_true hx.2.1.1; omega)
      generalize S &&& allV ((L.length : Int) - 1) = Z at *
      have HZ1 := hid HM1
      have HZ2 := hid HM2
      obtain ⟨pl, cl, rfl, hl12⟩ := hn12.ints
      have HL12 := hid hl12
      have hml := mems_length Z
      have hle12 := hq12.size
      clear hS x0 x1 hb10 hb11 hb912 HR9 HQ9 HM1 HM2 hn12 hl12 HXM HSV3 hb12
      have hN2 := SetRow.none w12
      have hbf : Below w12.heap.size w12 (w12.alloc (.cells #[] 35)) := (Below.refl _ w12).alloc (Nat.le_refl _) _
      have hI13 := HI.out.below (hB3.trans ((hq12.trans (hbf.mono hle12)).mono hB3.size))
      have HQ12 := hid hq12
      clear hq12
      go_wp2_with (at_builtin; refine wpList_append_sets rfl _ _ rfl w12.heap.size rfl hN2 _ L rfl hI13 (by omega) ?_; intro g2 c2 w13 hR13 hg13 hb13 hcl2 hcm2)
      have hq13 := hbf.trans (hb13.mono hbf.size)
      clear hN2 hbf hI13 hb13
      go_loopw [18, 19] (fun m i wr => ∃ k : Nat, k ≤ (mems Z).length ∧ i = .int .i64 k ∧ m = .slice (some ⟨g2, 0, none⟩) L.length c2 ∧ SetRow wr g2 (moreTo L (mems Z) k 0) ∧ Below w12.heap.size w12 wr) (fun _ i _ => (mems Z).length - (intOf i).toNat)
      case atStart => exact ⟨0, Nat.zero_le _, rfl, rfl, by rw [moreTo_zero]; exact hR13, hq13⟩
      case round =>
        clear hR13 hq13
        obtain ⟨i, hi1, rfl, rfl, hR, hB⟩ := hrel
        by_cases hil : i < (mems Z).length
        · obtain ⟨bm, om, rfl, hm⟩ := HL12.out.resolve_left (by intro e; rw [e] at hil; simp at hil)
          have hci := hm i hil
          rw [List.getElem?_eq_getElem hil, Option.getD_some] at hci
          have hri := HRG.out _ ((mem_mems _ _).1 (List.getElem_mem hil))
          have HIL := hid hil
          have zi : (0 : Int) ≤ (i : Int) ∧ (i : Int) < ((mems Z).length : Int) := by omega
          have HMM := hid hm
          have HCI := hid hci
          have HRI := hid hri
          clear hm hci hri
          obtain ⟨wo, hwo⟩ : ∃ wo : World, wo = wr := ⟨_, rfl⟩
          clear hwo
          go_wp2_with fail
          go_loopw [18, 20] (fun m j wq => ∃ k : Nat, k ≤ i ∧ j = .int .i64 k ∧ m = .slice (some ⟨g2, 0, none⟩) L.length c2 ∧ SetRow wq g2 (moreTo L (mems Z) i k) ∧ Below w12.heap.size w12 wq) (fun _ j _ => i - (intOf j).toNat)
          case atStart => exact ⟨0, Nat.zero_le _, rfl, rfl, hR, hB⟩
          case round =>
            clear hR hB
            obtain ⟨k, hk, rfl, rfl, hR, hB⟩ := hrel
            by_cases hki : k < i
            · have hkl : k < (mems Z).length := by have := HIL.out; omega
              have hck := HMM.out k hkl
              rw [List.getElem?_eq_getElem hkl, Option.getD_some] at hck
              have hrk := HRG.out _ ((mem_mems _ _).1 (List.getElem_mem hkl))
              have c1 := (hB.cell (cell_lt HCI.out)).trans HCI.out
              have c2' := (hB.cell (cell_lt hck)).trans hck
              have zk : (0 : Int) ≤ (k : Int) ∧ (k : Int) < ((mems Z).length : Int) := by omega
              have hri := HRI.out
              have hnx : (mems Z)[i]'HIL.out ≠ (mems Z)[k] := by
                have := List.pairwise_iff_getElem.1 (mems_sorted Z) k i hkl HIL.out hki
                omega
              have HNX := hid (moreTo_succ L (mems Z) i k HIL.out hkl hnx (by omega) (by omega))
              have hzl := hB.size
              generalize hxx : (mems Z)[i]'HIL.out = x at *
              generalize hyy : (mems Z)[k] = y at *
              have HLK := hid (fun w' (h : SetRow w' g2 (moreTo L (mems Z) i k)) => linked_c g2 c2 (moreTo L (mems Z) i k) x y w' h (by rw [moreTo_length]; exact hri) (by rw [moreTo_length]; exact hrk) (by rw [moreTo_length]; omega))
              rw [moreTo_length] at HLK
              clear hck hrk hri hnx hxx hyy
              go_wp2_with fail
              refine Go.Proofs.YthgkklahiclcpaaDoor.wp_region_L 11 9 (fun w' => w'.cell? ⟨bm, om + i, none⟩ = some (.int .i64 x) ∧ w'.cell? ⟨bm, om + k, none⟩ = some (.int .i64 y)) (by kernel_rfl) rfl ⟨c1, c2'⟩ (fun hS => ?_)
              refine wpAnyL_pure (i := 0) (v := .slice (some ⟨g2, 0, none⟩) L.length c2) (by simp only [List.getElem?_toArray, List.getElem?_cons_zero] <;> rfl) (by kernel_rfl) (by kernel_rfl) (by kernel_rfl) (by exact fun _ _ _ h => h) (by decide) hS (Or.inl ⟨by rfl, fun w _ => (by simp [execOp, go_sem, Act.eval])⟩) (fun hS => ?_)
              simp only [Act.put, List.setIfInBounds_toArray, List.set_cons_zero, List.set_cons_succ]
              refine wpAnyL_pure (i := 1) (v := .slice (some ⟨bm, om, none⟩) (mems Z).length cl) (by simp only [List.getElem?_toArray, List.getElem?_cons_zero, List.getElem?_cons_succ] <;> rfl) (by kernel_rfl) (by kernel_rfl) (by kernel_rfl) (by exact fun _ _ _ h => h) (by decide) hS (Or.inl ⟨by rfl, fun w _ => (by simp [execOp, go_sem, Act.eval])⟩) (fun hS => ?_)
              simp only [Act.put, List.setIfInBounds_toArray, List.set_cons_zero, List.set_cons_succ]
              refine wpAnyL_pure (i := 2) (v := .int .i64 (i : Int)) (by simp only [List.getElem?_toArray, List.getElem?_cons_zero, List.getElem?_cons_succ] <;> rfl) (by kernel_rfl) (by kernel_rfl) (by kernel_rfl) (by exact fun _ _ _ h => h) (by decide) hS (Or.inl ⟨by rfl, fun w _ => (by simp [execOp, go_sem, Act.eval])⟩) (fun hS => ?_)
              simp only [Act.put, List.setIfInBounds_toArray, List.set_cons_zero, List.set_cons_succ]
              refine wpAnyL_pure (i := 3) (v := .pointer (some ⟨bm, om + i, none⟩)) (by simp only [List.getElem?_toArray, List.getElem?_cons_zero, List.getElem?_cons_succ] <;> rfl) (by kernel_rfl) (by kernel_rfl) (by kernel_rfl) (by exact fun _ _ _ h => h) (by decide) hS (Or.inl ⟨by rfl, fun w _ => (by simp [execOp, go_sem, Act.eval, zi])⟩) (fun hS => ?_)
              simp only [Act.put, List.setIfInBounds_toArray, List.set_cons_zero, List.set_cons_succ]
              refine wpAnyL_load (i := 4) (v := .int .i64 x) (by simp only [List.getElem?_toArray, List.getElem?_cons_zero, List.getElem?_cons_succ] <;> rfl) (by kernel_rfl) (by kernel_rfl) (by kernel_rfl) (by exact fun _ _ _ h => h) (by decide) ⟨_, rfl, ⟨4, .data⟩, by simp, rfl, rfl⟩ (by kernel_rfl) hS (Or.inl ⟨by rfl, fun w hw => (by obtain ⟨x0, x1⟩ := hw; simp [execOp, go_sem, Act.eval, x0])⟩) (fun hS => ?_)
              simp only [Act.put, List.setIfInBounds_toArray, List.set_cons_zero, List.set_cons_succ]
              refine wpAnyL_pure (i := 5) (v := .slice (some ⟨bm, om, none⟩) (mems Z).length cl) (by simp only [List.getElem?_toArray, List.getElem?_cons_zero, List.getElem?_cons_succ] <;> rfl) (by kernel_rfl) (by kernel_rfl) (by kernel_rfl) (by exact fun _ _ _ h => h) (by decide) hS (Or.inl ⟨by rfl, fun w _ => (by simp [execOp, go_sem, Act.eval])⟩) (fun hS => ?_)
              simp only [Act.put, List.setIfInBounds_toArray, List.set_cons_zero, List.set_cons_succ]
              refine wpAnyL_pure (i := 6) (v := .int .i64 (k : Int)) (by simp only [List.getElem?_toArray, List.getElem?_cons_zero, List.getElem?_cons_succ] <;> rfl) (by kernel_rfl) (by kernel_rfl) (by kernel_rfl) (by exact fun _ _ _ h => h) (by decide) hS (Or.inl ⟨by rfl, fun w _ => (by simp [execOp, go_sem, Act.eval])⟩) (fun hS => ?_)
              simp only [Act.put, List.setIfInBounds_toArray, List.set_cons_zero, List.set_cons_succ]
              refine wpAnyL_pure (i := 7) (v := .pointer (some ⟨bm, om + k, none⟩)) (by simp only [List.getElem?_toArray, List.getElem?_cons_zero, List.getElem?_cons_succ] <;> rfl) (by kernel_rfl) (by kernel_rfl) (by kernel_rfl) (by exact fun _ _ _ h => h) (by decide) hS (Or.inl ⟨by rfl, fun w _ => (by simp [execOp, go_sem, Act.eval, zk])⟩) (fun hS => ?_)
              simp only [Act.put, List.setIfInBounds_toArray, List.set_cons_zero, List.set_cons_succ]
              refine wpAnyL_load (i := 8) (v := .int .i64 y) (by simp only [List.getElem?_toArray, List.getElem?_cons_zero, List.getElem?_cons_succ] <;> rfl) (by kernel_rfl) (by kernel_rfl) (by kernel_rfl) (by exact fun _ _ _ h => h) (by decide) ⟨_, rfl, ⟨8, .data⟩, by simp, rfl, rfl⟩ (by kernel_rfl) hS (Or.inl ⟨by rfl, fun w hw => (by obtain ⟨x0, x1⟩ := hw; simp [execOp, go_sem, Act.eval, x1])⟩) (fun hS => ?_)
              simp only [Act.put, List.setIfInBounds_toArray, List.set_cons_zero, List.set_cons_succ]
              refine wpAnyL_one (i := 9) (by kernel_rfl) (by simp only [List.getElem?_toArray, List.getElem?_cons_zero, List.getElem?_cons_succ] <;> rfl) (by rfl) ?_
              refine opwp_call (f := 21) (args := #[.slice (some ⟨g2, 0, none⟩) L.length c2, .int .i64 x, .int .i64 y]) (w' := wr.drew) (by simp [go_sem, Act.eval]) ?_
              refine (HLK.out wr.drew (hR.same rfl)).mono ?_
              rintro e w15 ⟨rfl, hR15, hg15⟩
              rw [moreTo_length]
              refine .inl ⟨_, rfl, .inl (by kernel_rfl), ?_⟩
              simp only [Act.put, List.setIfInBounds_toArray, List.set_cons_zero, List.set_cons_succ]
              refine wpAnyL_one (i := 10) (by kernel_rfl) (by simp only [List.getElem?_toArray, List.getElem?_cons_zero, List.getElem?_cons_succ] <;> rfl) (by rfl) ?_
              refine opwp_value (v := .slice (some ⟨g2, 0, none⟩) L.length c2) (w' := w15) (by simp [execOp, go_sem, Act.eval]) ⟨.inl (by kernel_rfl), ?_⟩
              simp only [Act.put, List.setIfInBounds_toArray, List.set_cons_zero, List.set_cons_succ]
              refine wpAnyL_done (by kernel_rfl) ?_ _
              rw [HNX.out] at hR15
              have hB15 := hB.drew.grown hg15 (by exact hzl) (fun j e => by cases e; exact hg13)
              clear hS c1 c2' HLK hR hB
              go_wp2_with fail
              go_roundw
              case rel => exact ⟨k + 1, by omega, by go_num, rfl, hR15, hB15⟩
              case measure => simp [intOf]; omega
            · obtain rfl : k = i := by omega
              rw [moreTo_next] at hR
              go_wp2_with fail
              go_roundw
              case rel => exact ⟨k + 1, by have := HIL.out; omega, by go_num, rfl, hR, hB⟩
              case measure => simp [intOf]; have := HIL.out; omega
        · obtain rfl : i = (mems Z).length := by omega
          rw [moreTo_end] at hR
          have hlen : (joinAll L (pairsTo (mems Z) (mems Z).length)).length = L.length := joinAll_length _ _
          have hS := hR.sets c2
          rw [hlen] at hS
          have hq14 := HQ12.out.trans (hB.mono HQ12.out.size)
          have hB14 := hB3.trans (hq14.mono hB3.size)
          have HW14 := hid (Width_c _ _ _ l wr hS (HI3.out.below hq14) (hT.below hT.lt hB14) (by rw [hlen]; omega) (by omega))
          have hR14 := HR12.out.below hB HR12.out.lt
          have hll : (lessL L (A : Int) (B : Int)).length = L.length := lessL_length _ _ _
          have hS2 := hR14.sets cg
          rw [hll] at hS2
          have HW15 := hid (fun w' (h : Below wr.heap.size wr w') => Width_c _ _ _ l w' (hS2.below h) ((HI3.out.below hq14).below h) (hT.below hT.lt (hB14.trans (h.mono hB14.size))) (by rw [hll]; omega) (by omega))
          have hz0 := HX0.out
          have hz1 := HX1.out
          have hz2 := HZ1.out
          have hz3 := HZ2.out
          have hz4 : Go.Proofs.YthgkklahiclcpaaDoor.len Z = ((mems Z).length : Int) := rfl
          rw [hz4] at hz3
          generalize widthP (joinAll L (pairsTo (mems Z) (mems Z).length)) l = X2 at *
          generalize widthP (lessL L (A : Int) (B : Int)) l = X1 at *
          have zz2 : decide (X ≤ X2) = true := decide_eq_true hz2
          clear hlen hll hS hS2 hR hR14 hB HQ12 HR12 hz4
          go_wp2_with fail
          refine HW14.out.mono ?_
          rintro e w15 ⟨rfl, hb15⟩
          have hB15 := hB14.trans (hb15.mono hB14.size)
          have HW15' := hid (HW15.out w15 hb15)
          clear HW14 HW15
          go_wp2_with fail
          refine HW15'.out.mono ?_
          rintro e w16 ⟨rfl, hb16⟩
          have hB16 := hB15.trans (hb16.mono hB15.size)
          go_wp2_with fail
          refine (HW.out w16 hB16).mono ?_
          rintro e w17 ⟨rfl, hb17⟩
          have hB17 := hB16.trans (hb17.mono hB16.size)
          go_wp2_with fail
          go_ret
          exact ⟨rfl, hB17⟩
end Go.Proofs.YthgkklahiclcpaaDoor
