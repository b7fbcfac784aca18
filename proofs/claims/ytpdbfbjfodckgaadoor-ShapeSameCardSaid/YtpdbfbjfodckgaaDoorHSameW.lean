/- The walk of the law ShapeSame. -/
import Derived.Test.YtpdbfbjfodckgaaDoorHLaw
import Derived.Test.YtpdbfbjfodckgaaDoorHFew
import Derived.Test.YtpdbfbjfodckgaaDoorHEqual
namespace Go.Proofs.YtpdbfbjfodckgaaDoor
open Go.RowKit

theorem smT_eval {n : Int} {L : List NodeT} (hv : validNet ⟨n, L⟩ = true) (A : Int → Bool) : bOf (bsOf A L) ((L.length : Int) - 1) = bOf (bsOf A (smT L)) (((smT L).length : Int) - 1) := by
  obtain ⟨⟨r1, r2, r3, r4⟩, hf⟩ := (validNet_iff _).1 hv
  simp only at r1 r2 r3 r4 hf
  have hi := smT_inv r2 hf
  have hl := smF_at L (vsOf L) L.length (Nat.le_refl _)
  rw [List.take_length] at hl
  have h := (hi.ats ((L.length : Int) - 1) (by omega) (by rw [hl]; omega)).b A
  rw [smT_last r2 hf (by omega)] at h
  exact h.symm
/-- A net over few variables. -/
theorem det_few {n : Int} {L : List NodeT} (hv : validNet ⟨n, L⟩ = true) (h8 : n ≤ 8) : detNo ⟨n, L⟩ = 0 ∧ detYes ⟨n, L⟩ = detB L := by
  obtain ⟨⟨r1, r2, r3, r4⟩, hf⟩ := (validNet_iff _).1 hv
  simp only at r1 r2 r3 r4 hf
  obtain ⟨N, rfl⟩ : ∃ N : Nat, n = (N : Int) := ⟨n.toNat, by omega⟩
  have h1 := occ_mems (s := litsVS L) (n := N) (lits_le hv) (by omega)
  have h2 := occ_length (litsVS L) N
  rw [h1] at h2
  have h0 : detNo ⟨(N : Int), L⟩ = 0 := by
    unfold detNo
    rw [hv, if_pos rfl, if_neg (by show ¬ 16 < (mems (litsVS L)).length; omega)]
  exact ⟨h0, by unfold detYes; rw [h0]; rfl⟩
theorem smT_few {n : Int} {L : List NodeT} (hv : validNet ⟨n, L⟩ = true) (hl : L.length ≤ 24) (hi : ∀ x ∈ L, x.ins.length ≤ 4) : (smT L).length ≤ 504 ∧ validNet ⟨n, smT L⟩ = true ∧ (∀ x ∈ smT L, x.ins.length ≤ 132) := by
  have h1 := smT_len hi
  have h2 : (smT L).length ≤ 504 := by omega
  exact ⟨h2, smT_valid hv (by omega), smT_short (by decide) hi⟩
theorem smT_detB {n : Int} {L : List NodeT} (hv : validNet ⟨n, L⟩ = true) (hs : validNet ⟨n, smT L⟩ = true) (hd : detB L = true) : detB (smT L) = true := by
  rw [detB_iff hs]
  exact smT_det hv ((detB_iff hv).1 hd)
set_option maxRecDepth 100000 in
set_option maxHeartbeats 8000000 in
theorem shapeSame_walk (n0 : Int) (L0 : List NodeT) (v0 : Value) (many : Int) (w : World) (hT : TabAt w) (hP : PatAt w) (hN : NodesIn w v0 L0) (hl : L0.length ≤ 9223372036854775807) (hm : 0 ≤ many ∧ many ≤ 255) :
    Calls Tryd.prog 10 #[.agg #[.int .i64 n0, v0], .int .u8 many] w (LawPost w) := by
  obtain ⟨hm0, hm1⟩ := hm
  obtain ⟨kk, hkk⟩ : ∃ kk : Nat, many % 8 = (kk : Int) := ⟨(many % 8).toNat, by omega⟩
  have hkt : Int.tmod many 8 = (kk : Int) := by rw [Int.tmod_eq_emod_of_nonneg hm0]; exact hkk
  have hk8 : (kk : Int) ≤ 7 := by omega
  have hB1 : Below w.heap.size w (w.alloc (.cells #[.int .i64 n0, v0] 24)) := (Below.refl _ w).alloc (Nat.le_refl _) _
  have HX := hid (Box2.new w 24 (.int .i64 n0) v0)
  have HN := hid (hN.below hB1)
  have HLI := hid (light_c 100 n0 L0 v0 _ (hN.below hB1) hl)
  have HT0 := hid hT
  have HP0 := hid hP
  have HT := hid (hT.below hT.lt hB1)
  have HP := hid (hP.below hP.lt hB1)
  have HB1 := hid hB1
  obtain ⟨x0, x1, _, _⟩ := HX.out.cells
  clear hT hP hN hB1
  go_enter Tryd.func10, Tryd.ntmps10
  go_wp2_with fail
  refine HLI.out.mono ?_
  rintro e w2 ⟨rfl, hb2⟩
  clear x0 x1
  obtain ⟨x0, x1, _, _⟩ := (HX.out.below hb2 HX.out.lt).cells
  have HX2 := hid (HX.out.below hb2 HX.out.lt)
  have HN2 := hid (HN.out.below hb2)
  have HT2 := hid (HT.out.below HT.out.lt hb2)
  have HP2 := hid (HP.out.below HP.out.lt hb2)
  have HB2 := hid (HB1.out.trans (hb2.mono HB1.out.size))
  clear hb2 HX HN HLI HT HP HB1
  cases hL : lightB 100 L0
  · go_wp2_with fail
    refine (works_c w2 HT2.out HP2.out).mono ?_
    rintro e w3 ⟨rfl, hb3⟩
    go_wp2_with fail
    go_ret
    exact ⟨rfl, HB2.out.trans (hb3.mono HB2.out.size)⟩
  · obtain ⟨hlen, hins⟩ := light_len hL
    have HNA := hid (HN2.out.nodes fun x hx => by have := hins x hx; omega)
    have hl1000 : L0.length ≤ 1000 := by omega
    clear hL hlen hins
    go_wp2_with fail
    refine (few_c n0 (1 + (kk : Int)) L0 v0 w2 HNA.out hl1000 (by omega) (by omega)).mono ?_
    rintro e w3 ⟨v, L, vs, rfl, hv, hl24, hi4, hown, hb3⟩
    have HX3 := hid (HX2.out.below hb3 HX2.out.lt)
    have HB3 := hid (HB2.out.trans (hb3.mono HB2.out.size))
    have HV := hid hv
    have HL24 := hid hl24
    have HI4 := hid hi4
    obtain ⟨s1, s2, s3⟩ := smT_few hv hl24 hi4
    have HS1 := hid s1
    have HS2 := hid s2
    have HS3 := hid s3
    obtain ⟨d1, d2⟩ := det_few hv (show 1 + (kk : Int) ≤ 8 by omega)
    obtain ⟨d3, d4⟩ := det_few s2 (show 1 + (kk : Int) ≤ 8 by omega)
    have HDN := hid d1
    have HDY := hid d2
    have HDN' := hid d3
    have HDY' := hid d4
    have HO3 := hid hown
    clear hv hl24 hi4 hown hb3 x0 x1 s1 s2 s3 d1 d2 d3 d4 hl1000
    obtain ⟨pv, cv, rfl, hd⟩ := HO3.out.nodes
    clear hd
    obtain ⟨x0, x1, x2, x3⟩ := HX3.out.cells
    have lx := HX3.out.lt
    have HX4 := hid (HX3.out.set01 (.int .i64 (1 + (kk : Int))) (.slice pv L.length cv))
    have HO4 := hid (few_own (x' := .int .i64 (1 + (kk : Int))) (y' := .slice pv L.length cv) HO3.out HX3.out)
    have HB4 := hid (below_01 HB3.out (Nat.le_refl _) (.int .i64 (1 + (kk : Int))) (.slice pv L.length cv))
    go_wp2_with fail
    clear x0 x1 x2 x3 lx HX3 HB3 HO3 HX2 HN2 HNA HB2 HT2 HP2
    generalize (w3.setCell ⟨w.heap.size, 0, none⟩ (.int .i64 (1 + (kk : Int)))).setCell ⟨w.heap.size, 1, none⟩ (.slice pv L.length cv) = w4 at *
    have HNA := hid HO4.out.nodes
    have HTB := hid (fun w' (h : Below w4.heap.size w4 w') => (show TabAt w' ∧ PatAt w' from ⟨HT0.out.below HT0.out.lt (HB4.out.trans (h.mono HB4.out.size)), HP0.out.below HP0.out.lt (HB4.out.trans (h.mono HB4.out.size))⟩))
    have r0 := Below.refl w4.heap.size w4
    have hsml : (smT L).length ≤ 65536 := by have := HS1.out; omega
    refine (Smoothed_c (1 + (kk : Int)) L _ w4 HNA.out HV.out (HTB.out _ r0).1 hsml (fun x hx => by have := HI4.out x hx; omega)).mono ?_
    rintro e w5 ⟨v5, vs5, rfl, hown5, hb5⟩
    obtain ⟨p5, c5, rfl, hd5⟩ := hown5.nodes
    have HNS := hid (show NodesAt w5 (.slice p5 (smT L).length c5) (smT L) from hown5.nodes)
    have HB5 := hid hb5
    clear hd5 hown5 hb5 r0 hsml
    have HSX := hid (Box2.new w5 24 (.int .i64 (1 + (kk : Int))) (.slice p5 (smT L).length c5))
    have hal : Below w5.heap.size w5 (w5.alloc (.cells #[.int .i64 (1 + (kk : Int)), .slice p5 (smT L).length c5] 24)) := (Below.refl _ w5).alloc (Nat.le_refl _) _
    have HM6 := hid (HB5.out.trans (hal.mono HB5.out.size))
    have HN6 := hid (HNS.out.below hal)
    obtain ⟨x0, x1, _, _⟩ := (HX4.out.below HB5.out HX4.out.lt).cells
    have lx5 : w.heap.size < w5.heap.size := cell_lt x0
    clear hal HNS HB5
    go_wp2_with fail
    generalize w5.alloc (.cells #[.int .i64 (1 + (kk : Int)), .slice p5 (smT L).length c5] 24) = w6 at *
    clear x0 x1 lx5
    have HB6 := hid (Below.refl w6.heap.size w6)
    have cCK := fun w' (h : Below w6.heap.size w6 w') => Check_c (1 + (kk : Int)) (smT L) _ w' (HN6.out.below h)
    have cSM := fun w' (h : Below w6.heap.size w6 w') => Smooth_c (1 + (kk : Int)) (smT L) _ w' (HN6.out.below h)
    have cEQ := fun w' (h : Below w6.heap.size w6 w') (h4 : Below w4.heap.size w4 w') => equalN_c (1 + kk) (by omega) L (smT L) _ _ w' (HNA.out.below h4) (HN6.out.below h) HV.out HS2.out (smT_eval HV.out)
    have cDN := fun w' (h4 : Below w4.heap.size w4 w') => Deterministic_c (1 + (kk : Int)) L _ w' (HNA.out.below h4) (HTB.out _ h4).1 (HTB.out _ h4).2
    have cDS := fun w' (h : Below w6.heap.size w6 w') (h4 : Below w4.heap.size w4 w') => Deterministic_c (1 + (kk : Int)) (smT L) _ w' (HN6.out.below h) (HTB.out _ h4).1 (HTB.out _ h4).2
    have cMN := fun w' (h4 : Below w4.heap.size w4 w') => Decomposable_c (1 + (kk : Int)) L _ w' (HNA.out.below h4)
    have cMS := fun w' (h : Below w6.heap.size w6 w') => Decomposable_c (1 + (kk : Int)) (smT L) _ w' (HN6.out.below h)
    have cCN := fun w' (h4 : Below w4.heap.size w4 w') => Decision_c (1 + (kk : Int)) L _ w' (HNA.out.below h4) (fun k h => by have := HI4.out _ (List.getElem_mem h); omega)
    have cCS := fun w' (h : Below w6.heap.size w6 w') => Decision_c (1 + (kk : Int)) (smT L) _ w' (HN6.out.below h) (fun k h => by have := HS3.out _ (List.getElem_mem h); omega)
    have cWK := fun w' (h4 : Below w4.heap.size w4 w') => works_c w' (HTB.out _ h4).1 (HTB.out _ h4).2
    rw [checkNo_t HS2.out] at cCK
    unfold DecPost at cSM cEQ cMN cMS cCN cCS
    unfold DetPost at cDN cDS
    rw [HS2.out, smT_smooth HV.out] at cSM
    rw [HDN.out, HDY.out] at cDN
    rw [HDN'.out, HDY'.out] at cDS
    rw [HV.out, Bool.true_and] at cMN cCN
    rw [HS2.out, Bool.true_and] at cMS cCS
    have ecast : ((1 + kk : Nat) : Int) = 1 + (kk : Int) := by push_cast; rfl
    rw [ecast] at cEQ
    have CCK := hid cCK
    have CSM := hid cSM
    have CEQ := hid cEQ
    have CDN := hid cDN
    have CDS := hid cDS
    have CMN := hid cMN
    have CMS := hid cMS
    have CCN := hid cCN
    have CCS := hid cCS
    have CWK := hid cWK
    have IM := hid (fun (h : decomB L = true) => smT_dec HV.out h)
    have IC := hid (fun (h : decideB L = true) => smT_dcn HV.out h)
    have ID := hid (fun (h : detB L = true) => smT_detB HV.out HS2.out h)
    clear cCK cSM cEQ cDN cDS cMN cMS cCN cCS cWK ecast
    generalize decomB L = m1 at CMN IM
    generalize decideB L = c1 at CCN IC
    generalize detB L = d1 at CDN ID
    generalize decomB (smT L) = m2 at CMS IM
    generalize decideB (smT L) = c2 at CCS IC
    generalize detB (smT L) = d2 at CDS ID
    obtain ⟨x0, x1, _, _⟩ := (HX4.out.below HM6.out HX4.out.lt).cells
    obtain ⟨z0, z1, _, _⟩ := (HSX.out.below HB6.out HSX.out.lt).cells
    have lz : w5.heap.size < w6.heap.size := cell_lt z0
    have lxx : w.heap.size < w6.heap.size := cell_lt x0
    refine (CCK.out _ HB6.out).mono ?_
    rintro e w7 ⟨rfl, hb7⟩
    have HB7 := hid (HB6.out.trans (hb7.mono HB6.out.size))
    have HM7 := hid (HM6.out.trans (hb7.mono HM6.out.size))
    clear x0 x1 z0 z1 lz lxx hb7 HB6 HM6
    obtain ⟨x0, x1, _, _⟩ := (HX4.out.below HM7.out HX4.out.lt).cells
    obtain ⟨z0, z1, _, _⟩ := (HSX.out.below HB7.out HSX.out.lt).cells
    have lz : w5.heap.size < w7.heap.size := cell_lt z0
    have lxx : w.heap.size < w7.heap.size := cell_lt x0
    go_wp2_with fail
    refine (CSM.out _ HB7.out).mono ?_
    rintro e w8 ⟨rfl, hb8⟩
    have HB8 := hid (HB7.out.trans (hb8.mono HB7.out.size))
    have HM8 := hid (HM7.out.trans (hb8.mono HM7.out.size))
    clear x0 x1 z0 z1 lz lxx hb8 HB7 HM7
    obtain ⟨x0, x1, _, _⟩ := (HX4.out.below HM8.out HX4.out.lt).cells
    obtain ⟨z0, z1, _, _⟩ := (HSX.out.below HB8.out HSX.out.lt).cells
    have lz : w5.heap.size < w8.heap.size := cell_lt z0
    have lxx : w.heap.size < w8.heap.size := cell_lt x0
    go_wp2_with fail
    refine (CEQ.out _ HB8.out HM8.out).mono ?_
    rintro e w9 ⟨rfl, hb9⟩
    have HB9 := hid (HB8.out.trans (hb9.mono HB8.out.size))
    have HM9 := hid (HM8.out.trans (hb9.mono HM8.out.size))
    clear x0 x1 z0 z1 lz lxx hb9 HB8 HM8
    obtain ⟨x0, x1, _, _⟩ := (HX4.out.below HM9.out HX4.out.lt).cells
    obtain ⟨z0, z1, _, _⟩ := (HSX.out.below HB9.out HSX.out.lt).cells
    have lz : w5.heap.size < w9.heap.size := cell_lt z0
    have lxx : w.heap.size < w9.heap.size := cell_lt x0
    go_wp2_with fail
    refine (CDN.out _ HM9.out).mono ?_
    rintro e w10 ⟨rfl, hb10⟩
    have HB10 := hid (HB9.out.trans (hb10.mono HB9.out.size))
    have HM10 := hid (HM9.out.trans (hb10.mono HM9.out.size))
    clear x0 x1 z0 z1 lz lxx hb10 HB9 HM9
    obtain ⟨x0, x1, _, _⟩ := (HX4.out.below HM10.out HX4.out.lt).cells
    obtain ⟨z0, z1, _, _⟩ := (HSX.out.below HB10.out HSX.out.lt).cells
    have lz : w5.heap.size < w10.heap.size := cell_lt z0
    have lxx : w.heap.size < w10.heap.size := cell_lt x0
    go_wp2_with fail
    refine (CDS.out _ HB10.out HM10.out).mono ?_
    rintro e w11 ⟨rfl, hb11⟩
    have HB11 := hid (HB10.out.trans (hb11.mono HB10.out.size))
    have HM11 := hid (HM10.out.trans (hb11.mono HM10.out.size))
    clear x0 x1 z0 z1 lz lxx hb11 HB10 HM10
    obtain ⟨x0, x1, _, _⟩ := (HX4.out.below HM11.out HX4.out.lt).cells
    obtain ⟨z0, z1, _, _⟩ := (HSX.out.below HB11.out HSX.out.lt).cells
    have lz : w5.heap.size < w11.heap.size := cell_lt z0
    have lxx : w.heap.size < w11.heap.size := cell_lt x0
    go_wp2_with fail
    refine (CMN.out _ HM11.out).mono ?_
    rintro e w12 ⟨rfl, hb12⟩
    have HB12 := hid (HB11.out.trans (hb12.mono HB11.out.size))
    have HM12 := hid (HM11.out.trans (hb12.mono HM11.out.size))
    clear x0 x1 z0 z1 lz lxx hb12 HB11 HM11
    obtain ⟨x0, x1, _, _⟩ := (HX4.out.below HM12.out HX4.out.lt).cells
    obtain ⟨z0, z1, _, _⟩ := (HSX.out.below HB12.out HSX.out.lt).cells
    have lz : w5.heap.size < w12.heap.size := cell_lt z0
    have lxx : w.heap.size < w12.heap.size := cell_lt x0
    cases m1
    · have hd : (d1 = false) ∨ (d1 = true ∧ d2 = true) := by
        cases d1
        · exact .inl rfl
        · exact .inr ⟨rfl, ID.out rfl⟩
      rcases hd with rfl | ⟨rfl, rfl⟩
      all_goals
        go_wp2_with fail
        refine (CCN.out _ HM12.out).mono ?_
        rintro e w13 ⟨rfl, hb13⟩
        have HB13 := hid (HB12.out.trans (hb13.mono HB12.out.size))
        have HM13 := hid (HM12.out.trans (hb13.mono HM12.out.size))
        clear x0 x1 z0 z1 lz lxx hb13 HB12 HM12
        obtain ⟨x0, x1, _, _⟩ := (HX4.out.below HM13.out HX4.out.lt).cells
        obtain ⟨z0, z1, _, _⟩ := (HSX.out.below HB13.out HSX.out.lt).cells
        have lz : w5.heap.size < w13.heap.size := cell_lt z0
        have lxx : w.heap.size < w13.heap.size := cell_lt x0
        cases c1
        · go_wp2_with fail
          refine (CWK.out _ HM13.out).mono ?_
          rintro e wz ⟨rfl, hbz⟩
          have HMZ := hid (HM13.out.trans (hbz.mono HM13.out.size))
          clear hbz
          go_wp2_with fail
          go_ret
          exact ⟨rfl, HB4.out.trans (HMZ.out.mono HB4.out.size)⟩
        · obtain rfl : c2 = true := IC.out rfl
          go_wp2_with fail
          refine (CCS.out _ HB13.out).mono ?_
          rintro e w14 ⟨rfl, hb14⟩
          have HB14 := hid (HB13.out.trans (hb14.mono HB13.out.size))
          have HM14 := hid (HM13.out.trans (hb14.mono HM13.out.size))
          clear x0 x1 z0 z1 lz lxx hb14 HB13 HM13
          obtain ⟨x0, x1, _, _⟩ := (HX4.out.below HM14.out HX4.out.lt).cells
          obtain ⟨z0, z1, _, _⟩ := (HSX.out.below HB14.out HSX.out.lt).cells
          have lz : w5.heap.size < w14.heap.size := cell_lt z0
          have lxx : w.heap.size < w14.heap.size := cell_lt x0
          go_wp2_with fail
          refine (CWK.out _ HM14.out).mono ?_
          rintro e wz ⟨rfl, hbz⟩
          have HMZ := hid (HM14.out.trans (hbz.mono HM14.out.size))
          clear hbz
          go_wp2_with fail
          go_ret
          exact ⟨rfl, HB4.out.trans (HMZ.out.mono HB4.out.size)⟩
    · obtain rfl : m2 = true := IM.out rfl
      go_wp2_with fail
      refine (CMS.out _ HB12.out).mono ?_
      rintro e w13 ⟨rfl, hb13⟩
      have HB13 := hid (HB12.out.trans (hb13.mono HB12.out.size))
      have HM13 := hid (HM12.out.trans (hb13.mono HM12.out.size))
      clear x0 x1 z0 z1 lz lxx hb13 HB12 HM12
      obtain ⟨x0, x1, _, _⟩ := (HX4.out.below HM13.out HX4.out.lt).cells
      obtain ⟨z0, z1, _, _⟩ := (HSX.out.below HB13.out HSX.out.lt).cells
      have lz : w5.heap.size < w13.heap.size := cell_lt z0
      have lxx : w.heap.size < w13.heap.size := cell_lt x0
      have hd : (d1 = false) ∨ (d1 = true ∧ d2 = true) := by
        cases d1
        · exact .inl rfl
        · exact .inr ⟨rfl, ID.out rfl⟩
      rcases hd with rfl | ⟨rfl, rfl⟩
      all_goals
        go_wp2_with fail
        refine (CCN.out _ HM13.out).mono ?_
        rintro e w14 ⟨rfl, hb14⟩
        have HB14 := hid (HB13.out.trans (hb14.mono HB13.out.size))
        have HM14 := hid (HM13.out.trans (hb14.mono HM13.out.size))
        clear x0 x1 z0 z1 lz lxx hb14 HB13 HM13
        obtain ⟨x0, x1, _, _⟩ := (HX4.out.below HM14.out HX4.out.lt).cells
        obtain ⟨z0, z1, _, _⟩ := (HSX.out.below HB14.out HSX.out.lt).cells
        have lz : w5.heap.size < w14.heap.size := cell_lt z0
        have lxx : w.heap.size < w14.heap.size := cell_lt x0
        cases c1
        · go_wp2_with fail
          refine (CWK.out _ HM14.out).mono ?_
          rintro e wz ⟨rfl, hbz⟩
          have HMZ := hid (HM14.out.trans (hbz.mono HM14.out.size))
          clear hbz
          go_wp2_with fail
          go_ret
          exact ⟨rfl, HB4.out.trans (HMZ.out.mono HB4.out.size)⟩
        · obtain rfl : c2 = true := IC.out rfl
          go_wp2_with fail
          refine (CCS.out _ HB14.out).mono ?_
          rintro e w15 ⟨rfl, hb15⟩
          have HB15 := hid (HB14.out.trans (hb15.mono HB14.out.size))
          have HM15 := hid (HM14.out.trans (hb15.mono HM14.out.size))
          clear x0 x1 z0 z1 lz lxx hb15 HB14 HM14
          obtain ⟨x0, x1, _, _⟩ := (HX4.out.below HM15.out HX4.out.lt).cells
          obtain ⟨z0, z1, _, _⟩ := (HSX.out.below HB15.out HSX.out.lt).cells
          have lz : w5.heap.size < w15.heap.size := cell_lt z0
          have lxx : w.heap.size < w15.heap.size := cell_lt x0
          go_wp2_with fail
          refine (CWK.out _ HM15.out).mono ?_
          rintro e wz ⟨rfl, hbz⟩
          have HMZ := hid (HM15.out.trans (hbz.mono HM15.out.size))
          clear hbz
          go_wp2_with fail
          go_ret
          exact ⟨rfl, HB4.out.trans (HMZ.out.mono HB4.out.size)⟩
end Go.Proofs.YtpdbfbjfodckgaaDoor
