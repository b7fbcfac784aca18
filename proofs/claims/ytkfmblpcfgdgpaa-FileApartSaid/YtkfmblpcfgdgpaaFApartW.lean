/- The walk of the law FileApart. -/
import Derived.Test.YtkfmblpcfgdgpaaFBackW
import Derived.Test.YtkfmblpcfgdgpaaPure
namespace Go.Proofs.Ytkfmblpcfgdgpaa
open Go.RowKit

theorem nets2 (w : World) (n0 n1 : Int) (v0 v1 : Value) : NetVar ((w.alloc (.cells #[.int .i64 n0, v0] 24)).alloc (.cells #[.int .i64 n1, v1] 24)) w.heap.size n0 v0 ∧ NetVar ((w.alloc (.cells #[.int .i64 n0, v0] 24)).alloc (.cells #[.int .i64 n1, v1] 24)) (w.heap.size + 1) n1 v1 := by
  refine ⟨(NetVar.new w n0 v0 24).below ((Below.refl _ _).alloc (Nat.le_refl _) _), ?_⟩
  have := NetVar.new (w.alloc (.cells #[.int .i64 n0, v0] 24)) n1 v1 24
  rw [World.size_alloc] at this; exact this
set_option maxRecDepth 100000 in
set_option maxHeartbeats 4000000 in
theorem fileApart_walk (n0 : Int) (L0 : List NodeT) (v0 : Value) (n1 : Int) (L1 : List NodeT) (v1 : Value) (w : World) (hN0 : NodesIn w v0 L0) (hl0 : L0.length ≤ 9223372036854775807) (hN1 : NodesIn w v1 L1) (hl1 : L1.length ≤ 9223372036854775807) :
    Calls Try.prog 8 #[.agg #[.int .i64 n0, v0], .agg #[.int .i64 n1, v1]] w (LawPost w) := by
  have hB1 : Below w.heap.size w ((w.alloc (.cells #[.int .i64 n0, v0] 24)).alloc (.cells #[.int .i64 n1, v1] 24)) := ((Below.refl _ w).alloc (Nat.le_refl _) _).alloc (by simp) _
  obtain ⟨hx0, hx1⟩ := nets2 w n0 n1 v0 v1
  replace hN0 := hN0.below hB1
  replace hN1 := hN1.below hB1
  have HL0 := hid (light_c n0 L0 v0 _ hN0 hl0)
  cases hL0 : lightB L0
  · rw [hL0] at HL0
    go_enter Try.func8, Try.ntmps8
    go_wp2_with fail
    refine HL0.out.mono ?_
    rintro e w2 ⟨rfl, hb2⟩
    have hB2 := hB1.trans (hb2.mono hB1.size)
    go_wp2_with fail
    refine (works_c w2).mono ?_
    rintro e w3 ⟨rfl, hb3⟩
    have hB3 := hB2.trans (hb3.mono hB2.size)
    clear hB1 hx0 hx1 hN0 hN1 hb2 hb3 hB2
    go_wp2_with fail
    go_ret
    exact ⟨rfl, hB3⟩
  · rw [hL0] at HL0
    obtain ⟨hl300, hi300⟩ := light_len hL0
    have hNA0 := hN0.nodes (fun x hx => by have := hi300 x hx; omega)
    clear hN0 hi300
    go_enter Try.func8, Try.ntmps8
    go_wp2_with fail
    refine HL0.out.mono ?_
    rintro e w2 ⟨rfl, hb2⟩
    have hB2 := hB1.trans (hb2.mono hB1.size)
    obtain ⟨a0, a1⟩ := hx0.below hb2
    obtain ⟨b0, b1⟩ := hx1.below hb2
    have hNA2 := hNA0.below hb2
    have hNB2 := hN1.below hb2
    have HL1 := hid (light_c n1 L1 v1 w2 hNB2 hl1)
    have hp0 : w.heap.size < w2.heap.size := cell_lt a0
    have hp1 : w.heap.size + 1 < w2.heap.size := cell_lt b0
    clear hx0 hx1 hNA0 hN1 hb2 hB1 HL0
    cases hL1 : lightB L1
    · rw [hL1] at HL1
      go_wp2_with fail
      refine HL1.out.mono ?_
      rintro e w3 ⟨rfl, hb3⟩
      have hB3 := hB2.trans (hb3.mono hB2.size)
      go_wp2_with fail
      refine (works_c w3).mono ?_
      rintro e w4 ⟨rfl, hb4⟩
      have hB4 := hB3.trans (hb4.mono hB3.size)
      clear hB2 hb3 hB3 hb4
      go_wp2_with fail
      go_ret
      exact ⟨rfl, hB4⟩
    · rw [hL1] at HL1
      obtain ⟨hm300, hj300⟩ := light_len hL1
      have hNB := hNB2.nodes (fun x hx => by have := hj300 x hx; omega)
      clear hNB2 hj300
      go_wp2_with fail
      refine HL1.out.mono ?_
      rintro e w3 ⟨rfl, hb3⟩
      have hB3 := hB2.trans (hb3.mono hB2.size)
      have hNA3 := hNA2.below hb3
      have hNB3 := hNB.below hb3
      have c0 := (hb3.cell (p := ⟨w.heap.size, 0, none⟩) hp0).trans a0
      have c1 := (hb3.cell (p := ⟨w.heap.size, 1, none⟩) hp0).trans a1
      have d0 := (hb3.cell (p := ⟨w.heap.size + 1, 0, none⟩) hp1).trans b0
      have d1 := (hb3.cell (p := ⟨w.heap.size + 1, 1, none⟩) hp1).trans b1
      have hq0 : w.heap.size < w3.heap.size := cell_lt c0
      have hq1 : w.heap.size + 1 < w3.heap.size := cell_lt d0
      clear a0 a1 b0 b1 hb3 hB2 hNA2 hNB HL1
      go_wp2_with fail
      refine (Encode_c n0 L0 v0 w3 hNA3).mono ?_
      rintro e w4 ⟨va, rfl, hoa, hb4⟩
      have hB4 := hB3.trans (hb4.mono hB3.size)
      have hNA4 := hNA3.below hb4
      have hNB4 := hNB3.below hb4
      have e0 := (hb4.cell (p := ⟨w.heap.size, 0, none⟩) hq0).trans c0
      have e1 := (hb4.cell (p := ⟨w.heap.size, 1, none⟩) hq0).trans c1
      have g0 := (hb4.cell (p := ⟨w.heap.size + 1, 0, none⟩) hq1).trans d0
      have g1 := (hb4.cell (p := ⟨w.heap.size + 1, 1, none⟩) hq1).trans d1
      have hr0 : w.heap.size < w4.heap.size := cell_lt e0
      have hr1 : w.heap.size + 1 < w4.heap.size := cell_lt g0
      have hba := hoa.bytes
      clear c0 c1 d0 d1 hB3 hNA3 hNB3 hb4 hoa
      go_wp2_with fail
      refine (Encode_c n1 L1 v1 w4 hNB4).mono ?_
      rintro e w5 ⟨vb, rfl, hob, hb5⟩
      have hB5 := hB4.trans (hb5.mono hB4.size)
      have hNA5 := hNA4.below hb5
      have hNB5 := hNB4.below hb5
      have e0' := (hb5.cell (p := ⟨w.heap.size, 0, none⟩) hr0).trans e0
      have e1' := (hb5.cell (p := ⟨w.heap.size, 1, none⟩) hr0).trans e1
      have g0' := (hb5.cell (p := ⟨w.heap.size + 1, 0, none⟩) hr1).trans g0
      have g1' := (hb5.cell (p := ⟨w.heap.size + 1, 1, none⟩) hr1).trans g1
      have hs0 : w.heap.size < w5.heap.size := cell_lt e0'
      have hs1 : w.heap.size + 1 < w5.heap.size := cell_lt g0'
      have hba5 := hba.below hb5
      have hbb5 := hob.bytes
      clear e0 e1 g0 g1 hB4 hNA4 hNB4 hb5 hob hba
      by_cases hok : encNo ⟨n0, L0⟩ = 0 ∧ encNo ⟨n1, L1⟩ = 0
      · obtain ⟨ok0, ok1⟩ := hok
        have hinj := enc_inj ok0 ok1
        rw [ok0, ok1]
        obtain ⟨bb, hb1, hb2⟩ : ∃ bb : Bool, decide (encBytes ⟨n0, L0⟩ = encBytes ⟨n1, L1⟩) = bb ∧ decide ((⟨n0, L0⟩ : NetT) = ⟨n1, L1⟩) = bb := by
          by_cases hxy : (⟨n0, L0⟩ : NetT) = ⟨n1, L1⟩
          · exact ⟨true, decide_eq_true (hinj.2 hxy), decide_eq_true hxy⟩
          · exact ⟨false, decide_eq_false (fun e => hxy (hinj.1 e)), decide_eq_false hxy⟩
        have hsb := strB_beq (encBytes ⟨n0, L0⟩) (encBytes ⟨n1, L1⟩)
        rw [hb1] at hsb
        have qS := fun x => rSameNet_c n0 n1 L0 L1 v0 v1 _ (hNA5.below (ext_below w5 x)) (hNB5.below (ext_below w5 x)) (by omega) (by omega)
        rw [hb2] at qS
        have hca := fun x => conv_str (hba5.below (ext_below w5 x))
        have hcb := fun x => conv_str (hbb5.below (ext_below w5 x))
        have QS := hid qS
        obtain ⟨pa, ca, ea, hdrop⟩ := id hNA5
        clear hdrop
        subst ea
        obtain ⟨pb, cb, eb, hdrop⟩ := id hNB5
        clear hdrop
        subst eb
        generalize encBytes ⟨n0, L0⟩ = bs0 at *
        generalize encBytes ⟨n1, L1⟩ = bs1 at *
        clear hinj ok0 ok1 hb1 hb2 qS hNA5 hNB5 hba5 hbb5
        cases bb
        all_goals
          go_wp2_with fail
          refine wp_region_pure (by kernel_rfl) (by kernel_rfl) ?_
          repeat (go_big_quiet_step ((first | (go_at_call 19; exact Calls.ext_of (QS.out _)) | (go_at_call 15; exact Calls.ext_of (works_c _)))))
          refine wpQuiet_nil ?_
          intro w6 hb6
          have hB6 := hB5.trans (hb6.mono hB5.size)
          clear hB5 hb6
          go_wp2_with fail
          go_ret
          exact ⟨rfl, hB6⟩
      · rcases (Decidable.not_and_iff_or_not.1 hok) with h0 | h1
        · have hne : (encNo ⟨n0, L0⟩ != 0) = true := by simpa using h0
          clear hok h0
          generalize encNo ⟨n0, L0⟩ = en at *
          generalize encNo ⟨n1, L1⟩ = en1 at *
          go_wp2_with fail
          refine (works_c w5).mono ?_
          rintro e w6 ⟨rfl, hb6⟩
          have hB6 := hB5.trans (hb6.mono hB5.size)
          clear hB5 hb6
          go_wp2_with fail
          go_ret
          exact ⟨rfl, hB6⟩
        · by_cases h0 : encNo ⟨n0, L0⟩ = 0
          · have hne : (encNo ⟨n1, L1⟩ != 0) = true := by simpa using h1
            rw [h0]
            clear hok h0 h1
            generalize encNo ⟨n1, L1⟩ = en1 at *
            go_wp2_with fail
            refine (works_c w5).mono ?_
            rintro e w6 ⟨rfl, hb6⟩
            have hB6 := hB5.trans (hb6.mono hB5.size)
            clear hB5 hb6
            go_wp2_with fail
            go_ret
            exact ⟨rfl, hB6⟩
          · have hne : (encNo ⟨n0, L0⟩ != 0) = true := by simpa using h0
            clear hok h0 h1
            generalize encNo ⟨n0, L0⟩ = en at *
            generalize encNo ⟨n1, L1⟩ = en1 at *
            go_wp2_with fail
            refine (works_c w5).mono ?_
            rintro e w6 ⟨rfl, hb6⟩
            have hB6 := hB5.trans (hb6.mono hB5.size)
            clear hB5 hb6
            go_wp2_with fail
            go_ret
            exact ⟨rfl, hB6⟩
end Go.Proofs.Ytkfmblpcfgdgpaa
