/- The walk of the law GraphChordal. -/
import Derived.Test.YthgkklahiclcpaaDoorSFill
import Derived.Test.YthgkklahiclcpaaDoorSFillP
import Derived.Test.YthgkklahiclcpaaDoorSShuf
namespace Go.Proofs.YthgkklahiclcpaaDoor
open Go.RowKit
attribute [local go_sem ↓] run_eqlS run_neqS run_eqlS0 run_neqS0

set_option maxRecDepth 100000 in
set_option maxHeartbeats 4000000 in
theorem graphChordal_walk (v : Value) (L : List VS) (v2 : Value) (P : List Int) (w : World) (hT : TabAt w) (hI : SetsAt w v L) (hL : L.length ≤ 9223372036854775807) (hP : U8sAt w v2 P) (hPl : P.length ≤ 9223372036854775807) :
    Calls Tryd.prog 7 #[v, v2] w (LawPost w) := by
  have HM := hid (small_c v L w hI hL)
  have HW := hid (fun w' (h : Below w.heap.size w w') => works_c w' (hT.below hT.lt h))
  have HI := hid hI
  have HP := hid hP
  obtain ⟨p, c, rfl, hdrop⟩ := id hI
  clear hdrop
  clear hI hP
  cases hs : smallG L with
  | false =>
    rw [hs] at HM
    clear hs
    go_enter Tryd.func7, Tryd.ntmps7
    go_wp2_with fail
    refine HM.out.mono ?_
    rintro e w1 ⟨rfl, hb1⟩
    go_wp2_with fail
    refine (HW.out w1 hb1).mono ?_
    rintro e w2 ⟨rfl, hb2⟩
    have hB2 := hb1.trans (hb2.mono hb1.size)
    go_wp2_with fail
    go_ret
    exact ⟨rfl, hB2⟩
  | true =>
    rw [hs] at HM
    have hV : ValidG L := validG_iff.1 (by unfold smallG at hs; rw [Bool.and_eq_true] at hs; exact hs.2)
    have hL17 : L.length ≤ 17 := by unfold smallG at hs; rw [Bool.and_eq_true] at hs; exact of_decide_eq_true hs.1
    have hpos := hV.pos
    have hn : ((L.length - 1 : Nat) : Int) = (L.length : Int) - 1 := by omega
    have HSH := hid (fun w' (h : Below w.heap.size w w') => shuffled_c (L.length - 1) (by omega) v2 P w' (HP.out.below h) hPl)
    rw [hn] at HSH
    have HV := hid hV
    clear hs hV hn
    go_enter Tryd.func7, Tryd.ntmps7
    go_wp2_with fail
    refine HM.out.mono ?_
    rintro e w1 ⟨rfl, hb1⟩
    have HS1 := hid (HSH.out w1 hb1)
    clear HSH HM
    go_wp2_with fail
    refine HS1.out.mono ?_
    rintro e w2 ⟨u, l, rfl, hN2, hO, hb2⟩
    have hB2 := hb1.trans (hb2.mono hb1.size)
    have hi2 := hN2.ints
    have HO := hid hO
    have hll := hO.len
    have hl16 : l.length ≤ 16 := by omega
    obtain ⟨pu, cu, hu, hdrop⟩ := id hi2
    subst hu
    have HW2 := hid (Width_c _ _ L l w2 (HI.out.below hB2) hi2 (hT.below hT.lt hB2) (by omega) (by omega))
    rw [show widthP L l = widthF (gOf L) l from widthP_ord HV.out hO] at HW2
    obtain ⟨hc1, hc2⟩ := chordal HV.out hO
    have hVF := filled_valid HV.out hO
    have hW3 : widthP (filledR L l) l = widthF (gOf L) l := by rw [widthP_ord hVF (by rw [filled_length]; exact hO)]; exact hc1
    have hW4 : widthP (filledR L l) (orderP fillC (filledR L l)) = widthF (gOf L) l := by rw [widthP_ord hVF (orderP_ord hVF)]; exact hc2
    have HX3 := hid hW3
    have HX4 := hid hW4
    have HF := hid (fun w' (h : SetsAt w' (.slice p L.length c) L) (h2 : IntsAt w' (.slice pu l.length cu) l) => rFilled_c _ _ L l w' h h2 HV.out (fun x hx => by have := (hO.mem x).1 hx; omega) (by omega))
    have hfl := filled_length L l
    have HOL := hid (orderP_length fillC (filledR L l))
    have HFL := hid hfl
    generalize filledR L l = F at *
    generalize widthF (gOf L) l = X at *
    have HI2 := hid hi2
    clear hdrop hb1 hb2 hN2 hi2 hO hc1 hc2 hVF hW3 hW4 HS1 hfl hll
    go_wp2_with fail
    refine HW2.out.mono ?_
    rintro e w3 ⟨rfl, hb3⟩
    have hB3 := hB2.trans (hb3.mono hB2.size)
    have HF3 := hid (HF.out w3 (HI.out.below hB3) (HI2.out.below hb3))
    have HI3 := hid (HI2.out.below hb3)
    clear HI2 HW2 HF hB2
    go_wp2_with fail
    refine HF3.out.mono ?_
    rintro e w4 ⟨uF, rfl, hF4, hb4⟩
    have hB4 := hB3.trans (hb4.mono hB3.size)
    obtain ⟨pf, cf, rfl, hdrop⟩ := id hF4
    have HW4 := hid (Width_c _ _ F l w4 hF4 (HI3.out.below hb4) (hT.below hT.lt hB4) (by rw [HFL.out]; omega) (by omega))
    rw [HX3.out] at HW4
    have HF4 := hid hF4
    clear hdrop hF4 HF3 hb3 hB3
    go_wp2_with fail
    refine HW4.out.mono ?_
    rintro e w5 ⟨rfl, hb5⟩
    have hB5 := hB4.trans (hb5.mono hB4.size)
    have hF5 := HF4.out.below hb5
    have HMF := hid (MinFill_c _ F w5 hF5 (hT.below hT.lt hB5) (by rw [HFL.out]; omega))
    have HF5 := hid hF5
    clear hF5 HW4 HI3 hb4
    go_wp2_with fail
    refine HMF.out.mono ?_
    rintro e w6 ⟨v6, rfl, hn6, hb6⟩
    have hB6 := hB5.trans (hb6.mono hB5.size)
    have hi6 := hn6.ints
    obtain ⟨p6, c6, rfl, hdrop⟩ := id hi6
    have HW6 := hid (Width_c _ _ F _ w6 (HF5.out.below hb6) hi6 (hT.below hT.lt hB6) (by rw [HFL.out]; omega) (by have := HOL.out; omega))
    rw [HX4.out] at HW6
    clear hdrop hi6 hn6 HMF hb5
    go_wp2_with fail
    refine HW6.out.mono ?_
    rintro e w7 ⟨rfl, hb7⟩
    have hB7 := hB6.trans (hb7.mono hB6.size)
    go_wp2_with fail
    refine (HW.out w7 hB7).mono ?_
    rintro e w8 ⟨rfl, hb8⟩
    have hB8 := hB7.trans (hb8.mono hB7.size)
    go_wp2_with fail
    go_ret
    exact ⟨rfl, hB8⟩
end Go.Proofs.YthgkklahiclcpaaDoor
