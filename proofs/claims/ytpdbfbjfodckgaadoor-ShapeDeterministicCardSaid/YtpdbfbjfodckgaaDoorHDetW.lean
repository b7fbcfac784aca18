/- The walk of the law ShapeDeterministic. -/
import Derived.Test.YtpdbfbjfodckgaaDoorHLaw
import Derived.Test.YtpdbfbjfodckgaaDoorHRefD
namespace Go.Proofs.YtpdbfbjfodckgaaDoor
open Go.RowKit

set_option maxRecDepth 100000 in
set_option maxHeartbeats 4000000 in
theorem shapeDeterministic_walk (n : Int) (L : List NodeT) (v : Value) (w : World) (hT : TabAt w) (hP : PatAt w) (hN : NodesIn w v L) (hl : L.length ≤ 9223372036854775807) :
    Calls Tryd.prog 5 #[.agg #[.int .i64 n, v]] w (LawPost w) := by
  have hB1 : Below w.heap.size w (w.alloc (.cells #[.int .i64 n, v] 24)) := (Below.refl _ w).alloc (Nat.le_refl _) _
  have HX := hid (NetVar.new w n v 24)
  have HN := hid (hN.below hB1)
  have HLI := hid (light_c 60 n L v _ (hN.below hB1) hl)
  have HT := hid (hT.below hT.lt hB1)
  have HP := hid (hP.below hP.lt hB1)
  have HB1 := hid hB1
  obtain ⟨x0, x1⟩ := HX.out
  clear hT hP hN hB1
  go_enter Tryd.func5, Tryd.ntmps5
  go_wp2_with fail
  refine HLI.out.mono ?_
  rintro e w2 ⟨rfl, hb2⟩
  clear x0 x1
  obtain ⟨x0, x1⟩ := HX.out.below hb2
  have HX2 := hid (HX.out.below hb2)
  have HN2 := hid (HN.out.below hb2)
  have HT2 := hid (HT.out.below HT.out.lt hb2)
  have HP2 := hid (HP.out.below HP.out.lt hb2)
  have HB2 := hid (HB1.out.trans (hb2.mono HB1.out.size))
  clear hb2 HX HN HLI HT HP HB1
  have HW := hid (fun w3 (h : Below w2.heap.size w2 w3) => works_c w3 (HT2.out.below HT2.out.lt h) (HP2.out.below HP2.out.lt h))
  cases hL : lightB 60 L
  · go_wp2_with fail
    refine (HW.out w2 (Below.refl _ _)).mono ?_
    rintro e w3 ⟨rfl, hb3⟩
    go_wp2_with fail
    go_ret
    exact ⟨rfl, HB2.out.trans (hb3.mono HB2.out.size)⟩
  · obtain ⟨hlen, hins⟩ := light_len hL
    have HNA := hid (HN2.out.nodes fun x hx => by have := hins x hx; omega)
    have HD := hid (fun w3 (h : Below w2.heap.size w2 w3) => Deterministic_c n L v w3 (HNA.out.below h) (HT2.out.below HT2.out.lt h) (HP2.out.below HP2.out.lt h))
    have HR := hid (fun w3 (h : Below w2.heap.size w2 w3) => deterministic21_c n L v w3 (HNA.out.below h))
    have HVC := hid (valid21_c n L v w2 HNA.out)
    unfold DetPost at HD HR
    obtain ⟨dy, hdy⟩ : ∃ dy, dy = detYes ⟨n, L⟩ := ⟨_, rfl⟩
    obtain ⟨dn, hdn⟩ : ∃ dn, dn = detNo ⟨n, L⟩ := ⟨_, rfl⟩
    rw [← hdy, ← hdn] at HD HR
    have e1 : (dy == dy) = true := by simp
    have e2 : (dn == dn) = true := by simp
    clear hL hlen hins hdy hdn
    cases hv : validNet ⟨n, L⟩ with
    | false =>
      rw [hv] at HVC
      clear hv
      go_wp2_with fail
      refine HVC.out.mono ?_
      rintro e w3 ⟨rfl, hb3⟩
      have H3 := hid hb3
      obtain ⟨y0, y1⟩ := HX2.out.below hb3
      clear x0 x1 hb3
      go_wp2_with fail
      refine (HD.out w3 H3.out).mono ?_
      rintro e w4 ⟨rfl, hb4⟩
      have H4 := hid (H3.out.trans (hb4.mono H3.out.size))
      obtain ⟨x0, x1⟩ := HX2.out.below H4.out
      clear y0 y1 hb4
      go_wp2_with fail
      refine (HR.out w4 H4.out).mono ?_
      rintro e w5 ⟨rfl, hb5⟩
      have H5 := hid (H4.out.trans (hb5.mono H4.out.size))
      clear x0 x1 hb5
      go_wp2_with fail
      refine (HW.out w5 H5.out).mono ?_
      rintro e w6 ⟨rfl, hb6⟩
      have H6 := hid (H5.out.trans (hb6.mono H5.out.size))
      clear hb6
      go_wp2_with fail
      go_ret
      exact ⟨rfl, HB2.out.trans (H6.out.mono HB2.out.size)⟩
    | true =>
      have HO := hid (fun w3 (h : Below w2.heap.size w2 w3) => occur21_c n L v w3 (HNA.out.below h) hv)
      rw [hv] at HVC
      clear hv
      go_wp2_with fail
      refine HVC.out.mono ?_
      rintro e w3 ⟨rfl, hb3⟩
      have H3 := hid hb3
      obtain ⟨y0, y1⟩ := HX2.out.below hb3
      clear x0 x1 hb3
      go_wp2_with fail
      refine (HO.out w3 H3.out).mono ?_
      rintro e w4 ⟨vl, rfl, hown, hb4⟩
      have H4 := hid (H3.out.trans (hb4.mono H3.out.size))
      obtain ⟨x0, x1⟩ := HX2.out.below H4.out
      obtain ⟨pv, cv, rfl, _⟩ := hown.ints
      have hml := mems_length (litsVS L)
      obtain ⟨m, hm⟩ : ∃ m, m = (mems (litsVS L)).length := ⟨_, rfl⟩
      rw [← hm] at hml ⊢
      clear y0 y1 hb4 hown hm
      by_cases h9 : 9 < (m : Int)
      · by_cases h16 : (m : Int) ≤ 16
        · have d16 : decide ((m : Int) ≤ 16) = true := decide_eq_true h16
          have d9 : decide (9 < (m : Int)) = true := decide_eq_true h9
          go_wp2_with fail
          refine (HW.out w4 H4.out).mono ?_
          rintro e w6 ⟨rfl, hb6⟩
          have H6 := hid (H4.out.trans (hb6.mono H4.out.size))
          clear hb6
          go_wp2_with fail
          go_ret
          exact ⟨rfl, HB2.out.trans (H6.out.mono HB2.out.size)⟩
        · have d16 : decide ((m : Int) ≤ 16) = false := decide_eq_false h16
          have d9 : decide (9 < (m : Int)) = true := decide_eq_true h9
          go_wp2_with fail
          refine (HD.out w4 H4.out).mono ?_
          rintro e w5 ⟨rfl, hb5⟩
          have H5 := hid (H4.out.trans (hb5.mono H4.out.size))
          obtain ⟨y0, y1⟩ := HX2.out.below H5.out
          clear x0 x1 hb5
          go_wp2_with fail
          refine (HR.out w5 H5.out).mono ?_
          rintro e w6 ⟨rfl, hb6⟩
          have H6 := hid (H5.out.trans (hb6.mono H5.out.size))
          clear y0 y1 hb6
          go_wp2_with fail
          refine (HW.out w6 H6.out).mono ?_
          rintro e w7 ⟨rfl, hb7⟩
          have H7 := hid (H6.out.trans (hb7.mono H6.out.size))
          clear hb7
          go_wp2_with fail
          go_ret
          exact ⟨rfl, HB2.out.trans (H7.out.mono HB2.out.size)⟩
      · have d9 : decide (9 < (m : Int)) = false := decide_eq_false h9
        go_wp2_with fail
        refine (HD.out w4 H4.out).mono ?_
        rintro e w5 ⟨rfl, hb5⟩
        have H5 := hid (H4.out.trans (hb5.mono H4.out.size))
        obtain ⟨y0, y1⟩ := HX2.out.below H5.out
        clear x0 x1 hb5
        go_wp2_with fail
        refine (HR.out w5 H5.out).mono ?_
        rintro e w6 ⟨rfl, hb6⟩
        have H6 := hid (H5.out.trans (hb6.mono H5.out.size))
        clear y0 y1 hb6
        go_wp2_with fail
        refine (HW.out w6 H6.out).mono ?_
        rintro e w7 ⟨rfl, hb7⟩
        have H7 := hid (H6.out.trans (hb7.mono H6.out.size))
        clear hb7
        go_wp2_with fail
        go_ret
        exact ⟨rfl, HB2.out.trans (H7.out.mono HB2.out.size)⟩
end Go.Proofs.YtpdbfbjfodckgaaDoor
