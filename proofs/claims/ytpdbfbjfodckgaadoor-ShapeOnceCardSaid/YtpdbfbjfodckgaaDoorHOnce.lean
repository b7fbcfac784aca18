/- The walk of the law ShapeOnce. -/
import Derived.Test.YtpdbfbjfodckgaaDoorHLaw
import Derived.Test.YtpdbfbjfodckgaaDoorHSame
import Derived.Test.YtpdbfbjfodckgaaDoorHInv4
namespace Go.Proofs.YtpdbfbjfodckgaaDoor
open Go.RowKit

set_option maxRecDepth 100000 in
set_option maxHeartbeats 4000000 in
theorem shapeOnce_walk (n : Int) (L : List NodeT) (v : Value) (w : World) (hT : TabAt w) (hP : PatAt w) (hN : NodesIn w v L) (hl : L.length ≤ 9223372036854775807) :
    Calls Tryd.prog 3 #[.agg #[.int .i64 n, v]] w (LawPost w) := by
  have hB1 : Below w.heap.size w (w.alloc (.cells #[.int .i64 n, v] 24)) := (Below.refl _ w).alloc (Nat.le_refl _) _
  have HX := hid (NetVar.new w n v 24)
  have HN := hid (hN.below hB1)
  have HLI := hid (light_c 100 n L v _ (hN.below hB1) hl)
  have HT := hid (hT.below hT.lt hB1)
  have HP := hid (hP.below hP.lt hB1)
  have HB1 := hid hB1
  obtain ⟨x0, x1⟩ := HX.out
  clear hT hP hN hB1
  go_enter Tryd.func3, Tryd.ntmps3
  go_wp2_with fail
  refine HLI.out.mono ?_
  rintro e w2 ⟨rfl, hb2⟩
  clear x0 x1
  obtain ⟨x0, x1⟩ := HX.out.below hb2
  have HX2 := hid (HX.out.below hb2)
  have HN2 := hid (HN.out.below hb2)
  have HT2 := hid (HT.out.below HT.out.lt hb2)
  have HP2 := hid (HP.out.below HP.out.lt hb2)
  have HB2 := hid (HB1.out.trans (hb2.mono HB1.out.size))
  clear hb2 HX HN HLI HT HP HB1
  cases hL : lightB 100 L
  · go_wp2_with fail
    refine (works_c w2 HT2.out HP2.out).mono ?_
    rintro e w3 ⟨rfl, hb3⟩
    go_wp2_with fail
    go_ret
    exact ⟨rfl, HB2.out.trans (hb3.mono HB2.out.size)⟩
  obtain ⟨hlen, hins⟩ := light_len hL
  have HNA := hid (HN2.out.nodes fun x hx => by have := hins x hx; omega)
  have lb : w.heap.size < w2.heap.size := cell_lt x0
  clear HN2 hL
  cases hv : validNet ⟨n, L⟩
  · have HSM := hid (Smoothed_bad n L v w2 HNA.out hv)
    go_wp2_with fail
    refine HSM.out.mono ?_
    rintro e w3 ⟨rfl, hb3⟩
    have hb4 : Below w3.heap.size w3 (w3.alloc (.cells #[.int .i64 0, .slice none 0 0] 24)) := (Below.refl _ w3).alloc (Nat.le_refl _) _
    have h24 := hb3.trans (hb4.mono hb3.size)
    have HCK := hid (Check_c n L v (w3.alloc (.cells #[.int .i64 0, .slice none 0 0] 24)) (HNA.out.below h24))
    have HT4 := hid (HT2.out.below HT2.out.lt h24)
    have HP4 := hid (HP2.out.below HP2.out.lt h24)
    have HB4 := hid (HB2.out.trans (h24.mono HB2.out.size))
    have HZ4 := hid (NetVar.new w3 0 (.slice none 0 0) 24)
    have hck : checkNo ⟨n, L⟩ = 1 := checkNo_f hv
    clear x0 x1
    obtain ⟨x0, x1⟩ := HX2.out.below h24
    obtain ⟨y0, y1⟩ := HX2.out.below hb3
    have lb3 := Nat.lt_of_lt_of_le lb hb3.size
    clear hb3 hb4 h24 HSM HNA HX2 HT2 HP2 HB2 hv
    go_wp2_with fail
    refine HCK.out.mono ?_
    rintro e w5 ⟨rfl, hb5⟩
    rw [hck]
    obtain ⟨z0, z1⟩ := HZ4.out.below hb5
    have HT5 := hid (HT4.out.below HT4.out.lt hb5)
    have HP5 := hid (HP4.out.below HP4.out.lt hb5)
    have HB5 := hid (HB4.out.trans (hb5.mono HB4.out.size))
    clear hb5 HCK hck HT4 HP4 HB4 x0 x1 y0 y1
    go_wp2_with fail
    refine (works_c w5 HT5.out HP5.out).mono ?_
    rintro e w6 ⟨rfl, hb6⟩
    go_wp2_with fail
    go_ret
    exact ⟨rfl, HB5.out.trans (hb6.mono HB5.out.size)⟩
  have hll : L.length ≤ 100 := by omega
  have hsl : (smT L).length ≤ 65536 := by
    have := smT_len hins
    have : L.length * (40 + 1) ≤ 100 * 41 := Nat.mul_le_mul hll (Nat.le_refl _)
    omega
  have hsv := smT_valid hv hsl
  have hss := smT_smooth hv
  have hid2 : smT (smT L) = smT L := smT_id hsv hss
  have hsi : ∀ x ∈ smT L, x.ins.length ≤ 65536 := fun x hx => by have := smT_short (m := 40) (by omega) hins x hx; omega
  have HSM := hid (Smoothed_c n L v w2 HNA.out hv HT2.out hsl (fun x hx => by have := hins x hx; omega))
  have HSAME := hid (show smoothB L = true → smT L = L from smT_id hv)
  have HSL := hid hsl
  have HSV := hid hsv
  have HID := hid hid2
  have HSI := hid hsi
  have HV := hid hv
  have HLL := hid hll
  clear hsl hsv hss hid2 hsi hv hll hlen hins
  go_wp2_with fail
  refine HSM.out.mono ?_
  rintro e w3 ⟨vs, us, rfl, ho3, hb3⟩
  have hs3 := ho3.nodes
  generalize hSS : smT L = S at *
  have HSS := hid hSS
  clear hSS ho3 HSM
  obtain ⟨ps, cs, rfl⟩ : ∃ p c, vs = .slice p S.length c := by obtain ⟨p, c, e, _⟩ := hs3; exact ⟨p, c, e⟩
  have hb4 : Below w3.heap.size w3 (w3.alloc (.cells #[.int .i64 n, .slice ps S.length cs] 24)) := (Below.refl _ w3).alloc (Nat.le_refl _) _
  have h24 := hb3.trans (hb4.mono hb3.size)
  have HT4 := hid (HT2.out.below HT2.out.lt h24)
  have HP4 := hid (HP2.out.below HP2.out.lt h24)
  have HB4 := hid (HB2.out.trans (h24.mono HB2.out.size))
  have HNA4 := hid (HNA.out.below h24)
  have HX4 := hid (HX2.out.below h24)
  have HZ4 := hid (NetVar.new w3 n (.slice ps S.length cs) 24)
  have HS4 := hid (hs3.below hb4)
  have HSM := hid (Smoothed_c n S _ _ HS4.out HSV.out HT4.out (by rw [HID.out]; exact HSL.out) HSI.out)
  have lb3 := Nat.lt_of_lt_of_le lb hb3.size
  clear x0 x1 hb3 hb4 h24 hs3 HNA HX2 HT2 HP2 HB2
  obtain ⟨x0, x1⟩ := HZ4.out
  go_wp2_with fail
  refine HSM.out.mono ?_
  rintro e w5 ⟨vt, ut, rfl, ho5, hb5⟩
  rw [HID.out] at ho5
  have ht5 := ho5.nodes
  clear ho5
  obtain ⟨pt, ct, rfl⟩ : ∃ p c, vt = .slice p S.length c := by obtain ⟨p, c, e, _⟩ := ht5; exact ⟨p, c, e⟩
  have hb6 : Below w5.heap.size w5 (w5.alloc (.cells #[.int .i64 n, .slice pt S.length ct] 24)) := (Below.refl _ w5).alloc (Nat.le_refl _) _
  have h46 := hb5.trans (hb6.mono hb5.size)
  have HT6 := hid (HT4.out.below HT4.out.lt h46)
  have HP6 := hid (HP4.out.below HP4.out.lt h46)
  have HB6 := hid (HB4.out.trans (h46.mono HB4.out.size))
  have HNA6 := hid (HNA4.out.below h46)
  have HX6 := hid (HX4.out.below h46)
  have HZ6 := hid (HZ4.out.below h46)
  have HS6 := hid (HS4.out.below h46)
  have HY6 := hid (NetVar.new w5 n (.slice pt S.length ct) 24)
  have hlS : S.length ≤ 140737488355328 := by have := HSL.out; omega
  have HSAM := hid (Same_c n n S S _ _ _ HS6.out (ht5.below hb6) hlS)
  clear x0 x1
  obtain ⟨z0, z1⟩ := HZ4.out.below hb5
  obtain ⟨x0, x1⟩ := HZ6.out
  obtain ⟨y0, y1⟩ := HY6.out
  have lz : w3.heap.size < w5.heap.size := cell_lt z0
  clear hb5 hb6 h46 ht5 HSM HNA4 HX4 HZ4 HT4 HP4 HB4 HS4
  rw [decide_eq_true rfl] at HSAM
  go_wp2_with fail
  refine HSAM.out.mono ?_
  rintro e w7 ⟨rfl, hb7⟩
  clear x0 x1 y0 y1 z0 z1
  have HT7 := hid (HT6.out.below HT6.out.lt hb7)
  have HP7 := hid (HP6.out.below HP6.out.lt hb7)
  have HB7 := hid (HB6.out.trans (hb7.mono HB6.out.size))
  have HNA7 := hid (HNA6.out.below hb7)
  have HX7 := hid (HX6.out.below hb7)
  have HZ7 := hid (HZ6.out.below hb7)
  have HS7 := hid (HS6.out.below hb7)
  have HSMO := hid (Smooth_c n L v w7 HNA7.out)
  obtain ⟨x0, x1⟩ := HX7.out
  clear hb7 HSAM HT6 HP6 HB6 HNA6 HX6 HZ6 HS6 HY6
  go_wp2_with fail
  refine HSMO.out.mono ?_
  rintro e w8 ⟨rfl, hb8⟩
  clear x0 x1
  have HT8 := hid (HT7.out.below HT7.out.lt hb8)
  have HP8 := hid (HP7.out.below HP7.out.lt hb8)
  have HB8 := hid (HB7.out.trans (hb8.mono HB7.out.size))
  have HNA8 := hid (HNA7.out.below hb8)
  have HX8 := hid (HX7.out.below hb8)
  have HZ8 := hid (HZ7.out.below hb8)
  have HS8 := hid (HS7.out.below hb8)
  obtain ⟨x0, x1⟩ := HX8.out
  obtain ⟨z0, z1⟩ := HZ8.out
  clear hb8 HSMO HT7 HP7 HB7 HNA7 HX7 HZ7 HS7
  rw [HV.out, Bool.true_and]
  cases hsm : smoothB L
  · clear hsm
    go_wp2_with fail
    refine (works_c w8 HT8.out HP8.out).mono ?_
    rintro e w9 ⟨rfl, hb9⟩
    go_wp2_with fail
    go_ret
    exact ⟨rfl, HB8.out.trans (hb9.mono HB8.out.size)⟩
  · have hSL : S = L := HSAME.out hsm
    have HSAM := hid (Same_c n n L S _ _ _ HNA8.out HS8.out (by have := HLL.out; omega))
    rw [hSL, decide_eq_true rfl] at HSAM
    have HSL2 := hid hSL
    clear hSL hsm
    go_wp2_with fail
    refine Calls.mono (by have := HSAM.out; rw [← HSL2.out] at this; first | exact this | exact HSAM.out) ?_
    rintro e w9 ⟨rfl, hb9⟩
    have HT9 := hid (HT8.out.below HT8.out.lt hb9)
    have HP9 := hid (HP8.out.below HP8.out.lt hb9)
    have HB9 := hid (HB8.out.trans (hb9.mono HB8.out.size))
    clear hb9 HT8 HP8 HB8 x0 x1 z0 z1
    go_wp2_with fail
    refine (works_c w9 HT9.out HP9.out).mono ?_
    rintro e w10 ⟨rfl, hb10⟩
    go_wp2_with fail
    go_ret
    exact ⟨rfl, HB9.out.trans (hb10.mono HB9.out.size)⟩
end Go.Proofs.YtpdbfbjfodckgaaDoor
