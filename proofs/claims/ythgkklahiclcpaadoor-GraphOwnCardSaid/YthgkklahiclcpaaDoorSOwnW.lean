/- The walk of the law GraphOwn. -/
import Derived.Test.YthgkklahiclcpaaDoorSLaw3
namespace Go.Proofs.YthgkklahiclcpaaDoor
open Go.RowKit
attribute [local go_sem ↓] run_eqlS run_neqS run_eqlS0 run_neqS0

set_option maxRecDepth 100000 in
set_option maxHeartbeats 4000000 in
theorem graphOwn_walk (v : Value) (L : List VS) (w : World) (hT : TabAt w) (hI : SetsAt w v L) (hL : L.length ≤ 9223372036854775807) :
    Calls Tryd.prog 9 #[v] w (LawPost w) := by
  have hI0 := hI
  obtain ⟨p, c, rfl, hdrop⟩ := hI
  clear hdrop
  have HW := hid (fun w' (h : Below w.heap.size w w') => works_c w' (hT.below hT.lt h))
  by_cases h1 : 25 < L.length
  · have d1 : decide ((25 : Int) < (L.length : Int)) = true := decide_eq_true (by omega)
    clear hI0
    go_enter Tryd.func9, Tryd.ntmps9
    go_wp2_with fail
    refine (HW.out w (Below.refl _ _)).mono ?_
    rintro e w2 ⟨rfl, hb2⟩
    go_wp2_with fail
    go_ret
    exact ⟨rfl, hb2⟩
  · have d1 : decide ((25 : Int) < (L.length : Int)) = false := decide_eq_false (by omega)
    have hL25 : L.length ≤ 25 := by omega
    have hb1 : Below w.heap.size w (w.alloc (.cells #[] 35)) := (Below.refl _ w).alloc (Nat.le_refl _) _
    have hI1 := hI0.below hb1
    have hN1 := SetRow.none w
    have l1 := orderP_length fillC L
    go_enter Tryd.func9, Tryd.ntmps9
    go_wp2_with (at_builtin; refine wpList_append_sets rfl _ _ rfl w.heap.size rfl hN1 _ L rfl hI1 (by omega) ?_; intro g cg w2 hR2 hg2 hb2 hcl hcm)
    have hB2 := hb1.trans (hb2.mono hb1.size)
    have hI2 := hI0.below hB2
    have hS2 := hR2.sets cg
    have HM := hid (MinFill_c _ L w2 hI2 (hT.below hT.lt hB2) (by omega))
    clear hN1 hI1 hb1 hb2 h1
    refine HM.out.mono ?_
    rintro e w3 ⟨v3, rfl, hn3, hb3⟩
    have hB3 := hB2.trans (hb3.mono hB2.size)
    have hS3 := hS2.below hb3
    have hi3 := hn3.ints
    obtain ⟨p3, c3, e3, hdrop⟩ := id hi3
    subst e3
    clear hdrop hn3 hb3 hB2 hI2 hS2 hR2 HM
    have HO := hid (show orderP fillC L = orderP fillC L from rfl)
    generalize orderP fillC L = l at *
    have hbe : Below w3.heap.size w3 (w3.alloc (.cells #[] 3)) := (Below.refl _ w3).alloc (Nat.le_refl _) _
    have hi3' := hi3.below hbe
    go_wp2_with (at_builtin; refine wpList_append_ints0 rfl _ _ rfl w3.heap.size rfl _ l rfl hi3' (by omega) ?_; intro v4 w4 hi4 hb4)
    obtain ⟨p4, c4, e4, hdrop⟩ := id hi4
    subst e4
    have hb34 := hbe.trans (hb4.mono hbe.size)
    have hB4 := hB3.trans (hb34.mono hB3.size)
    have hS4 := hS3.below hb34
    have hl4 := hi3.below hb34
    have HWI := hid (Width_c _ _ L l w4 (hI0.below hB4) hl4 (hT.below hT.lt hB4) (by omega) (by omega))
    clear hdrop hbe hi3' hb4 hb34 hS3 hi3 hB3 HO
    go_wp2_with fail
    refine HWI.out.mono ?_
    rintro e w5 ⟨rfl, hb5⟩
    have hB5 := hB4.trans (hb5.mono hB4.size)
    have hS5 := hS4.below hb5
    have hl5 := hl4.below hb5
    have hi5 := hi4.below hb5
    have HWP := hid (fun w' (h : Below w.heap.size w w') (h2 : IntsAt w' (.slice p4 l.length c4) l) => rWidth_c _ _ L l w' (hI0.below h) h2 (by omega) (by omega))
    clear HWI hb5 hB4 hS4 hl4 hi4
    generalize widthP L l = X at *
    have HI5 := hid hi5
    have HL5 := hid hl5
    clear hi5 hl5
    go_wp2_with fail
    go_loopw [7] (fun i wr => ∃ k : Nat, k ≤ l.length ∧ i = .int .i64 k ∧ Below w5.heap.size w5 wr) (fun i _ => l.length - (intOf i).toNat)
    case atStart => exact ⟨0, Nat.zero_le _, rfl, Below.refl _ _⟩
    case round =>
      obtain ⟨k, hk, rfl, hB⟩ := hrel
      by_cases hkl : k < l.length
      · obtain ⟨q1, d3, e1, hm1⟩ := HL5.out
        obtain ⟨q2, d4, e2, hm2⟩ := HI5.out
        injection e1 with e1 _ e1'
        injection e2 with e2 _ e2'
        subst e1; subst e2; subst e1'; subst e2'
        obtain ⟨b1, o1, rfl, hc1⟩ := hm1.resolve_left (by intro e; rw [e] at hkl; simp at hkl)
        obtain ⟨b2, o2, rfl, hc2⟩ := hm2.resolve_left (by intro e; rw [e] at hkl; simp at hkl)
        have r1 := hc1 k hkl
        have r2 := hc2 k hkl
        have t1 := (hB.cell (p := ⟨b1, o1 + k, none⟩) (cell_lt r1)).trans r1
        have t2 := (hB.cell (p := ⟨b2, o2 + k, none⟩) (cell_lt r2)).trans r2
        have zk : (0 : Int) ≤ (k : Int) ∧ (k : Int) < (l.length : Int) := by omega
        clear hm1 hm2 hc1 hc2 r1 r2
        generalize l[k]?.getD 0 = y at *
        have hy : (y != y) = false := by simp
        go_wp2_with fail
        go_quiet (fail)
        go_wp2_with fail
        go_roundw
        case rel => exact ⟨k + 1, by omega, by go_num, below_drewN hB _⟩
        case measure => simp [intOf]; omega
      · obtain rfl : k = l.length := by omega
        have hBw := hB5.trans (hB.mono hB5.size)
        have hi6 := HI5.out.below hB
        have hs6 := hS5.below hB
        have HR := hid (HWP.out wr hBw hi6)
        clear hi6
        go_wp2_with fail
        refine HR.out.mono ?_
        rintro e w7 ⟨rfl, hb7⟩
        have hB7 := hBw.trans (hb7.mono hBw.size)
        have HSS := hid (sameSets_c _ _ L L w7 (hI0.below hB7) (hs6.below hb7) (by omega) (by omega))
        rw [decide_eq_true (rfl : L = L)] at HSS
        clear HR hb7 hBw hs6
        go_wp2_with fail
        refine HSS.out.mono ?_
        rintro e w8 ⟨rfl, hb8⟩
        have hB8 := hB7.trans (hb8.mono hB7.size)
        go_wp2_with fail
        refine (HW.out w8 hB8).mono ?_
        rintro e w9 ⟨rfl, hb9⟩
        have hB9 := hB8.trans (hb9.mono hB8.size)
        go_wp2_with fail
        go_ret
        exact ⟨rfl, hB9⟩
end Go.Proofs.YthgkklahiclcpaaDoor
