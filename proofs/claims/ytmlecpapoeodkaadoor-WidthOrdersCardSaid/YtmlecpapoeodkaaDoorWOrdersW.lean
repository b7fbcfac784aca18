/- The walk of the law WidthOrders. -/
import Derived.Test.YtmlecpapoeodkaaDoorWWorks
namespace Go.Proofs.YtmlecpapoeodkaaDoor
open Go.RowKit
attribute [local go_sem ↓] run_eqlS run_neqS run_eqlS0 run_neqS0

set_option maxRecDepth 100000 in
set_option maxHeartbeats 8000000 in
theorem widthOrders_walk (v : Value) (L : List VS) (v2 : Value) (l : List Int) (w : World) (hT : TabAt w) (hI : SetsAt w v L) (hL : L.length ≤ 9223372036854775807) (hJ : IntsAt w v2 l) (hl : l.length ≤ 9223372036854775807) :
    Calls Tryd.prog 10 #[v, v2] w (LawPost w) := by
  have HW := hid (fun w' (h : Below w.heap.size w w') => works_c w' (hT.below hT.lt h))
  have HI := hid (fun w' (h : Below w.heap.size w w') => hI.below h)
  have HJ := hid (fun w' (h : Below w.heap.size w w') => hJ.below h)
  obtain ⟨p, c, rfl, hdrop⟩ := id hI
  obtain ⟨p2, c2, rfl, hdrop2⟩ := id hJ
  clear hdrop hdrop2
  by_cases h1 : 200 < L.length
  · have d1 : decide ((200 : Int) < (L.length : Int)) = true := decide_eq_true (by omega)
    clear hI hJ
    go_enter Tryd.func10, Tryd.ntmps10
    go_wp2_with fail
    refine (HW.out w (Below.refl _ _)).mono ?_
    rintro e w2 ⟨rfl, hb2⟩
    go_wp2_with fail
    go_ret
    exact ⟨rfl, hb2⟩
  · have d1 : decide ((200 : Int) < (L.length : Int)) = false := decide_eq_false (by omega)
    by_cases h2 : (200 : Int) < (l.length : Int)
    · clear hI hJ h1
      go_enter Tryd.func10, Tryd.ntmps10
      go_wp2_with fail
      refine (HW.out w (Below.refl _ _)).mono ?_
      rintro e w2 ⟨rfl, hb2⟩
      go_wp2_with fail
      go_ret
      exact ⟨rfl, hb2⟩
    · have HO := hid (Of_tree_c _ _ L l w hI hJ hT (by omega) (by omega))
      have hL2 : L.length ≤ 200 := by omega
      have hl2 : l.length ≤ 200 := by omega
      clear hI hJ h1
      go_enter Tryd.func10, Tryd.ntmps10
      go_wp2_with fail
      refine HO.out.mono ?_
      rintro e w2 ⟨hb2, hpost⟩
      clear HO d1 h2
      rcases hpost with ⟨hv, rfl⟩ | ⟨hv, ho, rfl⟩ | ⟨hv, ho, vB, vU, rfl, hoB, hoU⟩
      · have hb3 := hb2.trans (((Below.refl _ w2).alloc (Nat.le_refl _) (.cells #[.slice none 0 0, .slice none 0 0] 25)).mono hb2.size)
        obtain ⟨c0, c1, _, _⟩ := (Box2.new w2 25 (.slice none 0 0) (.slice none 0 0)).cells
        go_wp2_with fail
        refine (HW.out _ hb3).mono ?_
        rintro e w4 ⟨rfl, hb4⟩
        have hB4 := hb3.trans (hb4.mono hb3.size)
        go_wp2_with fail
        go_ret
        exact ⟨rfl, hB4⟩
      · have hb3 := hb2.trans (((Below.refl _ w2).alloc (Nat.le_refl _) (.cells #[.slice none 0 0, .slice none 0 0] 25)).mono hb2.size)
        obtain ⟨c0, c1, _, _⟩ := (Box2.new w2 25 (.slice none 0 0) (.slice none 0 0)).cells
        go_wp2_with fail
        refine (HW.out _ hb3).mono ?_
        rintro e w4 ⟨rfl, hb4⟩
        have hB4 := hb3.trans (hb4.mono hb3.size)
        go_wp2_with fail
        go_ret
        exact ⟨rfl, hB4⟩
      · have hX2 := hoB.sets
        have hY2 := hoU.ints
        obtain ⟨pB, cB, rfl, _⟩ := hoB.sets
        obtain ⟨pU, cU, rfl, _⟩ := hoU.ints
        have hlen := ord_len hv ho
        have hbl : (bagsP (gOf L) l).length = l.length := bagsP_length _ _
        have hck := checkW_ok.2 (deco_of hv ho)
        have hwp : 1 ≤ l.length → widthT (bagsP (gOf L) l) = widthP L l := fun h => by
          rw [width_of hv ho h]
          unfold widthP
          rw [if_pos ⟨validG_yes hv, hlen, by have := ((isOrd_iff (by have := hv.le; omega)).2 ho).2; rwa [show ((L.length - 1 : Nat) : Int) = (l.length : Int) by omega] at this⟩]
        have hba : Below w2.heap.size w2 (w2.alloc (.cells #[.slice pB (bagsP (gOf L) l).length cB, .slice pU (upsP (gOf L) l).length cU] 25)) := (Below.refl _ w2).alloc (Nat.le_refl _) _
        have hB3 := hb2.trans (hba.mono hb2.size)
        have b3 := Box2.new w2 25 (.slice pB (bagsP (gOf L) l).length cB) (.slice pU (upsP (gOf L) l).length cU)
        have hul : (upsP (gOf L) l).length = l.length := upsP_length _ _
        have HC := hid (Check_c _ _ _ L (bagsP (gOf L) l) (upsP (gOf L) l) _ (HI.out _ hB3) (hX2.below hba) (hY2.below hba) (hT.below hT.lt hB3) (by omega) (by omega) (by omega))
        rw [hck] at HC
        have HX3 := hid (hX2.below hba)
        have HWP := hid hwp
        have HBL := hid hbl
        have e1 : (((bagsP (gOf L) l).length : Int) == (L.length : Int) - 1) = true := by rw [hbl, beq_iff_eq]; omega
        have e2 : ((bagsP (gOf L) l).length : Int) = (L.length : Int) - 1 := by omega
        obtain ⟨c0, c1, _, _⟩ := b3.cells
        clear hck hwp hX2 hY2 hoB hoU hba hul hv ho hb2 hbl
        go_wp2_with fail
        generalize w2.alloc (.cells #[.slice pB (bagsP (gOf L) l).length cB, .slice pU (upsP (gOf L) l).length cU] 25) = w3 at *
        refine HC.out.mono ?_
        rintro e w4 ⟨rfl, hb4⟩
        have hB4 := hB3.trans (hb4.mono hB3.size)
        have b4 := b3.below hb4 b3.lt
        obtain ⟨d0, d1, _, _⟩ := b4.cells
        have HX4 := hid (HX3.out.below hb4)
        clear c0 c1 b3 hb4 hB3 HC
        by_cases hn1 : L.length = 1
        · have f1 : ((L.length : Int) == 1) = true := by rw [hn1]; rfl
          have f2 : (L.length : Int) = 1 := by omega
          clear hn1
          go_wp2_with fail
          refine (HW.out _ hB4).mono ?_
          rintro e w5 ⟨rfl, hb5⟩
          have hB5 := hB4.trans (hb5.mono hB4.size)
          go_wp2_with fail
          go_ret
          exact ⟨rfl, hB5⟩
        · have f1 : ((L.length : Int) == 1) = false := by rw [beq_eq_false_iff_ne]; omega
          have f2 : ¬ (L.length : Int) = 1 := by omega
          have hln : 1 ≤ l.length := by omega
          have HWI := hid (wWidth_c _ (.slice pU (upsP (gOf L) l).length cU) (bagsP (gOf L) l) w4 HX4.out (by rw [HBL.out]; omega))
          rw [HWP.out hln] at HWI
          clear hn1 hln
          go_wp2_with fail
          refine HWI.out.mono ?_
          rintro e w5 ⟨rfl, hb5⟩
          have hB5 := hB4.trans (hb5.mono hB4.size)
          have HGW := hid (Width_c _ _ L l w5 (HI.out _ hB5) (HJ.out _ hB5) (hT.below hT.lt hB5) (by omega) (by omega))
          clear HWI HX4 d0 d1 b4
          go_wp2_with fail
          refine HGW.out.mono ?_
          rintro e w6 ⟨rfl, hb6⟩
          have hB6 := hB5.trans (hb6.mono hB5.size)
          go_wp2_with fail
          refine (HW.out _ hB6).mono ?_
          rintro e w7 ⟨rfl, hb7⟩
          have hB7 := hB6.trans (hb7.mono hB6.size)
          go_wp2_with fail
          go_ret
          exact ⟨rfl, hB7⟩
end Go.Proofs.YtmlecpapoeodkaaDoor
