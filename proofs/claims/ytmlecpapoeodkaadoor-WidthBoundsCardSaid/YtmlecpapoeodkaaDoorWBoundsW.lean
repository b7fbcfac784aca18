/- The walk of the law WidthBounds. -/
import Derived.Test.YtmlecpapoeodkaaDoorWWorks
import Derived.Test.YtmlecpapoeodkaaDoorWLow
namespace Go.Proofs.YtmlecpapoeodkaaDoor
open Go.RowKit
attribute [local go_sem ↓] run_eqlS run_neqS run_eqlS0 run_neqS0

theorem fewB_yes {B : List VS} {U : List Int} (h : fewB B U = true) : B.length ≤ 100 ∧ U.length ≤ 100 := by
  unfold fewB at h
  rw [Bool.and_eq_true, decide_eq_true_eq, decide_eq_true_eq] at h
  exact h
theorem widthT_range (B : List VS) : -1 ≤ widthT B ∧ widthT B ≤ 127 := by
  unfold widthT
  have := mostL_range B
  split <;> omega
set_option maxRecDepth 100000 in
set_option maxHeartbeats 8000000 in
theorem widthBounds_walk (v : Value) (L : List VS) (x y : Value) (B : List VS) (U : List Int) (v2 : Value) (l : List Int) (w : World) (hT : TabAt w) (hI : SetsAt w v L) (hL : L.length ≤ 9223372036854775807)
    (hx : SetsAt w x B) (hy : IntsAt w y U) (hB : B.length ≤ 9223372036854775807) (hU : U.length ≤ 9223372036854775807) (hJ : IntsAt w v2 l) (hl : l.length ≤ 9223372036854775807) :
    Calls Tryd.prog 8 #[v, .agg #[x, y], v2] w (LawPost w) := by
  have HW := hid (fun w' (h : Below w.heap.size w w') => works_c w' (hT.below hT.lt h))
  have HI := hid (fun w' (h : Below w.heap.size w w') => hI.below h)
  have HJ := hid (fun w' (h : Below w.heap.size w w') => hJ.below h)
  have HX := hid (fun w' (h : Below w.heap.size w w') => hx.below h)
  have HY := hid (fun w' (h : Below w.heap.size w w') => hy.below h)
  obtain ⟨p, c, rfl, hdrop⟩ := id hI
  obtain ⟨p2, c2, rfl, hdrop2⟩ := id hJ
  obtain ⟨p3, c3, rfl, hdrop3⟩ := id hx
  obtain ⟨p4, c4, rfl, hdrop4⟩ := id hy
  clear hdrop hdrop2 hdrop3 hdrop4 hI hJ hx hy
  have hB0 : Below w.heap.size w (w.alloc (.cells #[.slice p3 B.length c3, .slice p4 U.length c4] 33)) := (Below.refl _ w).alloc (Nat.le_refl _) _
  have b0 := Box2.new w 33 (.slice p3 B.length c3) (.slice p4 U.length c4)
  obtain ⟨d0, d1, _, _⟩ := b0.cells
  have HF := hid (few_c _ _ B U _ (HX.out _ hB0) (HY.out _ hB0))
  by_cases h1 : 200 < L.length
  · have e1 : decide ((200 : Int) < (L.length : Int)) = true := decide_eq_true (by omega)
    clear h1 HF
    go_enter Tryd.func8, Tryd.ntmps8
    go_wp2_with fail
    refine (HW.out _ hB0).mono ?_
    rintro e w2 ⟨rfl, hb2⟩
    have hB2 := hB0.trans (hb2.mono hB0.size)
    go_wp2_with fail
    go_ret
    exact ⟨rfl, hB2⟩
  · have e1 : decide ((200 : Int) < (L.length : Int)) = false := decide_eq_false (by omega)
    have hL2 : L.length ≤ 200 := by omega
    clear h1
    go_enter Tryd.func8, Tryd.ntmps8
    go_wp2_with fail
    refine HF.out.mono ?_
    rintro e w2 ⟨rfl, hb2⟩
    have hB2 := hB0.trans (hb2.mono hB0.size)
    have b2 := b0.below hb2 b0.lt
    clear d0 d1 b0 hb2 hB0 HF
    cases hf : fewB B U
    · clear hf
      go_wp2_with fail
      refine (HW.out _ hB2).mono ?_
      rintro e w3 ⟨rfl, hb3⟩
      have hB3 := hB2.trans (hb3.mono hB2.size)
      go_wp2_with fail
      go_ret
      exact ⟨rfl, hB3⟩
    · obtain ⟨hb100, hu100⟩ := fewB_yes hf
      clear hf
      by_cases h2 : (200 : Int) < (l.length : Int)
      · go_wp2_with fail
        refine (HW.out _ hB2).mono ?_
        rintro e w3 ⟨rfl, hb3⟩
        have hB3 := hB2.trans (hb3.mono hB2.size)
        go_wp2_with fail
        go_ret
        exact ⟨rfl, hB3⟩
      · have hl2 : l.length ≤ 200 := by omega
        have HLO := hid (Lower_c _ L w2 (HI.out _ hB2) (hT.below hT.lt hB2) (by omega))
        go_wp2_with fail
        refine HLO.out.mono ?_
        rintro e w3 ⟨rfl, hb3⟩
        have hB3 := hB2.trans (hb3.mono hB2.size)
        have b3 := b2.below hb3 b2.lt
        obtain ⟨d0, d1, _, _⟩ := b3.cells
        have HGV := hid (given_c _ _ B U w3 (HX.out _ hB3) (HY.out _ hB3) (by omega) (by omega))
        have HBD := hid (fun (h : checkW L B U = 0) => bound (checkW_ok.1 h))
        have HBO := hid (fun (hv : ValidG L) (ho : IsOrd l (L.length - 1)) => bound (deco_of hv ho))
        generalize hlow : lowerP L = low at *
        clear h2 b2 hb3 hB2 HLO
        go_wp2_with fail
        refine HGV.out.mono ?_
        rintro e w4 ⟨x2, y2, rfl, ho1, ho2, hb4⟩
        have hX4 := ho1.sets
        have hY4 := ho2.ints
        obtain ⟨q3, g3, rfl, _⟩ := ho1.sets
        obtain ⟨q4, g4, rfl, _⟩ := ho2.ints
        have hba : Below w4.heap.size w4 (w4.alloc (.cells #[.slice q3 B.length g3, .slice q4 U.length g4] 25)) := (Below.refl _ w4).alloc (Nat.le_refl _) _
        have hB4 := hB3.trans (hb4.mono hB3.size)
        have hB5 := hB4.trans (hba.mono hB4.size)
        have b5 := Box2.new w4 25 (.slice q3 B.length g3) (.slice q4 U.length g4)
        obtain ⟨a0, a1, _, _⟩ := b5.cells
        have HX5 := hid (hX4.below hba)
        have HCK := hid (Check_c _ _ _ L B U _ (HI.out _ hB5) (hX4.below hba) (hY4.below hba) (hT.below hT.lt hB5) (by omega) (by omega) (by omega))
        clear ho1 ho2 hX4 hY4 hba hB4 hb4 hB3 d0 d1 b3 HGV
        go_wp2_with fail
        generalize w4.alloc (.cells #[.slice q3 B.length g3, .slice q4 U.length g4] 25) = w5 at *
        refine HCK.out.mono ?_
        rintro e w6 ⟨rfl, hb6⟩
        have hB6 := hB5.trans (hb6.mono hB5.size)
        have b6 := b5.below hb6 b5.lt
        have HX6 := hid (HX5.out.below hb6)
        clear a0 a1 b5 hb6 hB5 HX5 HCK
        by_cases hck : checkW L B U = 0
        · have hbd := HBD.out hck
          have HWI := hid (wWidth_c _ (.slice q4 U.length g4) B w6 HX6.out (by omega))
          obtain ⟨a0, a1, _, _⟩ := b6.cells
          generalize widthT B = wb at *
          generalize checkW L B U = ck at *
          subst hck
          clear HBD HX6
          go_wp2_with fail
          refine HWI.out.mono ?_
          rintro e w7 ⟨rfl, hb7⟩
          have hB7 := hB6.trans (hb7.mono hB6.size)
          have hnl : ¬ wb < low := by omega
          clear a0 a1 b6 hb7 hB6 HWI
          have HO := hid (Of_tree_c _ _ L l w7 (HI.out _ hB7) (HJ.out _ hB7) (hT.below hT.lt hB7) (by omega) (by omega))
          go_wp2_with fail
          refine HO.out.mono ?_
          rintro e w8 ⟨hb8, hpost⟩
          have hB8 := hB7.trans (hb8.mono hB7.size)
          clear HO
          rcases hpost with ⟨_, rfl⟩ | ⟨_, _, rfl⟩ | ⟨hv, ho, vB, vU, rfl, hoB, hoU⟩
          · have hB9 := hB8.trans (((Below.refl _ w8).alloc (Nat.le_refl _) (.cells #[.slice none 0 0, .slice none 0 0] 25)).mono hB8.size)
            go_wp2_with fail
            refine (HW.out _ hB9).mono ?_
            rintro e w10 ⟨rfl, hb10⟩
            have hB10 := hB9.trans (hb10.mono hB9.size)
            go_wp2_with fail
            go_ret
            exact ⟨rfl, hB10⟩
          · have hB9 := hB8.trans (((Below.refl _ w8).alloc (Nat.le_refl _) (.cells #[.slice none 0 0, .slice none 0 0] 25)).mono hB8.size)
            go_wp2_with fail
            refine (HW.out _ hB9).mono ?_
            rintro e w10 ⟨rfl, hb10⟩
            have hB10 := hB9.trans (hb10.mono hB9.size)
            go_wp2_with fail
            go_ret
            exact ⟨rfl, hB10⟩
          · have hbd2 := HBO.out hv ho
            have hX8 := hoB.sets
            have hbl : (bagsP (gOf L) l).length ≤ 200 := by rw [bagsP_length]; exact hl2
            obtain ⟨pB, cB, rfl, _⟩ := hoB.sets
            obtain ⟨pU, cU, rfl, _⟩ := hoU.ints
            have hba : Below w8.heap.size w8 (w8.alloc (.cells #[.slice pB (bagsP (gOf L) l).length cB, .slice pU (upsP (gOf L) l).length cU] 25)) := (Below.refl _ w8).alloc (Nat.le_refl _) _
            have hB9 := hB8.trans (hba.mono hB8.size)
            have b9 := Box2.new w8 25 (.slice pB (bagsP (gOf L) l).length cB) (.slice pU (upsP (gOf L) l).length cU)
            obtain ⟨a0, a1, _, _⟩ := b9.cells
            have HWI := hid (wWidth_c _ (.slice pU (upsP (gOf L) l).length cU) (bagsP (gOf L) l) _ (hX8.below hba) (by omega))
            generalize widthT (bagsP (gOf L) l) = wt at *
            clear hX8 hoB hoU hba hv ho hb8 hB8
            go_wp2_with fail
            generalize w8.alloc (.cells #[.slice pB (bagsP (gOf L) l).length cB, .slice pU (upsP (gOf L) l).length cU] 25) = w9 at *
            refine HWI.out.mono ?_
            rintro e w10 ⟨rfl, hb10⟩
            have hB10 := hB9.trans (hb10.mono hB9.size)
            go_wp2_with fail
            refine (HW.out _ hB10).mono ?_
            rintro e w11 ⟨rfl, hb11⟩
            have hB11 := hB10.trans (hb11.mono hB10.size)
            go_wp2_with fail
            go_ret
            exact ⟨rfl, hB11⟩
        · have hk1 : (checkW L B U == 0) = false := by rw [beq_eq_false_iff_ne]; exact hck
          generalize checkW L B U = ck at *
          clear HBD HX6
          have HO := hid (Of_tree_c _ _ L l w6 (HI.out _ hB6) (HJ.out _ hB6) (hT.below hT.lt hB6) (by omega) (by omega))
          go_wp2_with fail
          refine HO.out.mono ?_
          rintro e w8 ⟨hb8, hpost⟩
          have hB8 := hB6.trans (hb8.mono hB6.size)
          clear HO
          rcases hpost with ⟨_, rfl⟩ | ⟨_, _, rfl⟩ | ⟨hv, ho, vB, vU, rfl, hoB, hoU⟩
          · have hB9 := hB8.trans (((Below.refl _ w8).alloc (Nat.le_refl _) (.cells #[.slice none 0 0, .slice none 0 0] 25)).mono hB8.size)
            go_wp2_with fail
            refine (HW.out _ hB9).mono ?_
            rintro e w10 ⟨rfl, hb10⟩
            have hB10 := hB9.trans (hb10.mono hB9.size)
            go_wp2_with fail
            go_ret
            exact ⟨rfl, hB10⟩
          · have hB9 := hB8.trans (((Below.refl _ w8).alloc (Nat.le_refl _) (.cells #[.slice none 0 0, .slice none 0 0] 25)).mono hB8.size)
            go_wp2_with fail
            refine (HW.out _ hB9).mono ?_
            rintro e w10 ⟨rfl, hb10⟩
            have hB10 := hB9.trans (hb10.mono hB9.size)
            go_wp2_with fail
            go_ret
            exact ⟨rfl, hB10⟩
          · have hbd2 := HBO.out hv ho
            have hX8 := hoB.sets
            have hbl : (bagsP (gOf L) l).length ≤ 200 := by rw [bagsP_length]; exact hl2
            obtain ⟨pB, cB, rfl, _⟩ := hoB.sets
            obtain ⟨pU, cU, rfl, _⟩ := hoU.ints
            have hba : Below w8.heap.size w8 (w8.alloc (.cells #[.slice pB (bagsP (gOf L) l).length cB, .slice pU (upsP (gOf L) l).length cU] 25)) := (Below.refl _ w8).alloc (Nat.le_refl _) _
            have hB9 := hB8.trans (hba.mono hB8.size)
            have b9 := Box2.new w8 25 (.slice pB (bagsP (gOf L) l).length cB) (.slice pU (upsP (gOf L) l).length cU)
            obtain ⟨a0, a1, _, _⟩ := b9.cells
            have HWI := hid (wWidth_c _ (.slice pU (upsP (gOf L) l).length cU) (bagsP (gOf L) l) _ (hX8.below hba) (by omega))
            generalize widthT (bagsP (gOf L) l) = wt at *
            clear hX8 hoB hoU hba hv ho hb8 hB8
            go_wp2_with fail
            generalize w8.alloc (.cells #[.slice pB (bagsP (gOf L) l).length cB, .slice pU (upsP (gOf L) l).length cU] 25) = w9 at *
            refine HWI.out.mono ?_
            rintro e w10 ⟨rfl, hb10⟩
            have hB10 := hB9.trans (hb10.mono hB9.size)
            go_wp2_with fail
            refine (HW.out _ hB10).mono ?_
            rintro e w11 ⟨rfl, hb11⟩
            have hB11 := hB10.trans (hb11.mono hB10.size)
            go_wp2_with fail
            go_ret
            exact ⟨rfl, hB11⟩
end Go.Proofs.YtmlecpapoeodkaaDoor
