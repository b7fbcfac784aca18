/- The walk of the law WidthSmaller. -/
import Derived.Test.YtmlecpapoeodkaaDoorWWorks
import Derived.Test.YtmlecpapoeodkaaDoorWMg
namespace Go.Proofs.YtmlecpapoeodkaaDoor
open Go.RowKit
attribute [local go_sem ↓] run_eqlS run_neqS run_eqlS0 run_neqS0

theorem fewB_yes {B : List VS} {U : List Int} (h : fewB B U = true) : B.length ≤ 100 ∧ U.length ≤ 100 := by
  unfold fewB at h
  rw [Bool.and_eq_true, decide_eq_true_eq, decide_eq_true_eq] at h
  exact h
/-- What merging a decomposition makes. -/
structure MergeGood (L B : List VS) (U : List Int) (B2 : List VS) (U2 : List Int) : Prop where
  check : checkW L B2 U2 = 0
  width : widthT B2 = widthT B
  le : B2.length ≤ B.length
  len : U2.length = B2.length
  apart : Apart B2 U2 B2.length
  range : ∀ k : Nat, k < B2.length → -1 ≤ upF U2 (k : Int) ∧ upF U2 (k : Int) < (B2.length : Int)
  again : ∀ B3 U3, ((formedB B2.length U2 = false ∧ B3 = B2 ∧ U3 = U2) ∨ (formedB B2.length U2 = true ∧ MRun B2 U2 0 B3 U3)) → B3 = B2 ∧ U3 = U2
theorem MergeGood.of {L B : List VS} {U : List Int} {B2 : List VS} {U2 : List Int} (hc : checkW L B U = 0) (h : (formedB B.length U = false ∧ B2 = B ∧ U2 = U) ∨ (formedB B.length U = true ∧ MRun B U 0 B2 U2)) : MergeGood L B U B2 U2 := by
  have hd := checkW_ok.1 hc
  have hr : MRun B U 0 B2 U2 := by
    rcases h with ⟨a, _, _⟩ | ⟨_, b⟩
    · rw [formedB_iff.2 hd.formed] at a; cases a
    · exact b
  obtain ⟨h1, h2, h3, h4⟩ := hr.good hd (fun k hk => by omega)
  refine ⟨checkW_ok.2 h1, h3, h4, h1.formed.len, h2, fun k hk => h1.formed.range (k : Int) (by omega) (by omega), fun B3 U3 h => ?_⟩
  rcases h with ⟨a, _, _⟩ | ⟨_, b⟩
  · rw [formedB_iff.2 h1.formed] at a; cases a
  · obtain ⟨e1, e2⟩ := (MRun.stay h2 0).det b
    exact ⟨e1.symm, e2.symm⟩
theorem SetsAt.kept9 {w w' : World} {v : Value} {L : List VS} {row : Option Nat} (h : SetsAt w v L) (hg : w.grownBy w' row) (hne : ∀ x n c, v = .slice (some x) n c → some x.block ≠ row) : SetsAt w' v L := by
  obtain ⟨p, c, rfl, h⟩ := h
  refine ⟨p, c, rfl, ?_⟩
  rcases h with h | ⟨b, off, rfl, hm⟩
  · exact .inl h
  · exact .inr ⟨b, off, rfl, fun i hi => ⟨(World.cell?_of_block (hg.block b (cell_lt (hm i hi).lo) (hne _ _ _ rfl))).trans (hm i hi).lo, (World.cell?_of_block (hg.block b (cell_lt (hm i hi).hi) (hne _ _ _ rfl))).trans (hm i hi).hi⟩⟩
theorem IntsAt.kept9 {w w' : World} {v : Value} {l : List Int} {row : Option Nat} (h : IntsAt w v l) (hg : w.grownBy w' row) (hne : ∀ x n c, v = .slice (some x) n c → some x.block ≠ row) : IntsAt w' v l := by
  obtain ⟨p, c, rfl, h⟩ := h
  refine ⟨p, c, rfl, ?_⟩
  rcases h with h | ⟨b, off, rfl, hm⟩
  · exact .inl h
  · exact .inr ⟨b, off, rfl, fun i hi => (World.cell?_of_block (hg.block b (cell_lt (hm i hi)) (hne _ _ _ rfl))).trans (hm i hi)⟩
set_option maxRecDepth 100000 in
set_option maxHeartbeats 16000000 in
theorem widthSmaller_walk (v : Value) (L : List VS) (x y : Value) (B : List VS) (U : List Int) (v2 : Value) (l : List Int) (w : World) (hT : TabAt w) (hI : SetsAt w v L) (hL : L.length ≤ 9223372036854775807)
    (hx : SetsAt w x B) (hy : IntsAt w y U) (hB : B.length ≤ 9223372036854775807) (hU : U.length ≤ 9223372036854775807) (hJ : IntsAt w v2 l) (hl : l.length ≤ 9223372036854775807) :
    Calls Tryd.prog 12 #[v, .agg #[x, y], v2] w (LawPost w) := by
  have HW := hid (fun w' (h : Below w.heap.size w w') => works_c w' (hT.below hT.lt h))
  have HI := hid (fun w' (h : Below w.heap.size w w') => hI.below h)
  have HJ := hid (fun w' (h : Below w.heap.size w w') => hJ.below h)
  have HX := hid (fun w' (h : Below w.heap.size w w') => hx.below h)
  have HY := hid (fun w' (h : Below w.heap.size w w') => hy.below h)
  obtain ⟨p, c, rfl, hdrop⟩ := id hI
  obtain ⟨p2, c2, rfl, hdrop2⟩ := id hJ
  obtain ⟨p3, c3, rfl, hdrop3⟩ := id hx
  obtain ⟨p4, c4, rfl, hdrop4⟩ := id hy
  clear hdrop hdrop2 hdrop3 hdrop4 hI hJ hx hy
  have hB0 : Below w.heap.size w (w.alloc (.cells #[.slice p3 B.length c3, .slice p4 U.length c4] 33)) := (Below.refl _ w).alloc (Nat.le_refl _) _
  have b0 := Box2.new w 33 (.slice p3 B.length c3) (.slice p4 U.length c4)
  obtain ⟨d0, d1, _, _⟩ := b0.cells
  have HF := hid (few_c _ _ B U _ (HX.out _ hB0) (HY.out _ hB0))
  by_cases h1 : 129 < L.length
  · have e1 : decide ((129 : Int) < (L.length : Int)) = true := decide_eq_true (by omega)
    clear h1 HF
    go_enter Tryd.func12, Tryd.ntmps12
    go_wp2_with fail
    refine (HW.out _ hB0).mono ?_
    rintro e w2 ⟨rfl, hb2⟩
    have hB2 := hB0.trans (hb2.mono hB0.size)
    go_wp2_with fail
    go_ret
    exact ⟨rfl, hB2⟩
  · have e1 : decide ((129 : Int) < (L.length : Int)) = false := decide_eq_false (by omega)
    have hL2 : L.length ≤ 129 := by omega
    clear h1
    go_enter Tryd.func12, Tryd.ntmps12
    go_wp2_with fail
    refine HF.out.mono ?_
    rintro e w2 ⟨rfl, hb2⟩
    have hB2 := hB0.trans (hb2.mono hB0.size)
    have b2 := b0.below hb2 b0.lt
    clear d0 d1 b0 hb2 hB0 HF
    cases hf : fewB B U
    · clear hf
      go_wp2_with fail
      refine (HW.out _ hB2).mono ?_
      rintro e w3 ⟨rfl, hb3⟩
      have hB3 := hB2.trans (hb3.mono hB2.size)
      go_wp2_with fail
      go_ret
      exact ⟨rfl, hB3⟩
    · obtain ⟨hb100, hu100⟩ := fewB_yes hf
      clear hf
      by_cases h2 : (128 : Int) < (l.length : Int)
      · go_wp2_with fail
        refine (HW.out _ hB2).mono ?_
        rintro e w3 ⟨rfl, hb3⟩
        have hB3 := hB2.trans (hb3.mono hB2.size)
        go_wp2_with fail
        go_ret
        exact ⟨rfl, hB3⟩
      · have hl2 : l.length ≤ 128 := by omega
        obtain ⟨d0, d1, _, _⟩ := b2.cells
        have HGV := hid (given_c _ _ B U w2 (HX.out _ hB2) (HY.out _ hB2) (by omega) (by omega))
        go_wp2_with fail
        refine HGV.out.mono ?_
        rintro e w4 ⟨x2, y2, rfl, ho1, ho2, hb4⟩
        have hX4 := ho1.sets
        have hY4 := ho2.ints
        obtain ⟨q3, g3, rfl, _⟩ := ho1.sets
        obtain ⟨q4, g4, rfl, _⟩ := ho2.ints
        have hba : Below w4.heap.size w4 (w4.alloc (.cells #[.slice q3 B.length g3, .slice q4 U.length g4] 25)) := (Below.refl _ w4).alloc (Nat.le_refl _) _
        have hB4 := hB2.trans (hb4.mono hB2.size)
        have hB5 := hB4.trans (hba.mono hB4.size)
        have HBX5 := hid (Box2.new w4 25 (.slice q3 B.length g3) (.slice q4 U.length g4))
        have HX5 := hid (hX4.below hba)
        have HY5 := hid (hY4.below hba)
        have HOF := hid (Of_tree_c _ _ L l _ (HI.out _ hB5) (HJ.out _ hB5) (hT.below hT.lt hB5) (by omega) (by omega))
        have HBW5 := hid hB5
        have HB4 := hid hB4
        clear ho1 ho2 hX4 hY4 hba hB4 hb4 hB2 d0 d1 b2 HGV hB5 h2
        go_wp2_with fail
        generalize w4.alloc (.cells #[.slice q3 B.length g3, .slice q4 U.length g4] 25) = w5 at *
        generalize hpx : w4.heap.size = px at *
        refine HOF.out.mono ?_
        rintro e w6 ⟨hb6, hpost⟩
        have HBX6 := hid (HBX5.out.below hb6 HBX5.out.lt)
        have HX6 := hid (HX5.out.below hb6)
        have HY6 := hid (HY5.out.below hb6)
        have HBW6 := hid (HBW5.out.trans (hb6.mono HBW5.out.size))
        have hpl : px < w6.heap.size := HBX6.out.lt
        have hpl5 : px < w5.heap.size := HBX5.out.lt
        have HPW := hid (show w.heap.size ≤ px from by rw [← hpx]; exact HB4.out.size)
        clear hpx HBX5 HX5 HY5 HBW5 HOF hb6
        rcases hpost with ⟨_, rfl⟩ | ⟨_, _, rfl⟩ | ⟨hv, ho, vB, vU, rfl, hoB, hoU⟩
        · have hba : Below w6.heap.size w6 (w6.alloc (.cells #[.slice none 0 0, .slice none 0 0] 25)) := (Below.refl _ w6).alloc (Nat.le_refl _) _
          have HBX7 := hid (HBX6.out.below hba HBX6.out.lt)
          have HX7 := hid (HX6.out.below hba)
          have HY7 := hid (HY6.out.below hba)
          have HBW7 := hid (HBW6.out.trans (hba.mono HBW6.out.size))
          obtain ⟨k0, k1, _, _⟩ := HBX7.out.cells
          clear hba HBX6 HX6 HY6 HBW6 hpl
          go_upto_region 7 with fail
          generalize w6.alloc (.cells #[.slice none 0 0, .slice none 0 0] 25) = w7 at *
          clear k0 k1
          obtain ⟨k0, k1, _, _⟩ := HBX7.out.cells
          have HCK := hid (Check_c _ _ _ L (B) (U) w7 (HI.out _ HBW7.out) HX7.out HY7.out (hT.below hT.lt HBW7.out) (by omega) (by omega) (by omega))
          go_wp2_with fail
          refine HCK.out.mono ?_
          rintro e w8 ⟨rfl, hb8⟩
          have HBX8 := hid (HBX7.out.below hb8 HBX7.out.lt)
          have HX8 := hid (HX7.out.below hb8)
          have HY8 := hid (HY7.out.below hb8)
          have HBW8 := hid (HBW7.out.trans (hb8.mono HBW7.out.size))
          have hpl8 : px < w8.heap.size := HBX8.out.lt
          clear k0 k1 HCK hb8
          by_cases hck : checkW L (B) (U) = 0
          · have HMGD := hid (fun B2 U2 h => MergeGood.of (B2 := B2) (U2 := U2) hck h)
            generalize hcv : checkW L (B) (U) = ck at *
            subst hck
            clear hcv
            have HMG := hid (Merge_c _ _ (B) (U) w8 HX8.out HY8.out (by omega) (by omega))
            obtain ⟨k0, k1, _, _⟩ := HBX8.out.cells
            go_wp2_with fail
            refine HMG.out.mono ?_
            rintro e w9 ⟨vB, vU, B2, U2, rfl, o1, o2, hb9, hmt⟩
            have hgood := HMGD.out _ _ hmt
            obtain ⟨pM, cM, e1, _⟩ := o1.sets
            obtain ⟨pN, cN, e2, _⟩ := o2.ints
            have hal : Below w9.heap.size w9 (w9.alloc (.cells #[vB, vU] 25)) := (Below.refl _ w9).alloc (Nat.le_refl _) _
            have hb910 := hb9.trans (hal.mono hb9.size)
            have HS10 := hid (o1.sets.below hal)
            have HI10 := hid (o2.ints.below hal)
            have HBM10 := hid (Box2.new w9 25 vB vU)
            have HBX10 := hid (HBX8.out.below hb910 HBX8.out.lt)
            have HX10 := hid (HX8.out.below hb910)
            have HBW10 := hid (HBW8.out.trans (hb910.mono HBW8.out.size))
            have HGD := hid hgood
            have hle := hgood.le
            have hlu2 := hgood.len
            have hlu : U2.length ≤ 200 := by omega
            have HLU := hid hlu2
            subst e1; subst e2
            clear k0 k1 HMG HMGD hmt hgood o1 o2 hb9 hb910 hal HBX8 HX8 HY8 HBW8 hpl8 hlu2
            go_wp2_with fail
            generalize w9.alloc (.cells #[.slice pM B2.length cM, .slice pN U2.length cN] 25) = w10 at *
            generalize w9.heap.size = pm at *
            have hbd := (Below.refl w10.heap.size w10).drew
            have HSd := hid (fun w' (h : Below w10.drew.heap.size w10.drew w') => (HS10.out.below hbd).below h)
            have HId := hid (fun w' (h : Below w10.drew.heap.size w10.drew w') => (HI10.out.below hbd).below h)
            have HXd := hid (fun w' (h : Below w10.drew.heap.size w10.drew w') => (HX10.out.below hbd).below h)
            have HBWd := hid HBW10.out.drew
            have HEd := hid (fun w' (h : Below w10.drew.heap.size w10.drew w') => HI.out w' (HBWd.out.trans (h.mono HBWd.out.size)))
            have HTd := hid (fun w' (h : Below w10.drew.heap.size w10.drew w') => hT.below hT.lt (HBWd.out.trans (h.mono HBWd.out.size)))
            have BM : Hid (Box2 w10.drew pm 25 (.slice pM B2.length cM) (.slice pN U2.length cN)) := HBM10.out
            have BXX : Hid (Box2 w10.drew px 25 (.slice q3 B.length g3) (.slice q4 U.length g4)) := HBX10.out
            have HBM0 := hid (HBM10.out.below hbd HBM10.out.lt)
            have HBS := hid (Below.refl w10.drew.heap.size w10.drew)
            have HC2 := hid (Check_c _ _ _ L B2 U2 w10.drew (HEd.out _ HBS.out) (HSd.out _ HBS.out) (HId.out _ HBS.out) (HTd.out _ HBS.out) (by omega) (by omega) (by omega))
            rw [HGD.out.check] at HC2
            clear hbd HS10 HI10 HX10 HBW10 HBM10 HBX10
            refine Go.Proofs.YtmlecpapoeodkaaDoor.wp_region_L 20 18 (fun w' => Box2 w' (pm) 25 (.slice pM B2.length cM) (.slice pN U2.length cN) ∧ Box2 w' (px) 25 (.slice q3 B.length g3) (.slice q4 U.length g4)) (by kernel_rfl) rfl ⟨BM.out, BXX.out⟩ (fun _ => ?_)
            refine wpAnyL_pure (i := 0) (v := .slice p L.length c) (by simp only [List.getElem?_toArray, List.getElem?_cons_zero] <;> rfl) (by kernel_rfl) (by kernel_rfl) (by kernel_rfl) (by exact fun _ _ _ h => h) (by decide) (.inr ⟨BM.out, BXX.out⟩) (Or.inl ⟨by rfl, fun w _ => (by simp [execOp, go_sem, Act.eval])⟩) (fun _ => ?_)
            simp only [Act.put, List.setIfInBounds_toArray, List.set_cons_zero, List.set_cons_succ]
            refine wpAnyL_load2 (i := 1) (v := .agg #[.slice pM B2.length cM, .slice pN U2.length cN]) (by simp only [List.getElem?_toArray, List.getElem?_cons_zero, List.getElem?_cons_succ] <;> rfl) (by kernel_rfl) (by kernel_rfl) (by kernel_rfl) (by exact fun _ _ _ h => h) (by decide) (Waits.more (j := 11) rfl ⟨⟨11, .guard⟩, by simp, rfl, rfl⟩ (Waits.more (j := 10) rfl ⟨⟨10, .data⟩, by simp, rfl, rfl⟩ (Waits.more (j := 4) rfl ⟨⟨4, .data⟩, by simp, rfl, rfl⟩ (Waits.more (j := 2) rfl ⟨⟨2, .chain⟩, by simp, rfl, rfl⟩ (Waits.one rfl ⟨⟨1, .data⟩, by simp, rfl, rfl⟩))))) (by kernel_rfl) (by kernel_rfl) (.inr ⟨BM.out, BXX.out⟩) (Or.inl ⟨by rfl, fun w hw => (by obtain ⟨x0, _⟩ := hw; simp [execOp, go_sem, Act.eval, x0.cells.1, x0.cells.2.1])⟩) (fun _ => ?_)
            simp only [Act.put, List.setIfInBounds_toArray, List.set_cons_zero, List.set_cons_succ]
            refine wpAnyL_one (i := 2) (by kernel_rfl) (by simp only [List.getElem?_toArray, List.getElem?_cons_zero, List.getElem?_cons_succ] <;> rfl) (by rfl) ?_
            refine opwp_call (f := 20) (args := #[.slice p L.length c, .agg #[.slice pM B2.length cM, .slice pN U2.length cN]]) (w' := w10.drew) (by simp [go_sem, Act.eval]) ?_
            refine (HC2.out).mono ?_
            rintro e w11 ⟨rfl, hb11⟩
            have hcn1_0 := hid (BM.out.below hb11 BM.out.lt)
            have hcn1_1 := hid (BXX.out.below hb11 BXX.out.lt)
            have hBn1 := HBS.out.trans (hb11.mono HBS.out.size)
            refine .inl ⟨_, rfl, .inr ⟨hcn1_0.out, hcn1_1.out⟩, ?_⟩
            simp only [Act.put, List.setIfInBounds_toArray, List.set_cons_zero, List.set_cons_succ]
            refine wpAnyL_pure (i := 3) (v := .bool false) (by simp only [List.getElem?_toArray, List.getElem?_cons_zero, List.getElem?_cons_succ] <;> rfl) (by kernel_rfl) (by kernel_rfl) (by kernel_rfl) (by exact fun _ _ _ h => h) (by decide) (.inr ⟨hcn1_0.out, hcn1_1.out⟩) (Or.inl ⟨by rfl, fun w _ => (by simp [execOp, go_sem, Act.eval])⟩) (fun _ => ?_)
            simp only [Act.put, List.setIfInBounds_toArray, List.set_cons_zero, List.set_cons_succ]
            refine wpAnyL_pure (i := 4) (v := .bool false) (by simp only [List.getElem?_toArray, List.getElem?_cons_zero, List.getElem?_cons_succ] <;> rfl) (by kernel_rfl) (by kernel_rfl) (by kernel_rfl) (by exact fun _ _ _ h => h) (by decide) (.inr ⟨hcn1_0.out, hcn1_1.out⟩) (Or.inl ⟨by rfl, fun w _ => (by simp [execOp, go_sem, Act.eval])⟩) (fun _ => ?_)
            simp only [Act.put, List.setIfInBounds_toArray, List.set_cons_zero, List.set_cons_succ]
            refine wpAnyL_load2 (i := 5) (v := .agg #[.slice pM B2.length cM, .slice pN U2.length cN]) (by simp only [List.getElem?_toArray, List.getElem?_cons_zero, List.getElem?_cons_succ] <;> rfl) (by kernel_rfl) (by kernel_rfl) (by kernel_rfl) (by exact fun _ _ _ h => h) (by decide) (Waits.more (j := 11) rfl ⟨⟨11, .guard⟩, by simp, rfl, rfl⟩ (Waits.more (j := 8) rfl ⟨⟨8, .chain⟩, by simp, rfl, rfl⟩ (Waits.more (j := 6) rfl ⟨⟨6, .chain⟩, by simp, rfl, rfl⟩ (Waits.one rfl ⟨⟨5, .data⟩, by simp, rfl, rfl⟩)))) (by kernel_rfl) (by kernel_rfl) (.inr ⟨hcn1_0.out, hcn1_1.out⟩) (Or.inl ⟨by rfl, fun w hw => (by obtain ⟨x0, _⟩ := hw; simp [execOp, go_sem, Act.eval, x0.cells.1, x0.cells.2.1])⟩) (fun _ => ?_)
            simp only [Act.put, List.setIfInBounds_toArray, List.set_cons_zero, List.set_cons_succ]
            refine wpAnyL_load2 (i := 7) (v := .agg #[.slice q3 B.length g3, .slice q4 U.length g4]) (by simp only [List.getElem?_toArray, List.getElem?_cons_zero, List.getElem?_cons_succ] <;> rfl) (by kernel_rfl) (by kernel_rfl) (by kernel_rfl) (by exact fun _ _ _ h => h) (by decide) (Waits.more (j := 11) rfl ⟨⟨11, .guard⟩, by simp, rfl, rfl⟩ (Waits.more (j := 8) rfl ⟨⟨8, .chain⟩, by simp, rfl, rfl⟩ (Waits.one rfl ⟨⟨7, .data⟩, by simp, rfl, rfl⟩))) (by kernel_rfl) (by kernel_rfl) (.inr ⟨hcn1_0.out, hcn1_1.out⟩) (Or.inl ⟨by rfl, fun w hw => (by obtain ⟨_, x1⟩ := hw; simp [execOp, go_sem, Act.eval, x1.cells.1, x1.cells.2.1])⟩) (fun _ => ?_)
            simp only [Act.put, List.setIfInBounds_toArray, List.set_cons_zero, List.set_cons_succ]
            refine wpAnyL_one (i := 6) (by kernel_rfl) (by simp only [List.getElem?_toArray, List.getElem?_cons_zero, List.getElem?_cons_succ] <;> rfl) (by rfl) ?_
            refine opwp_call (f := 19) (args := #[.agg #[.slice pM B2.length cM, .slice pN U2.length cN]]) (w' := w11) (by simp [go_sem, Act.eval]) ?_
            refine (wWidth_c _ (.slice pN U2.length cN) B2 w11 (HSd.out _ hBn1) (by omega)).mono ?_
            rintro e w12 ⟨rfl, hb12⟩
            have hcn2_0 := hid (hcn1_0.out.below hb12 hcn1_0.out.lt)
            have hcn2_1 := hid (hcn1_1.out.below hb12 hcn1_1.out.lt)
            have hBn2 := hBn1.trans (hb12.mono hBn1.size)
            rw [HGD.out.width]
            refine .inl ⟨_, rfl, .inr ⟨hcn2_0.out, hcn2_1.out⟩, ?_⟩
            simp only [Act.put, List.setIfInBounds_toArray, List.set_cons_zero, List.set_cons_succ]
            refine wpAnyL_one (i := 8) (by kernel_rfl) (by simp only [List.getElem?_toArray, List.getElem?_cons_zero, List.getElem?_cons_succ] <;> rfl) (by rfl) ?_
            refine opwp_call (f := 19) (args := #[.agg #[.slice q3 B.length g3, .slice q4 U.length g4]]) (w' := w12) (by simp [go_sem, Act.eval]) ?_
            refine (wWidth_c _ (.slice q4 U.length g4) (B) w12 (HXd.out _ hBn2) (by omega)).mono ?_
            rintro e w13 ⟨rfl, hb13⟩
            have hcn3_0 := hid (hcn2_0.out.below hb13 hcn2_0.out.lt)
            have hcn3_1 := hid (hcn2_1.out.below hb13 hcn2_1.out.lt)
            have hBn3 := hBn2.trans (hb13.mono hBn2.size)
            refine .inl ⟨_, rfl, .inr ⟨hcn3_0.out, hcn3_1.out⟩, ?_⟩
            simp only [Act.put, List.setIfInBounds_toArray, List.set_cons_zero, List.set_cons_succ]
            refine wpAnyL_pure (i := 9) (v := .bool false) (by simp only [List.getElem?_toArray, List.getElem?_cons_zero, List.getElem?_cons_succ] <;> rfl) (by kernel_rfl) (by kernel_rfl) (by kernel_rfl) (by exact fun _ _ _ h => h) (by decide) (.inr ⟨hcn3_0.out, hcn3_1.out⟩) (Or.inl ⟨by rfl, fun w _ => (by simp [execOp, go_sem, Act.eval])⟩) (fun _ => ?_)
            simp only [Act.put, List.setIfInBounds_toArray, List.set_cons_zero, List.set_cons_succ]
            refine wpAnyL_pure (i := 10) (v := .bool false) (by simp only [List.getElem?_toArray, List.getElem?_cons_zero, List.getElem?_cons_succ] <;> rfl) (by kernel_rfl) (by kernel_rfl) (by kernel_rfl) (by exact fun _ _ _ h => h) (by decide) (.inr ⟨hcn3_0.out, hcn3_1.out⟩) (Or.inl ⟨by rfl, fun w _ => (by simp [execOp, go_sem, Act.eval])⟩) (fun _ => ?_)
            simp only [Act.put, List.setIfInBounds_toArray, List.set_cons_zero, List.set_cons_succ]
            refine wpAnyL_pure (i := 11) (v := .bool false) (by simp only [List.getElem?_toArray, List.getElem?_cons_zero, List.getElem?_cons_succ] <;> rfl) (by kernel_rfl) (by kernel_rfl) (by kernel_rfl) (by exact fun _ _ _ h => h) (by decide) (.inr ⟨hcn3_0.out, hcn3_1.out⟩) (Or.inl ⟨by rfl, fun w _ => (by simp [execOp, go_sem, Act.eval])⟩) (fun _ => ?_)
            simp only [Act.put, List.setIfInBounds_toArray, List.set_cons_zero, List.set_cons_succ]
            refine wpAnyL_pure (i := 12) (v := .pointer (some ⟨pm, 0, none⟩)) (by simp only [List.getElem?_toArray, List.getElem?_cons_zero, List.getElem?_cons_succ] <;> rfl) (by kernel_rfl) (by kernel_rfl) (by kernel_rfl) (by exact fun _ _ _ h => h) (by decide) (.inr ⟨hcn3_0.out, hcn3_1.out⟩) (Or.inl ⟨by rfl, fun w _ => (by simp [execOp, go_sem, Act.eval])⟩) (fun _ => ?_)
            simp only [Act.put, List.setIfInBounds_toArray, List.set_cons_zero, List.set_cons_succ]
            refine wpAnyL_load2 (i := 13) (v := .slice pM B2.length cM) (by simp only [List.getElem?_toArray, List.getElem?_cons_zero, List.getElem?_cons_succ] <;> rfl) (by kernel_rfl) (by kernel_rfl) (by kernel_rfl) (by exact fun _ _ _ h => h) (by decide) (Waits.more (j := 14) rfl ⟨⟨14, .data⟩, by simp, rfl, rfl⟩ (Waits.one rfl ⟨⟨13, .data⟩, by simp, rfl, rfl⟩)) (by kernel_rfl) (by kernel_rfl) (.inr ⟨hcn3_0.out, hcn3_1.out⟩) (Or.inl ⟨by rfl, fun w hw => (by obtain ⟨x0, _⟩ := hw; simp [execOp, go_sem, Act.eval, x0.cells.1])⟩) (fun _ => ?_)
            simp only [Act.put, List.setIfInBounds_toArray, List.set_cons_zero, List.set_cons_succ]
            refine wpAnyL_pure (i := 14) (v := .int .i64 ((B2.length : Nat) : Int)) (by simp only [List.getElem?_toArray, List.getElem?_cons_zero, List.getElem?_cons_succ] <;> rfl) (by kernel_rfl) (by kernel_rfl) (by kernel_rfl) (by exact fun _ _ _ h => h) (by decide) (.inr ⟨hcn3_0.out, hcn3_1.out⟩) (Or.inl ⟨by rfl, fun w _ => (by simp [go_sem, Act.eval])⟩) (fun _ => ?_)
            simp only [Act.put, List.setIfInBounds_toArray, List.set_cons_zero, List.set_cons_succ]
            refine wpAnyL_pure (i := 15) (v := .pointer (some ⟨px, 0, none⟩)) (by simp only [List.getElem?_toArray, List.getElem?_cons_zero, List.getElem?_cons_succ] <;> rfl) (by kernel_rfl) (by kernel_rfl) (by kernel_rfl) (by exact fun _ _ _ h => h) (by decide) (.inr ⟨hcn3_0.out, hcn3_1.out⟩) (Or.inl ⟨by rfl, fun w _ => (by simp [execOp, go_sem, Act.eval])⟩) (fun _ => ?_)
            simp only [Act.put, List.setIfInBounds_toArray, List.set_cons_zero, List.set_cons_succ]
            refine wpAnyL_load2 (i := 16) (v := .slice q3 B.length g3) (by simp only [List.getElem?_toArray, List.getElem?_cons_zero, List.getElem?_cons_succ] <;> rfl) (by kernel_rfl) (by kernel_rfl) (by kernel_rfl) (by exact fun _ _ _ h => h) (by decide) (Waits.more (j := 17) rfl ⟨⟨17, .data⟩, by simp, rfl, rfl⟩ (Waits.one rfl ⟨⟨16, .data⟩, by simp, rfl, rfl⟩)) (by kernel_rfl) (by kernel_rfl) (.inr ⟨hcn3_0.out, hcn3_1.out⟩) (Or.inl ⟨by rfl, fun w hw => (by obtain ⟨_, x1⟩ := hw; simp [execOp, go_sem, Act.eval, x1.cells.1])⟩) (fun _ => ?_)
            simp only [Act.put, List.setIfInBounds_toArray, List.set_cons_zero, List.set_cons_succ]
            refine wpAnyL_pure (i := 17) (v := .int .i64 ((B.length : Nat) : Int)) (by simp only [List.getElem?_toArray, List.getElem?_cons_zero, List.getElem?_cons_succ] <;> rfl) (by kernel_rfl) (by kernel_rfl) (by kernel_rfl) (by exact fun _ _ _ h => h) (by decide) (.inr ⟨hcn3_0.out, hcn3_1.out⟩) (Or.inl ⟨by rfl, fun w _ => (by simp [go_sem, Act.eval])⟩) (fun _ => ?_)
            simp only [Act.put, List.setIfInBounds_toArray, List.set_cons_zero, List.set_cons_succ]
            refine wpAnyL_one (i := 18) (by kernel_rfl) (by simp only [List.getElem?_toArray, List.getElem?_cons_zero, List.getElem?_cons_succ] <;> rfl) (by rfl) ?_
            refine opwp_value (v := .bool false) (w' := w13) (by simp [execOp, go_sem, Act.eval, hle]) ⟨.inl (by kernel_rfl), ?_⟩
            simp only [Act.put, List.setIfInBounds_toArray, List.set_cons_zero, List.set_cons_succ]
            refine wpAnyL_pure (i := 19) (v := .bool false) (by simp only [List.getElem?_toArray, List.getElem?_cons_zero, List.getElem?_cons_succ] <;> rfl) (by kernel_rfl) (by kernel_rfl) (by kernel_rfl) (by exact fun _ _ _ h => h) (by decide) (.inl (by kernel_rfl)) (Or.inl ⟨by rfl, fun w _ => (by simp [execOp, go_sem, Act.eval])⟩) (fun _ => ?_)
            simp only [Act.put, List.setIfInBounds_toArray, List.set_cons_zero, List.set_cons_succ]
            refine wpAnyL_done (by kernel_rfl) ?_ _
            have HBMe := hid (HBM0.out.below hBn3 HBM0.out.lt)
            have HBn := hid hBn3
            clear BM BXX HBS hBn1 hBn2 hBn3 hb11 hb12 hb13 HC2 HBM0 HXd
            obtain ⟨k0, k1, _, _⟩ := HBMe.out.cells
            go_wp2_with fail
            have HBM13 := hid HBMe.out
            clear k0 k1 HBMe
            go_loopw [68] (fun z wr => ∃ (k : Nat), k ≤ U2.length ∧ z = .int .i64 k ∧ Hid (Below w10.drew.heap.size w10.drew wr) ∧ Hid (Box2 wr pm 25 (.slice pM B2.length cM) (.slice pN U2.length cN))) (fun z _ => U2.length - (intOf z).toNat)
            case atStart => exact ⟨0, Nat.zero_le _, rfl, HBn.out, HBM13.out⟩
            case round =>
              clear HBn HBM13
              obtain ⟨k, hk, rfl, hbr, hbm⟩ := hrel
              by_cases hkl : k < U2.length
              · obtain ⟨bN, oN, cq, eq, hbl, hcs⟩ := (HId.out _ hbr.out).form (by omega)
                injection eq with e1 _ e2
                subst e1; subst e2
                have ck := hcs k hkl
                rw [← upF_nat U2 k hkl] at ck
                have zk : (0 : Int) ≤ (k : Int) ∧ (k : Int) < (U2.length : Int) := by omega
                have hkb : k < B2.length := by rw [← HLU.out]; exact hkl
                have hrg := HGD.out.range k hkb
                have hap := HGD.out.apart k hkb hkb
                clear hcs hbl
                by_cases hneg : upF U2 (k : Int) < 0
                · have hm1 : upF U2 (k : Int) = -1 := by omega
                  rw [hm1] at ck
                  clear hneg hm1 hrg hap hkb
                  go_wp2_with fail
                  refine Go.Proofs.YtmlecpapoeodkaaDoor.wp_region_L 28 27 (fun w' => True) (by kernel_rfl) rfl trivial (fun _ => ?_)
                  refine wpAnyL_pure (i := 0) (v := .int .i64 (-1)) (by simp only [List.getElem?_toArray, List.getElem?_cons_zero] <;> rfl) (by kernel_rfl) (by kernel_rfl) (by kernel_rfl) (by exact fun _ _ _ h => h) (by decide) (.inr trivial) (Or.inl ⟨by rfl, fun w _ => (by simp [execOp, go_sem, Act.eval])⟩) (fun _ => ?_)
                  simp only [Act.put, List.setIfInBounds_toArray, List.set_cons_zero, List.set_cons_succ]
                  refine wpAnyL_pure (i := 1) (v := .bool false) (by simp only [List.getElem?_toArray, List.getElem?_cons_zero, List.getElem?_cons_succ] <;> rfl) (by kernel_rfl) (by kernel_rfl) (by kernel_rfl) (by exact fun _ _ _ h => h) (by decide) (.inr trivial) (Or.inl ⟨by rfl, fun w _ => (by simp [execOp, go_sem, Act.eval])⟩) (fun _ => ?_)
                  simp only [Act.put, List.setIfInBounds_toArray, List.set_cons_zero, List.set_cons_succ]
                  refine wpAnyL_pure (i := 2) (v := .bool false) (by simp only [List.getElem?_toArray, List.getElem?_cons_zero, List.getElem?_cons_succ] <;> rfl) (by kernel_rfl) (by kernel_rfl) (by kernel_rfl) (by exact fun _ _ _ h => h) (by decide) (.inr trivial) (Or.inl ⟨by rfl, fun w _ => (by simp [execOp, go_sem, Act.eval])⟩) (fun _ => ?_)
                  simp only [Act.put, List.setIfInBounds_toArray, List.set_cons_zero, List.set_cons_succ]
                  refine wpAnyL_pure (i := 3) (v := undef) (by simp only [List.getElem?_toArray, List.getElem?_cons_zero, List.getElem?_cons_succ] <;> rfl) (by kernel_rfl) (by kernel_rfl) (by kernel_rfl) (by exact fun _ _ _ h => h) (by decide) (.inr trivial) (Or.inr ⟨by rfl, rfl⟩) (fun _ => ?_)
                  simp only [Act.put, List.setIfInBounds_toArray, List.set_cons_zero, List.set_cons_succ]
                  refine wpAnyL_pure (i := 4) (v := undef) (by simp only [List.getElem?_toArray, List.getElem?_cons_zero, List.getElem?_cons_succ] <;> rfl) (by kernel_rfl) (by kernel_rfl) (by kernel_rfl) (by exact fun _ _ _ h => h) (by decide) (.inr trivial) (Or.inr ⟨by rfl, rfl⟩) (fun _ => ?_)
                  simp only [Act.put, List.setIfInBounds_toArray, List.set_cons_zero, List.set_cons_succ]
                  refine wpAnyL_pure (i := 5) (v := undef) (by simp only [List.getElem?_toArray, List.getElem?_cons_zero, List.getElem?_cons_succ] <;> rfl) (by kernel_rfl) (by kernel_rfl) (by kernel_rfl) (by exact fun _ _ _ h => h) (by decide) (.inr trivial) (Or.inr ⟨by rfl, rfl⟩) (fun _ => ?_)
                  simp only [Act.put, List.setIfInBounds_toArray, List.set_cons_zero, List.set_cons_succ]
                  refine wpAnyL_pure (i := 6) (v := undef) (by simp only [List.getElem?_toArray, List.getElem?_cons_zero, List.getElem?_cons_succ] <;> rfl) (by kernel_rfl) (by kernel_rfl) (by kernel_rfl) (by exact fun _ _ _ h => h) (by decide) (.inr trivial) (Or.inr ⟨by rfl, rfl⟩) (fun _ => ?_)
                  simp only [Act.put, List.setIfInBounds_toArray, List.set_cons_zero, List.set_cons_succ]
                  refine wpAnyL_pure (i := 7) (v := undef) (by simp only [List.getElem?_toArray, List.getElem?_cons_zero, List.getElem?_cons_succ] <;> rfl) (by kernel_rfl) (by kernel_rfl) (by kernel_rfl) (by exact fun _ _ _ h => h) (by decide) (.inr trivial) (Or.inr ⟨by rfl, rfl⟩) (fun _ => ?_)
                  simp only [Act.put, List.setIfInBounds_toArray, List.set_cons_zero, List.set_cons_succ]
                  refine wpAnyL_pure (i := 8) (v := undef) (by simp only [List.getElem?_toArray, List.getElem?_cons_zero, List.getElem?_cons_succ] <;> rfl) (by kernel_rfl) (by kernel_rfl) (by kernel_rfl) (by exact fun _ _ _ h => h) (by decide) (.inr trivial) (Or.inr ⟨by rfl, rfl⟩) (fun _ => ?_)
                  simp only [Act.put, List.setIfInBounds_toArray, List.set_cons_zero, List.set_cons_succ]
                  refine wpAnyL_pure (i := 9) (v := undef) (by simp only [List.getElem?_toArray, List.getElem?_cons_zero, List.getElem?_cons_succ] <;> rfl) (by kernel_rfl) (by kernel_rfl) (by kernel_rfl) (by exact fun _ _ _ h => h) (by decide) (.inr trivial) (Or.inr ⟨by rfl, rfl⟩) (fun _ => ?_)
                  simp only [Act.put, List.setIfInBounds_toArray, List.set_cons_zero, List.set_cons_succ]
                  refine wpAnyL_pure (i := 10) (v := undef) (by simp only [List.getElem?_toArray, List.getElem?_cons_zero, List.getElem?_cons_succ] <;> rfl) (by kernel_rfl) (by kernel_rfl) (by kernel_rfl) (by exact fun _ _ _ h => h) (by decide) (.inr trivial) (Or.inr ⟨by rfl, rfl⟩) (fun _ => ?_)
                  simp only [Act.put, List.setIfInBounds_toArray, List.set_cons_zero, List.set_cons_succ]
                  refine wpAnyL_pure (i := 11) (v := undef) (by simp only [List.getElem?_toArray, List.getElem?_cons_zero, List.getElem?_cons_succ] <;> rfl) (by kernel_rfl) (by kernel_rfl) (by kernel_rfl) (by exact fun _ _ _ h => h) (by decide) (.inr trivial) (Or.inr ⟨by rfl, rfl⟩) (fun _ => ?_)
                  simp only [Act.put, List.setIfInBounds_toArray, List.set_cons_zero, List.set_cons_succ]
                  refine wpAnyL_pure (i := 12) (v := undef) (by simp only [List.getElem?_toArray, List.getElem?_cons_zero, List.getElem?_cons_succ] <;> rfl) (by kernel_rfl) (by kernel_rfl) (by kernel_rfl) (by exact fun _ _ _ h => h) (by decide) (.inr trivial) (Or.inr ⟨by rfl, rfl⟩) (fun _ => ?_)
                  simp only [Act.put, List.setIfInBounds_toArray, List.set_cons_zero, List.set_cons_succ]
                  refine wpAnyL_pure (i := 13) (v := undef) (by simp only [List.getElem?_toArray, List.getElem?_cons_zero, List.getElem?_cons_succ] <;> rfl) (by kernel_rfl) (by kernel_rfl) (by kernel_rfl) (by exact fun _ _ _ h => h) (by decide) (.inr trivial) (Or.inr ⟨by rfl, rfl⟩) (fun _ => ?_)
                  simp only [Act.put, List.setIfInBounds_toArray, List.set_cons_zero, List.set_cons_succ]
                  refine wpAnyL_pure (i := 14) (v := undef) (by simp only [List.getElem?_toArray, List.getElem?_cons_zero, List.getElem?_cons_succ] <;> rfl) (by kernel_rfl) (by kernel_rfl) (by kernel_rfl) (by exact fun _ _ _ h => h) (by decide) (.inr trivial) (Or.inr ⟨by rfl, rfl⟩) (fun _ => ?_)
                  simp only [Act.put, List.setIfInBounds_toArray, List.set_cons_zero, List.set_cons_succ]
                  refine wpAnyL_pure (i := 15) (v := undef) (by simp only [List.getElem?_toArray, List.getElem?_cons_zero, List.getElem?_cons_succ] <;> rfl) (by kernel_rfl) (by kernel_rfl) (by kernel_rfl) (by exact fun _ _ _ h => h) (by decide) (.inr trivial) (Or.inr ⟨by rfl, rfl⟩) (fun _ => ?_)
                  simp only [Act.put, List.setIfInBounds_toArray, List.set_cons_zero, List.set_cons_succ]
                  refine wpAnyL_pure (i := 16) (v := undef) (by simp only [List.getElem?_toArray, List.getElem?_cons_zero, List.getElem?_cons_succ] <;> rfl) (by kernel_rfl) (by kernel_rfl) (by kernel_rfl) (by exact fun _ _ _ h => h) (by decide) (.inr trivial) (Or.inr ⟨by rfl, rfl⟩) (fun _ => ?_)
                  simp only [Act.put, List.setIfInBounds_toArray, List.set_cons_zero, List.set_cons_succ]
                  refine wpAnyL_pure (i := 17) (v := undef) (by simp only [List.getElem?_toArray, List.getElem?_cons_zero, List.getElem?_cons_succ] <;> rfl) (by kernel_rfl) (by kernel_rfl) (by kernel_rfl) (by exact fun _ _ _ h => h) (by decide) (.inr trivial) (Or.inr ⟨by rfl, rfl⟩) (fun _ => ?_)
                  simp only [Act.put, List.setIfInBounds_toArray, List.set_cons_zero, List.set_cons_succ]
                  refine wpAnyL_pure (i := 18) (v := undef) (by simp only [List.getElem?_toArray, List.getElem?_cons_zero, List.getElem?_cons_succ] <;> rfl) (by kernel_rfl) (by kernel_rfl) (by kernel_rfl) (by exact fun _ _ _ h => h) (by decide) (.inr trivial) (Or.inr ⟨by rfl, rfl⟩) (fun _ => ?_)
                  simp only [Act.put, List.setIfInBounds_toArray, List.set_cons_zero, List.set_cons_succ]
                  refine wpAnyL_pure (i := 19) (v := undef) (by simp only [List.getElem?_toArray, List.getElem?_cons_zero, List.getElem?_cons_succ] <;> rfl) (by kernel_rfl) (by kernel_rfl) (by kernel_rfl) (by exact fun _ _ _ h => h) (by decide) (.inr trivial) (Or.inr ⟨by rfl, rfl⟩) (fun _ => ?_)
                  simp only [Act.put, List.setIfInBounds_toArray, List.set_cons_zero, List.set_cons_succ]
                  refine wpAnyL_pure (i := 20) (v := undef) (by simp only [List.getElem?_toArray, List.getElem?_cons_zero, List.getElem?_cons_succ] <;> rfl) (by kernel_rfl) (by kernel_rfl) (by kernel_rfl) (by exact fun _ _ _ h => h) (by decide) (.inr trivial) (Or.inr ⟨by rfl, rfl⟩) (fun _ => ?_)
                  simp only [Act.put, List.setIfInBounds_toArray, List.set_cons_zero, List.set_cons_succ]
                  refine wpAnyL_pure (i := 21) (v := undef) (by simp only [List.getElem?_toArray, List.getElem?_cons_zero, List.getElem?_cons_succ] <;> rfl) (by kernel_rfl) (by kernel_rfl) (by kernel_rfl) (by exact fun _ _ _ h => h) (by decide) (.inr trivial) (Or.inr ⟨by rfl, rfl⟩) (fun _ => ?_)
                  simp only [Act.put, List.setIfInBounds_toArray, List.set_cons_zero, List.set_cons_succ]
                  refine wpAnyL_pure (i := 22) (v := undef) (by simp only [List.getElem?_toArray, List.getElem?_cons_zero, List.getElem?_cons_succ] <;> rfl) (by kernel_rfl) (by kernel_rfl) (by kernel_rfl) (by exact fun _ _ _ h => h) (by decide) (.inr trivial) (Or.inr ⟨by rfl, rfl⟩) (fun _ => ?_)
                  simp only [Act.put, List.setIfInBounds_toArray, List.set_cons_zero, List.set_cons_succ]
                  refine wpAnyL_pure (i := 23) (v := undef) (by simp only [List.getElem?_toArray, List.getElem?_cons_zero, List.getElem?_cons_succ] <;> rfl) (by kernel_rfl) (by kernel_rfl) (by kernel_rfl) (by exact fun _ _ _ h => h) (by decide) (.inr trivial) (Or.inr ⟨by rfl, rfl⟩) (fun _ => ?_)
                  simp only [Act.put, List.setIfInBounds_toArray, List.set_cons_zero, List.set_cons_succ]
                  refine wpAnyL_pure (i := 24) (v := undef) (by simp only [List.getElem?_toArray, List.getElem?_cons_zero, List.getElem?_cons_succ] <;> rfl) (by kernel_rfl) (by kernel_rfl) (by kernel_rfl) (by exact fun _ _ _ h => h) (by decide) (.inr trivial) (Or.inr ⟨by rfl, rfl⟩) (fun _ => ?_)
                  simp only [Act.put, List.setIfInBounds_toArray, List.set_cons_zero, List.set_cons_succ]
                  refine wpAnyL_pure (i := 25) (v := undef) (by simp only [List.getElem?_toArray, List.getElem?_cons_zero, List.getElem?_cons_succ] <;> rfl) (by kernel_rfl) (by kernel_rfl) (by kernel_rfl) (by exact fun _ _ _ h => h) (by decide) (.inr trivial) (Or.inr ⟨by rfl, rfl⟩) (fun _ => ?_)
                  simp only [Act.put, List.setIfInBounds_toArray, List.set_cons_zero, List.set_cons_succ]
                  refine wpAnyL_pure (i := 26) (v := undef) (by simp only [List.getElem?_toArray, List.getElem?_cons_zero, List.getElem?_cons_succ] <;> rfl) (by kernel_rfl) (by kernel_rfl) (by kernel_rfl) (by exact fun _ _ _ h => h) (by decide) (.inr trivial) (Or.inr ⟨by rfl, rfl⟩) (fun _ => ?_)
                  simp only [Act.put, List.setIfInBounds_toArray, List.set_cons_zero, List.set_cons_succ]
                  refine wpAnyL_one (i := 27) (by kernel_rfl) (by simp only [List.getElem?_toArray, List.getElem?_cons_zero, List.getElem?_cons_succ] <;> rfl) (by rfl) ?_
                  refine opwp_value (v := .bool false) (w' := wr.drew) (by simp [execOp, go_sem, Act.eval]) ⟨.inl (by kernel_rfl), ?_⟩
                  simp only [Act.put, List.setIfInBounds_toArray, List.set_cons_zero, List.set_cons_succ]
                  refine wpAnyL_done (by kernel_rfl) ?_ _
                  have HBd := hid hbr.out.drew
                  have HMd := hid (hbm.out.below (Below.refl _ wr).drew hbm.out.lt)
                  clear hbr hbm
                  go_wp2_with fail
                  go_roundw
                  case rel => exact ⟨k + 1, by omega, by go_num, HBd.out, HMd.out⟩
                  case measure => simp [intOf]; omega
                · obtain ⟨j, hj⟩ : ∃ j : Nat, upF U2 (k : Int) = (j : Int) := ⟨(upF U2 (k : Int)).toNat, by omega⟩
                  have hjl : j < B2.length := by omega
                  obtain ⟨bM, oM, cq, eq, hbl⟩ := (HSd.out _ hbr.out).form (by omega)
                  injection eq with e1 _ e2
                  subst e1; subst e2
                  obtain ⟨bi, hbi, i0, i1⟩ := (HSd.out _ hbr.out).get k hkb
                  obtain ⟨bj, hbj, j0, j1⟩ := (HSd.out _ hbr.out).get j hjl
                  have hap2 := hap.resolve_left (by omega)
                  rw [hj, gOf_nat B2 k hkb, gOf_nat B2 j hjl, hbi, hbj] at hap2
                  have HAP := hid hap2
                  rw [hj] at ck
                  have zkB : (0 : Int) ≤ (k : Int) ∧ (k : Int) < (B2.length : Int) := by omega
                  have zj : (0 : Int) ≤ (j : Int) ∧ (j : Int) < (B2.length : Int) := by omega
                  have zj0 : (0 : Int) ≤ (j : Int) := by omega
                  have BMr : Hid (Box2 wr.drew pm 25 (.slice (some ⟨bM, oM, none⟩) B2.length cM) (.slice (some ⟨bN, oN, none⟩) U2.length cN)) := hbm.out
                  have BIr : Hid (wr.drew.cell? ⟨bM, oM + k * 2, none⟩ = some (.int .u64 ((lw bi).toNat : Int)) ∧ wr.drew.cell? ⟨bM, oM + k * 2 + 1, none⟩ = some (.int .u64 ((hw bi).toNat : Int))) := ⟨i0, i1⟩
                  have BJr : Hid (wr.drew.cell? ⟨bM, oM + j * 2, none⟩ = some (.int .u64 ((lw bj).toNat : Int)) ∧ wr.drew.cell? ⟨bM, oM + j * 2 + 1, none⟩ = some (.int .u64 ((hw bj).toNat : Int))) := ⟨j0, j1⟩
                  clear hneg hj hrg hap hap2 hbi hbj i0 i1 j0 j1 hbl hkb
                  go_wp2_with fail
                  refine Go.Proofs.YtmlecpapoeodkaaDoor.wp_region_L 28 25 (fun w' => Box2 w' (pm) 25 (.slice (some ⟨bM, oM, none⟩) B2.length cM) (.slice (some ⟨bN, oN, none⟩) U2.length cN) ∧ (w'.cell? ⟨bM, oM + k * 2, none⟩ = some (.int .u64 ((lw (bi)).toNat : Int)) ∧ w'.cell? ⟨bM, oM + k * 2 + 1, none⟩ = some (.int .u64 ((hw (bi)).toNat : Int))) ∧ (w'.cell? ⟨bM, oM + j * 2, none⟩ = some (.int .u64 ((lw (bj)).toNat : Int)) ∧ w'.cell? ⟨bM, oM + j * 2 + 1, none⟩ = some (.int .u64 ((hw (bj)).toNat : Int)))) (by kernel_rfl) rfl ⟨BMr.out, BIr.out, BJr.out⟩ (fun _ => ?_)
                  refine wpAnyL_pure (i := 0) (v := .int .i64 (j : Int)) (by simp only [List.getElem?_toArray, List.getElem?_cons_zero] <;> rfl) (by kernel_rfl) (by kernel_rfl) (by kernel_rfl) (by exact fun _ _ _ h => h) (by decide) (.inr ⟨BMr.out, BIr.out, BJr.out⟩) (Or.inl ⟨by rfl, fun w _ => (by simp [execOp, go_sem, Act.eval])⟩) (fun _ => ?_)
                  simp only [Act.put, List.setIfInBounds_toArray, List.set_cons_zero, List.set_cons_succ]
                  refine wpAnyL_pure (i := 1) (v := .bool true) (by simp only [List.getElem?_toArray, List.getElem?_cons_zero, List.getElem?_cons_succ] <;> rfl) (by kernel_rfl) (by kernel_rfl) (by kernel_rfl) (by exact fun _ _ _ h => h) (by decide) (.inr ⟨BMr.out, BIr.out, BJr.out⟩) (Or.inl ⟨by rfl, fun w _ => (by simp [execOp, go_sem, Act.eval, zj0])⟩) (fun _ => ?_)
                  simp only [Act.put, List.setIfInBounds_toArray, List.set_cons_zero, List.set_cons_succ]
                  refine wpAnyL_pure (i := 2) (v := .bool true) (by simp only [List.getElem?_toArray, List.getElem?_cons_zero, List.getElem?_cons_succ] <;> rfl) (by kernel_rfl) (by kernel_rfl) (by kernel_rfl) (by exact fun _ _ _ h => h) (by decide) (.inr ⟨BMr.out, BIr.out, BJr.out⟩) (Or.inl ⟨by rfl, fun w _ => (by simp [execOp, go_sem, Act.eval])⟩) (fun _ => ?_)
                  simp only [Act.put, List.setIfInBounds_toArray, List.set_cons_zero, List.set_cons_succ]
                  refine wpAnyL_pure (i := 3) (v := .pointer (some ⟨pm, 0, none⟩)) (by simp only [List.getElem?_toArray, List.getElem?_cons_zero, List.getElem?_cons_succ] <;> rfl) (by kernel_rfl) (by kernel_rfl) (by kernel_rfl) (by exact fun _ _ _ h => h) (by decide) (.inr ⟨BMr.out, BIr.out, BJr.out⟩) (Or.inl ⟨by rfl, fun w _ => (by simp [execOp, go_sem, Act.eval])⟩) (fun _ => ?_)
                  simp only [Act.put, List.setIfInBounds_toArray, List.set_cons_zero, List.set_cons_succ]
                  refine wpAnyL_load2 (i := 4) (v := .slice (some ⟨bM, oM, none⟩) B2.length cM) (by simp only [List.getElem?_toArray, List.getElem?_cons_zero, List.getElem?_cons_succ] <;> rfl) (by kernel_rfl) (by kernel_rfl) (by kernel_rfl) (by exact fun _ _ _ h => h) (by decide) (Waits.more (j := 14) rfl ⟨⟨14, .chain⟩, by simp, rfl, rfl⟩ (Waits.more (j := 13) rfl ⟨⟨13, .data⟩, by simp, rfl, rfl⟩ (Waits.more (j := 7) rfl ⟨⟨7, .data⟩, by simp, rfl, rfl⟩ (Waits.more (j := 6) rfl ⟨⟨6, .data⟩, by simp, rfl, rfl⟩ (Waits.one rfl ⟨⟨4, .data⟩, by simp, rfl, rfl⟩))))) (by kernel_rfl) (by kernel_rfl) (.inr ⟨BMr.out, BIr.out, BJr.out⟩) (Or.inl ⟨by rfl, fun w hw => (by obtain ⟨x0, _, _⟩ := hw; simp [execOp, go_sem, Act.eval, x0.cells.1])⟩) (fun _ => ?_)
                  simp only [Act.put, List.setIfInBounds_toArray, List.set_cons_zero, List.set_cons_succ]
                  refine wpAnyL_pure (i := 5) (v := .int .i64 (k : Int)) (by simp only [List.getElem?_toArray, List.getElem?_cons_zero, List.getElem?_cons_succ] <;> rfl) (by kernel_rfl) (by kernel_rfl) (by kernel_rfl) (by exact fun _ _ _ h => h) (by decide) (.inr ⟨BMr.out, BIr.out, BJr.out⟩) (Or.inl ⟨by rfl, fun w _ => (by simp [execOp, go_sem, Act.eval])⟩) (fun _ => ?_)
                  simp only [Act.put, List.setIfInBounds_toArray, List.set_cons_zero, List.set_cons_succ]
                  refine wpAnyL_pure (i := 6) (v := .pointer (some ⟨bM, oM + k * 2, none⟩)) (by simp only [List.getElem?_toArray, List.getElem?_cons_zero, List.getElem?_cons_succ] <;> rfl) (by kernel_rfl) (by kernel_rfl) (by kernel_rfl) (by exact fun _ _ _ h => h) (by decide) (.inr ⟨BMr.out, BIr.out, BJr.out⟩) (Or.inl ⟨by rfl, fun w _ => (by simp [execOp, go_sem, Act.eval, zkB])⟩) (fun _ => ?_)
                  simp only [Act.put, List.setIfInBounds_toArray, List.set_cons_zero, List.set_cons_succ]
                  refine wpAnyL_load2 (i := 7) (v := encS (bi)) (by simp only [List.getElem?_toArray, List.getElem?_cons_zero, List.getElem?_cons_succ] <;> rfl) (by kernel_rfl) (by kernel_rfl) (by kernel_rfl) (by exact fun _ _ _ h => h) (by decide) (Waits.more (j := 14) rfl ⟨⟨14, .chain⟩, by simp, rfl, rfl⟩ (Waits.more (j := 13) rfl ⟨⟨13, .data⟩, by simp, rfl, rfl⟩ (Waits.one rfl ⟨⟨7, .data⟩, by simp, rfl, rfl⟩))) (by kernel_rfl) (by kernel_rfl) (.inr ⟨BMr.out, BIr.out, BJr.out⟩) (Or.inl ⟨by rfl, fun w hw => (by obtain ⟨_, ⟨y1, z1⟩, _⟩ := hw; simp [execOp, go_sem, Act.eval, y1, z1])⟩) (fun _ => ?_)
                  simp only [Act.put, List.setIfInBounds_toArray, List.set_cons_zero, List.set_cons_succ]
                  refine wpAnyL_pure (i := 8) (v := .pointer (some ⟨pm, 0, none⟩)) (by simp only [List.getElem?_toArray, List.getElem?_cons_zero, List.getElem?_cons_succ] <;> rfl) (by kernel_rfl) (by kernel_rfl) (by kernel_rfl) (by exact fun _ _ _ h => h) (by decide) (.inr ⟨BMr.out, BIr.out, BJr.out⟩) (Or.inl ⟨by rfl, fun w _ => (by simp [execOp, go_sem, Act.eval])⟩) (fun _ => ?_)
                  simp only [Act.put, List.setIfInBounds_toArray, List.set_cons_zero, List.set_cons_succ]
                  refine wpAnyL_load2 (i := 9) (v := .slice (some ⟨bM, oM, none⟩) B2.length cM) (by simp only [List.getElem?_toArray, List.getElem?_cons_zero, List.getElem?_cons_succ] <;> rfl) (by kernel_rfl) (by kernel_rfl) (by kernel_rfl) (by exact fun _ _ _ h => h) (by decide) (Waits.more (j := 14) rfl ⟨⟨14, .chain⟩, by simp, rfl, rfl⟩ (Waits.more (j := 13) rfl ⟨⟨13, .data⟩, by simp, rfl, rfl⟩ (Waits.more (j := 12) rfl ⟨⟨12, .data⟩, by simp, rfl, rfl⟩ (Waits.more (j := 11) rfl ⟨⟨11, .data⟩, by simp, rfl, rfl⟩ (Waits.one rfl ⟨⟨9, .data⟩, by simp, rfl, rfl⟩))))) (by kernel_rfl) (by kernel_rfl) (.inr ⟨BMr.out, BIr.out, BJr.out⟩) (Or.inl ⟨by rfl, fun w hw => (by obtain ⟨x0, _, _⟩ := hw; simp [execOp, go_sem, Act.eval, x0.cells.1])⟩) (fun _ => ?_)
                  simp only [Act.put, List.setIfInBounds_toArray, List.set_cons_zero, List.set_cons_succ]
                  refine wpAnyL_pure (i := 10) (v := .int .i64 (j : Int)) (by simp only [List.getElem?_toArray, List.getElem?_cons_zero, List.getElem?_cons_succ] <;> rfl) (by kernel_rfl) (by kernel_rfl) (by kernel_rfl) (by exact fun _ _ _ h => h) (by decide) (.inr ⟨BMr.out, BIr.out, BJr.out⟩) (Or.inl ⟨by rfl, fun w _ => (by simp [execOp, go_sem, Act.eval])⟩) (fun _ => ?_)
                  simp only [Act.put, List.setIfInBounds_toArray, List.set_cons_zero, List.set_cons_succ]
                  refine wpAnyL_pure (i := 11) (v := .pointer (some ⟨bM, oM + j * 2, none⟩)) (by simp only [List.getElem?_toArray, List.getElem?_cons_zero, List.getElem?_cons_succ] <;> rfl) (by kernel_rfl) (by kernel_rfl) (by kernel_rfl) (by exact fun _ _ _ h => h) (by decide) (.inr ⟨BMr.out, BIr.out, BJr.out⟩) (Or.inl ⟨by rfl, fun w _ => (by simp [execOp, go_sem, Act.eval, zj])⟩) (fun _ => ?_)
                  simp only [Act.put, List.setIfInBounds_toArray, List.set_cons_zero, List.set_cons_succ]
                  refine wpAnyL_load2 (i := 12) (v := encS (bj)) (by simp only [List.getElem?_toArray, List.getElem?_cons_zero, List.getElem?_cons_succ] <;> rfl) (by kernel_rfl) (by kernel_rfl) (by kernel_rfl) (by exact fun _ _ _ h => h) (by decide) (Waits.more (j := 14) rfl ⟨⟨14, .chain⟩, by simp, rfl, rfl⟩ (Waits.more (j := 13) rfl ⟨⟨13, .data⟩, by simp, rfl, rfl⟩ (Waits.one rfl ⟨⟨12, .data⟩, by simp, rfl, rfl⟩))) (by kernel_rfl) (by kernel_rfl) (.inr ⟨BMr.out, BIr.out, BJr.out⟩) (Or.inl ⟨by rfl, fun w hw => (by obtain ⟨_, _, ⟨y2, z2⟩⟩ := hw; simp [execOp, go_sem, Act.eval, y2, z2])⟩) (fun _ => ?_)
                  simp only [Act.put, List.setIfInBounds_toArray, List.set_cons_zero, List.set_cons_succ]
                  refine wpAnyL_one (i := 13) (by kernel_rfl) (by simp only [List.getElem?_toArray, List.getElem?_cons_zero, List.getElem?_cons_succ] <;> rfl) (by rfl) ?_
                  refine opwp_call (f := 31) (args := #[encS (bi), encS (bj)]) (w' := wr.drew) (by simp [go_sem, Act.eval]) ?_
                  refine (Sub_c bi bj wr.drew).mono ?_
                  rintro e w14 ⟨rfl, hb14⟩
                  have hch1_0 := hid (BMr.out.below hb14 BMr.out.lt)
                  have hch1_1 := hid (show (w14.cell? ⟨bM, oM + k * 2, none⟩ = some (.int .u64 ((lw (bi)).toNat : Int)) ∧ w14.cell? ⟨bM, oM + k * 2 + 1, none⟩ = some (.int .u64 ((hw (bi)).toNat : Int))) from ⟨(hb14.cell (cell_lt BIr.out.1)).trans BIr.out.1, (hb14.cell (cell_lt BIr.out.2)).trans BIr.out.2⟩)
                  have hch1_2 := hid (show (w14.cell? ⟨bM, oM + j * 2, none⟩ = some (.int .u64 ((lw (bj)).toNat : Int)) ∧ w14.cell? ⟨bM, oM + j * 2 + 1, none⟩ = some (.int .u64 ((hw (bj)).toNat : Int))) from ⟨(hb14.cell (cell_lt BJr.out.1)).trans BJr.out.1, (hb14.cell (cell_lt BJr.out.2)).trans BJr.out.2⟩)
                  rw [HAP.out.1]
                  refine .inl ⟨_, rfl, .inr ⟨hch1_0.out, hch1_1.out, hch1_2.out⟩, ?_⟩
                  simp only [Act.put, List.setIfInBounds_toArray, List.set_cons_zero, List.set_cons_succ]
                  refine wpAnyL_pure (i := 14) (v := .bool false) (by simp only [List.getElem?_toArray, List.getElem?_cons_zero, List.getElem?_cons_succ] <;> rfl) (by kernel_rfl) (by kernel_rfl) (by kernel_rfl) (by exact fun _ _ _ h => h) (by decide) (.inr ⟨hch1_0.out, hch1_1.out, hch1_2.out⟩) (Or.inl ⟨by rfl, fun w _ => (by simp [execOp, go_sem, Act.eval])⟩) (fun _ => ?_)
                  simp only [Act.put, List.setIfInBounds_toArray, List.set_cons_zero, List.set_cons_succ]
                  refine wpAnyL_pure (i := 15) (v := .pointer (some ⟨pm, 0, none⟩)) (by simp only [List.getElem?_toArray, List.getElem?_cons_zero, List.getElem?_cons_succ] <;> rfl) (by kernel_rfl) (by kernel_rfl) (by kernel_rfl) (by exact fun _ _ _ h => h) (by decide) (.inr ⟨hch1_0.out, hch1_1.out, hch1_2.out⟩) (Or.inl ⟨by rfl, fun w _ => (by simp [execOp, go_sem, Act.eval])⟩) (fun _ => ?_)
                  simp only [Act.put, List.setIfInBounds_toArray, List.set_cons_zero, List.set_cons_succ]
                  refine wpAnyL_load2 (i := 16) (v := .slice (some ⟨bM, oM, none⟩) B2.length cM) (by simp only [List.getElem?_toArray, List.getElem?_cons_zero, List.getElem?_cons_succ] <;> rfl) (by kernel_rfl) (by kernel_rfl) (by kernel_rfl) (by exact fun _ _ _ h => h) (by decide) (Waits.more (j := 19) rfl ⟨⟨19, .data⟩, by simp, rfl, rfl⟩ (Waits.more (j := 18) rfl ⟨⟨18, .data⟩, by simp, rfl, rfl⟩ (Waits.one rfl ⟨⟨16, .data⟩, by simp, rfl, rfl⟩))) (by kernel_rfl) (by kernel_rfl) (.inr ⟨hch1_0.out, hch1_1.out, hch1_2.out⟩) (Or.inl ⟨by rfl, fun w hw => (by obtain ⟨x0, _, _⟩ := hw; simp [execOp, go_sem, Act.eval, x0.cells.1])⟩) (fun _ => ?_)
                  simp only [Act.put, List.setIfInBounds_toArray, List.set_cons_zero, List.set_cons_succ]
                  refine wpAnyL_pure (i := 17) (v := .int .i64 (j : Int)) (by simp only [List.getElem?_toArray, List.getElem?_cons_zero, List.getElem?_cons_succ] <;> rfl) (by kernel_rfl) (by kernel_rfl) (by kernel_rfl) (by exact fun _ _ _ h => h) (by decide) (.inr ⟨hch1_0.out, hch1_1.out, hch1_2.out⟩) (Or.inl ⟨by rfl, fun w _ => (by simp [execOp, go_sem, Act.eval])⟩) (fun _ => ?_)
                  simp only [Act.put, List.setIfInBounds_toArray, List.set_cons_zero, List.set_cons_succ]
                  refine wpAnyL_pure (i := 18) (v := .pointer (some ⟨bM, oM + j * 2, none⟩)) (by simp only [List.getElem?_toArray, List.getElem?_cons_zero, List.getElem?_cons_succ] <;> rfl) (by kernel_rfl) (by kernel_rfl) (by kernel_rfl) (by exact fun _ _ _ h => h) (by decide) (.inr ⟨hch1_0.out, hch1_1.out, hch1_2.out⟩) (Or.inl ⟨by rfl, fun w _ => (by simp [execOp, go_sem, Act.eval, zj])⟩) (fun _ => ?_)
                  simp only [Act.put, List.setIfInBounds_toArray, List.set_cons_zero, List.set_cons_succ]
                  refine wpAnyL_load2 (i := 19) (v := encS (bj)) (by simp only [List.getElem?_toArray, List.getElem?_cons_zero, List.getElem?_cons_succ] <;> rfl) (by kernel_rfl) (by kernel_rfl) (by kernel_rfl) (by exact fun _ _ _ h => h) (by decide) (Waits.one rfl ⟨⟨19, .data⟩, by simp, rfl, rfl⟩) (by kernel_rfl) (by kernel_rfl) (.inr ⟨hch1_0.out, hch1_1.out, hch1_2.out⟩) (Or.inl ⟨by rfl, fun w hw => (by obtain ⟨_, _, ⟨y2, z2⟩⟩ := hw; simp [execOp, go_sem, Act.eval, y2, z2])⟩) (fun _ => ?_)
                  simp only [Act.put, List.setIfInBounds_toArray, List.set_cons_zero, List.set_cons_succ]
                  refine wpAnyL_pure (i := 20) (v := .pointer (some ⟨pm, 0, none⟩)) (by simp only [List.getElem?_toArray, List.getElem?_cons_zero, List.getElem?_cons_succ] <;> rfl) (by kernel_rfl) (by kernel_rfl) (by kernel_rfl) (by exact fun _ _ _ h => h) (by decide) (.inr ⟨hch1_0.out, hch1_1.out, hch1_2.out⟩) (Or.inl ⟨by rfl, fun w _ => (by simp [execOp, go_sem, Act.eval])⟩) (fun _ => ?_)
                  simp only [Act.put, List.setIfInBounds_toArray, List.set_cons_zero, List.set_cons_succ]
                  refine wpAnyL_load2 (i := 21) (v := .slice (some ⟨bM, oM, none⟩) B2.length cM) (by simp only [List.getElem?_toArray, List.getElem?_cons_zero, List.getElem?_cons_succ] <;> rfl) (by kernel_rfl) (by kernel_rfl) (by kernel_rfl) (by exact fun _ _ _ h => h) (by decide) (Waits.more (j := 24) rfl ⟨⟨24, .data⟩, by simp, rfl, rfl⟩ (Waits.more (j := 23) rfl ⟨⟨23, .data⟩, by simp, rfl, rfl⟩ (Waits.one rfl ⟨⟨21, .data⟩, by simp, rfl, rfl⟩))) (by kernel_rfl) (by kernel_rfl) (.inr ⟨hch1_0.out, hch1_1.out, hch1_2.out⟩) (Or.inl ⟨by rfl, fun w hw => (by obtain ⟨x0, _, _⟩ := hw; simp [execOp, go_sem, Act.eval, x0.cells.1])⟩) (fun _ => ?_)
                  simp only [Act.put, List.setIfInBounds_toArray, List.set_cons_zero, List.set_cons_succ]
                  refine wpAnyL_pure (i := 22) (v := .int .i64 (k : Int)) (by simp only [List.getElem?_toArray, List.getElem?_cons_zero, List.getElem?_cons_succ] <;> rfl) (by kernel_rfl) (by kernel_rfl) (by kernel_rfl) (by exact fun _ _ _ h => h) (by decide) (.inr ⟨hch1_0.out, hch1_1.out, hch1_2.out⟩) (Or.inl ⟨by rfl, fun w _ => (by simp [execOp, go_sem, Act.eval])⟩) (fun _ => ?_)
                  simp only [Act.put, List.setIfInBounds_toArray, List.set_cons_zero, List.set_cons_succ]
                  refine wpAnyL_pure (i := 23) (v := .pointer (some ⟨bM, oM + k * 2, none⟩)) (by simp only [List.getElem?_toArray, List.getElem?_cons_zero, List.getElem?_cons_succ] <;> rfl) (by kernel_rfl) (by kernel_rfl) (by kernel_rfl) (by exact fun _ _ _ h => h) (by decide) (.inr ⟨hch1_0.out, hch1_1.out, hch1_2.out⟩) (Or.inl ⟨by rfl, fun w _ => (by simp [execOp, go_sem, Act.eval, zkB])⟩) (fun _ => ?_)
                  simp only [Act.put, List.setIfInBounds_toArray, List.set_cons_zero, List.set_cons_succ]
                  refine wpAnyL_load2 (i := 24) (v := encS (bi)) (by simp only [List.getElem?_toArray, List.getElem?_cons_zero, List.getElem?_cons_succ] <;> rfl) (by kernel_rfl) (by kernel_rfl) (by kernel_rfl) (by exact fun _ _ _ h => h) (by decide) (Waits.one rfl ⟨⟨24, .data⟩, by simp, rfl, rfl⟩) (by kernel_rfl) (by kernel_rfl) (.inr ⟨hch1_0.out, hch1_1.out, hch1_2.out⟩) (Or.inl ⟨by rfl, fun w hw => (by obtain ⟨_, ⟨y1, z1⟩, _⟩ := hw; simp [execOp, go_sem, Act.eval, y1, z1])⟩) (fun _ => ?_)
                  simp only [Act.put, List.setIfInBounds_toArray, List.set_cons_zero, List.set_cons_succ]
                  refine wpAnyL_one (i := 25) (by kernel_rfl) (by simp only [List.getElem?_toArray, List.getElem?_cons_zero, List.getElem?_cons_succ] <;> rfl) (by rfl) ?_
                  refine opwp_call (f := 31) (args := #[encS (bj), encS (bi)]) (w' := w14) (by simp [go_sem, Act.eval]) ?_
                  refine (Sub_c bj bi w14).mono ?_
                  rintro e w15 ⟨rfl, hb15⟩
                  rw [HAP.out.2]
                  refine .inl ⟨_, rfl, .inl (by kernel_rfl), ?_⟩
                  simp only [Act.put, List.setIfInBounds_toArray, List.set_cons_zero, List.set_cons_succ]
                  refine wpAnyL_pure (i := 26) (v := .bool false) (by simp only [List.getElem?_toArray, List.getElem?_cons_zero, List.getElem?_cons_succ] <;> rfl) (by kernel_rfl) (by kernel_rfl) (by kernel_rfl) (by exact fun _ _ _ h => h) (by decide) (.inl (by kernel_rfl)) (Or.inl ⟨by rfl, fun w _ => (by simp [execOp, go_sem, Act.eval])⟩) (fun _ => ?_)
                  simp only [Act.put, List.setIfInBounds_toArray, List.set_cons_zero, List.set_cons_succ]
                  refine wpAnyL_pure (i := 27) (v := .bool false) (by simp only [List.getElem?_toArray, List.getElem?_cons_zero, List.getElem?_cons_succ] <;> rfl) (by kernel_rfl) (by kernel_rfl) (by kernel_rfl) (by exact fun _ _ _ h => h) (by decide) (.inl (by kernel_rfl)) (Or.inl ⟨by rfl, fun w _ => (by simp [execOp, go_sem, Act.eval])⟩) (fun _ => ?_)
                  simp only [Act.put, List.setIfInBounds_toArray, List.set_cons_zero, List.set_cons_succ]
                  refine wpAnyL_done (by kernel_rfl) ?_ _
                  have hbb := (((Below.refl wr.heap.size wr).drew).trans hb14).trans (hb15.mono (Nat.le_trans (Nat.le_refl _) hb14.size))
                  have HBd := hid (hbr.out.trans (hbb.mono hbr.out.size))
                  have HMd := hid (hbm.out.below hbb hbm.out.lt)
                  clear hbr hbm hbb hb14 hb15 BMr BIr BJr
                  go_wp2_with fail
                  go_roundw
                  case rel => exact ⟨k + 1, by omega, by go_num, HBd.out, HMd.out⟩
                  case measure => simp [intOf]; omega
              · obtain rfl : k = U2.length := by omega
                have hbd := hbr.out.drew
                have HBd := hid hbd
                have BMe : Hid (Box2 wr.drew pm 25 (.slice pM B2.length cM) (.slice pN U2.length cN)) := hbm.out
                have HBWe := hid (HBWd.out.trans (hbd.mono HBWd.out.size))
                have HSe := hid (fun w' (h : Below wr.drew.heap.size wr.drew w') => HSd.out w' (HBd.out.trans (h.mono HBd.out.size)))
                have HIe := hid (fun w' (h : Below wr.drew.heap.size wr.drew w') => HId.out w' (HBd.out.trans (h.mono HBd.out.size)))
                have HWe := hid (fun w' (h : Below wr.drew.heap.size wr.drew w') => HW.out w' (HBWe.out.trans (h.mono HBWe.out.size)))
                have HBS := hid (Below.refl wr.drew.heap.size wr.drew)
                clear hbd hbr hbm
                go_wp2_with fail
                refine Go.Proofs.YtmlecpapoeodkaaDoor.wp_region_L 10 5 (fun w' => Box2 w' (pm) 25 (.slice pM B2.length cM) (.slice pN U2.length cN)) (by kernel_rfl) rfl BMe.out (fun _ => ?_)
                refine wpAnyL_load2 (i := 0) (v := .agg #[.slice pM B2.length cM, .slice pN U2.length cN]) (by simp only [List.getElem?_toArray, List.getElem?_cons_zero] <;> rfl) (by kernel_rfl) (by kernel_rfl) (by kernel_rfl) (by exact fun _ _ _ h => h) (by decide) (Waits.more (j := 2) rfl ⟨⟨2, .data⟩, by simp, rfl, rfl⟩ (Waits.more (j := 1) rfl ⟨⟨1, .data⟩, by simp, rfl, rfl⟩ (Waits.one rfl ⟨⟨0, .data⟩, by simp, rfl, rfl⟩))) (by kernel_rfl) (by kernel_rfl) (.inr BMe.out) (Or.inl ⟨by rfl, fun w hw => (by have x0 := hw; simp [execOp, go_sem, Act.eval, x0.cells.1, x0.cells.2.1])⟩) (fun _ => ?_)
                simp only [Act.put, List.setIfInBounds_toArray, List.set_cons_zero, List.set_cons_succ]
                refine wpAnyL_load2 (i := 3) (v := .agg #[.slice pM B2.length cM, .slice pN U2.length cN]) (by simp only [List.getElem?_toArray, List.getElem?_cons_zero, List.getElem?_cons_succ] <;> rfl) (by kernel_rfl) (by kernel_rfl) (by kernel_rfl) (by exact fun _ _ _ h => h) (by decide) (Waits.more (j := 4) rfl ⟨⟨4, .data⟩, by simp, rfl, rfl⟩ (Waits.one rfl ⟨⟨3, .data⟩, by simp, rfl, rfl⟩)) (by kernel_rfl) (by kernel_rfl) (.inr BMe.out) (Or.inl ⟨by rfl, fun w hw => (by have x0 := hw; simp [execOp, go_sem, Act.eval, x0.cells.1, x0.cells.2.1])⟩) (fun _ => ?_)
                simp only [Act.put, List.setIfInBounds_toArray, List.set_cons_zero, List.set_cons_succ]
                refine wpAnyL_one (i := 1) (by kernel_rfl) (by simp only [List.getElem?_toArray, List.getElem?_cons_zero, List.getElem?_cons_succ] <;> rfl) (by rfl) ?_
                refine opwp_call (f := 18) (args := #[.agg #[.slice pM B2.length cM, .slice pN U2.length cN]]) (w' := wr.drew) (by simp [go_sem, Act.eval]) ?_
                refine (Merge_c _ _ B2 U2 wr.drew (HSe.out _ HBS.out) (HIe.out _ HBS.out) (by omega) (by omega)).mono ?_
                rintro e w16 ⟨vB3, vU3, B3, U3, rfl, o1, o2, hb16, hmt3⟩
                have hcm1_0 := hid (BMe.out.below hb16 BMe.out.lt)
                have hBm1 := HBS.out.trans (hb16.mono HBS.out.size)
                obtain ⟨e1, e2⟩ := HGD.out.again _ _ hmt3
                subst B3; subst U3
                have hs16 := o1.sets
                have hi16 := o2.ints
                obtain ⟨p9, c9, e9, _⟩ := o1.sets
                obtain ⟨q9, d9, f9, _⟩ := o2.ints
                subst e9; subst f9
                refine .inl ⟨_, rfl, .inr hcm1_0.out, ?_⟩
                simp only [Act.put, List.setIfInBounds_toArray, List.set_cons_zero, List.set_cons_succ]
                refine wpAnyL_one (i := 2) (by kernel_rfl) (by simp only [List.getElem?_toArray, List.getElem?_cons_zero, List.getElem?_cons_succ] <;> rfl) (by rfl) ?_
                refine opwp_call (f := 17) (args := #[.agg #[.slice p9 B2.length c9, .slice q9 U2.length d9]]) (w' := w16) (by simp [go_sem, Act.eval]) ?_
                refine (taken_c p9 q9 B2.length c9 U2.length d9 w16).mono ?_
                rintro e w17 ⟨rfl, hb17⟩
                have hcm2_0 := hid (hcm1_0.out.below hb17 hcm1_0.out.lt)
                have hBm2 := hBm1.trans (hb17.mono hBm1.size)
                refine .inl ⟨_, rfl, .inr hcm2_0.out, ?_⟩
                simp only [Act.put, List.setIfInBounds_toArray, List.set_cons_zero, List.set_cons_succ]
                refine wpAnyL_one (i := 4) (by kernel_rfl) (by simp only [List.getElem?_toArray, List.getElem?_cons_zero, List.getElem?_cons_succ] <;> rfl) (by rfl) ?_
                refine opwp_call (f := 17) (args := #[.agg #[.slice pM B2.length cM, .slice pN U2.length cN]]) (w' := w17) (by simp [go_sem, Act.eval]) ?_
                refine (taken_c pM pN B2.length cM U2.length cN w17).mono ?_
                rintro e w18 ⟨rfl, hb18⟩
                have hcm3_0 := hid (hcm2_0.out.below hb18 hcm2_0.out.lt)
                have hBm3 := hBm2.trans (hb18.mono hBm2.size)
                have HSM := hid (same_c _ _ _ _ B2 B2 U2 U2 w18 ((hs16.below hb17).below hb18) ((hi16.below hb17).below hb18) (HSe.out _ hBm3) (HIe.out _ hBm3) (by omega) (by omega) (by omega) (by omega))
                rw [show decide (B2 = B2 ∧ U2 = U2) = true from by simp] at HSM
                refine .inl ⟨_, rfl, .inr hcm3_0.out, ?_⟩
                simp only [Act.put, List.setIfInBounds_toArray, List.set_cons_zero, List.set_cons_succ]
                refine wpAnyL_one (i := 5) (by kernel_rfl) (by simp only [List.getElem?_toArray, List.getElem?_cons_zero, List.getElem?_cons_succ] <;> rfl) (by rfl) ?_
                refine opwp_call (f := 16) (args := #[.agg #[.slice p9 B2.length c9, .slice q9 U2.length d9], .agg #[.slice pM B2.length cM, .slice pN U2.length cN]]) (w' := w18) (by simp [go_sem, Act.eval]) ?_
                refine (HSM.out).mono ?_
                rintro e w19 ⟨rfl, hb19⟩
                have hBm4 := hBm3.trans (hb19.mono hBm3.size)
                refine .inl ⟨_, rfl, .inl (by kernel_rfl), ?_⟩
                simp only [Act.put, List.setIfInBounds_toArray, List.set_cons_zero, List.set_cons_succ]
                refine wpAnyL_pure (i := 6) (v := .bool true) (by simp only [List.getElem?_toArray, List.getElem?_cons_zero, List.getElem?_cons_succ] <;> rfl) (by kernel_rfl) (by kernel_rfl) (by kernel_rfl) (by exact fun _ _ _ h => h) (by decide) (.inl (by kernel_rfl)) (Or.inl ⟨by rfl, fun w _ => (by simp [execOp, go_sem, Act.eval])⟩) (fun _ => ?_)
                simp only [Act.put, List.setIfInBounds_toArray, List.set_cons_zero, List.set_cons_succ]
                refine wpAnyL_one (i := 7) (by kernel_rfl) (by simp only [List.getElem?_toArray, List.getElem?_cons_zero, List.getElem?_cons_succ] <;> rfl) (by rfl) ?_
                refine opwp_call (f := 21) (args := #[]) (w' := w19) (by simp [go_sem]) ?_
                refine (HWe.out _ hBm4).mono ?_
                rintro e w20 ⟨rfl, hb20⟩
                have hBm5 := hBm4.trans (hb20.mono hBm4.size)
                refine .inl ⟨_, rfl, .inl (by kernel_rfl), ?_⟩
                simp only [Act.put, List.setIfInBounds_toArray, List.set_cons_zero, List.set_cons_succ]
                refine wpAnyL_pure (i := 8) (v := .bool true) (by simp only [List.getElem?_toArray, List.getElem?_cons_zero, List.getElem?_cons_succ] <;> rfl) (by kernel_rfl) (by kernel_rfl) (by kernel_rfl) (by exact fun _ _ _ h => h) (by decide) (.inl (by kernel_rfl)) (Or.inl ⟨by rfl, fun w _ => (by simp [execOp, go_sem, Act.eval])⟩) (fun _ => ?_)
                simp only [Act.put, List.setIfInBounds_toArray, List.set_cons_zero, List.set_cons_succ]
                refine wpAnyL_pure (i := 9) (v := .bool true) (by simp only [List.getElem?_toArray, List.getElem?_cons_zero, List.getElem?_cons_succ] <;> rfl) (by kernel_rfl) (by kernel_rfl) (by kernel_rfl) (by exact fun _ _ _ h => h) (by decide) (.inl (by kernel_rfl)) (Or.inl ⟨by rfl, fun w _ => (by simp [execOp, go_sem, Act.eval])⟩) (fun _ => ?_)
                simp only [Act.put, List.setIfInBounds_toArray, List.set_cons_zero, List.set_cons_succ]
                refine wpAnyL_done (by kernel_rfl) ?_ _
                have hend := HBWe.out.trans (hBm5.mono HBWe.out.size)
                go_wp2_with fail
                go_ret
                exact ⟨rfl, hend⟩
          · have hk1 : (checkW L (B) (U) != 0) = true := by simpa using hck
            generalize checkW L (B) (U) = ck at *
            go_wp2_with fail
            refine (HW.out _ HBW8.out).mono ?_
            rintro e w9 ⟨rfl, hb9⟩
            have hB9 := HBW8.out.trans (hb9.mono HBW8.out.size)
            go_wp2_with fail
            go_ret
            exact ⟨rfl, hB9⟩
        · have hba : Below w6.heap.size w6 (w6.alloc (.cells #[.slice none 0 0, .slice none 0 0] 25)) := (Below.refl _ w6).alloc (Nat.le_refl _) _
          have HBX7 := hid (HBX6.out.below hba HBX6.out.lt)
          have HX7 := hid (HX6.out.below hba)
          have HY7 := hid (HY6.out.below hba)
          have HBW7 := hid (HBW6.out.trans (hba.mono HBW6.out.size))
          obtain ⟨k0, k1, _, _⟩ := HBX7.out.cells
          clear hba HBX6 HX6 HY6 HBW6 hpl
          go_upto_region 7 with fail
          generalize w6.alloc (.cells #[.slice none 0 0, .slice none 0 0] 25) = w7 at *
          clear k0 k1
          obtain ⟨k0, k1, _, _⟩ := HBX7.out.cells
          have HCK := hid (Check_c _ _ _ L (B) (U) w7 (HI.out _ HBW7.out) HX7.out HY7.out (hT.below hT.lt HBW7.out) (by omega) (by omega) (by omega))
          go_wp2_with fail
          refine HCK.out.mono ?_
          rintro e w8 ⟨rfl, hb8⟩
          have HBX8 := hid (HBX7.out.below hb8 HBX7.out.lt)
          have HX8 := hid (HX7.out.below hb8)
          have HY8 := hid (HY7.out.below hb8)
          have HBW8 := hid (HBW7.out.trans (hb8.mono HBW7.out.size))
          have hpl8 : px < w8.heap.size := HBX8.out.lt
          clear k0 k1 HCK hb8
          by_cases hck : checkW L (B) (U) = 0
          · have HMGD := hid (fun B2 U2 h => MergeGood.of (B2 := B2) (U2 := U2) hck h)
            generalize hcv : checkW L (B) (U) = ck at *
            subst hck
            clear hcv
            have HMG := hid (Merge_c _ _ (B) (U) w8 HX8.out HY8.out (by omega) (by omega))
            obtain ⟨k0, k1, _, _⟩ := HBX8.out.cells
            go_wp2_with fail
            refine HMG.out.mono ?_
            rintro e w9 ⟨vB, vU, B2, U2, rfl, o1, o2, hb9, hmt⟩
            have hgood := HMGD.out _ _ hmt
            obtain ⟨pM, cM, e1, _⟩ := o1.sets
            obtain ⟨pN, cN, e2, _⟩ := o2.ints
            have hal : Below w9.heap.size w9 (w9.alloc (.cells #[vB, vU] 25)) := (Below.refl _ w9).alloc (Nat.le_refl _) _
            have hb910 := hb9.trans (hal.mono hb9.size)
            have HS10 := hid (o1.sets.below hal)
            have HI10 := hid (o2.ints.below hal)
            have HBM10 := hid (Box2.new w9 25 vB vU)
            have HBX10 := hid (HBX8.out.below hb910 HBX8.out.lt)
            have HX10 := hid (HX8.out.below hb910)
            have HBW10 := hid (HBW8.out.trans (hb910.mono HBW8.out.size))
            have HGD := hid hgood
            have hle := hgood.le
            have hlu2 := hgood.len
            have hlu : U2.length ≤ 200 := by omega
            have HLU := hid hlu2
            subst e1; subst e2
            clear k0 k1 HMG HMGD hmt hgood o1 o2 hb9 hb910 hal HBX8 HX8 HY8 HBW8 hpl8 hlu2
            go_wp2_with fail
            generalize w9.alloc (.cells #[.slice pM B2.length cM, .slice pN U2.length cN] 25) = w10 at *
            generalize w9.heap.size = pm at *
            have hbd := (Below.refl w10.heap.size w10).drew
            have HSd := hid (fun w' (h : Below w10.drew.heap.size w10.drew w') => (HS10.out.below hbd).below h)
            have HId := hid (fun w' (h : Below w10.drew.heap.size w10.drew w') => (HI10.out.below hbd).below h)
            have HXd := hid (fun w' (h : Below w10.drew.heap.size w10.drew w') => (HX10.out.below hbd).below h)
            have HBWd := hid HBW10.out.drew
            have HEd := hid (fun w' (h : Below w10.drew.heap.size w10.drew w') => HI.out w' (HBWd.out.trans (h.mono HBWd.out.size)))
            have HTd := hid (fun w' (h : Below w10.drew.heap.size w10.drew w') => hT.below hT.lt (HBWd.out.trans (h.mono HBWd.out.size)))
            have BM : Hid (Box2 w10.drew pm 25 (.slice pM B2.length cM) (.slice pN U2.length cN)) := HBM10.out
            have BXX : Hid (Box2 w10.drew px 25 (.slice q3 B.length g3) (.slice q4 U.length g4)) := HBX10.out
            have HBM0 := hid (HBM10.out.below hbd HBM10.out.lt)
            have HBS := hid (Below.refl w10.drew.heap.size w10.drew)
            have HC2 := hid (Check_c _ _ _ L B2 U2 w10.drew (HEd.out _ HBS.out) (HSd.out _ HBS.out) (HId.out _ HBS.out) (HTd.out _ HBS.out) (by omega) (by omega) (by omega))
            rw [HGD.out.check] at HC2
            clear hbd HS10 HI10 HX10 HBW10 HBM10 HBX10
            refine Go.Proofs.YtmlecpapoeodkaaDoor.wp_region_L 20 18 (fun w' => Box2 w' (pm) 25 (.slice pM B2.length cM) (.slice pN U2.length cN) ∧ Box2 w' (px) 25 (.slice q3 B.length g3) (.slice q4 U.length g4)) (by kernel_rfl) rfl ⟨BM.out, BXX.out⟩ (fun _ => ?_)
            refine wpAnyL_pure (i := 0) (v := .slice p L.length c) (by simp only [List.getElem?_toArray, List.getElem?_cons_zero] <;> rfl) (by kernel_rfl) (by kernel_rfl) (by kernel_rfl) (by exact fun _ _ _ h => h) (by decide) (.inr ⟨BM.out, BXX.out⟩) (Or.inl ⟨by rfl, fun w _ => (by simp [execOp, go_sem, Act.eval])⟩) (fun _ => ?_)
            simp only [Act.put, List.setIfInBounds_toArray, List.set_cons_zero, List.set_cons_succ]
            refine wpAnyL_load2 (i := 1) (v := .agg #[.slice pM B2.length cM, .slice pN U2.length cN]) (by simp only [List.getElem?_toArray, List.getElem?_cons_zero, List.getElem?_cons_succ] <;> rfl) (by kernel_rfl) (by kernel_rfl) (by kernel_rfl) (by exact fun _ _ _ h => h) (by decide) (Waits.more (j := 11) rfl ⟨⟨11, .guard⟩, by simp, rfl, rfl⟩ (Waits.more (j := 10) rfl ⟨⟨10, .data⟩, by simp, rfl, rfl⟩ (Waits.more (j := 4) rfl ⟨⟨4, .data⟩, by simp, rfl, rfl⟩ (Waits.more (j := 2) rfl ⟨⟨2, .chain⟩, by simp, rfl, rfl⟩ (Waits.one rfl ⟨⟨1, .data⟩, by simp, rfl, rfl⟩))))) (by kernel_rfl) (by kernel_rfl) (.inr ⟨BM.out, BXX.out⟩) (Or.inl ⟨by rfl, fun w hw => (by obtain ⟨x0, _⟩ := hw; simp [execOp, go_sem, Act.eval, x0.cells.1, x0.cells.2.1])⟩) (fun _ => ?_)
            simp only [Act.put, List.setIfInBounds_toArray, List.set_cons_zero, List.set_cons_succ]
            refine wpAnyL_one (i := 2) (by kernel_rfl) (by simp only [List.getElem?_toArray, List.getElem?_cons_zero, List.getElem?_cons_succ] <;> rfl) (by rfl) ?_
            refine opwp_call (f := 20) (args := #[.slice p L.length c, .agg #[.slice pM B2.length cM, .slice pN U2.length cN]]) (w' := w10.drew) (by simp [go_sem, Act.eval]) ?_
            refine (HC2.out).mono ?_
            rintro e w11 ⟨rfl, hb11⟩
            have hcn1_0 := hid (BM.out.below hb11 BM.out.lt)
            have hcn1_1 := hid (BXX.out.below hb11 BXX.out.lt)
            have hBn1 := HBS.out.trans (hb11.mono HBS.out.size)
            refine .inl ⟨_, rfl, .inr ⟨hcn1_0.out, hcn1_1.out⟩, ?_⟩
            simp only [Act.put, List.setIfInBounds_toArray, List.set_cons_zero, List.set_cons_succ]
            refine wpAnyL_pure (i := 3) (v := .bool false) (by simp only [List.getElem?_toArray, List.getElem?_cons_zero, List.getElem?_cons_succ] <;> rfl) (by kernel_rfl) (by kernel_rfl) (by kernel_rfl) (by exact fun _ _ _ h => h) (by decide) (.inr ⟨hcn1_0.out, hcn1_1.out⟩) (Or.inl ⟨by rfl, fun w _ => (by simp [execOp, go_sem, Act.eval])⟩) (fun _ => ?_)
            simp only [Act.put, List.setIfInBounds_toArray, List.set_cons_zero, List.set_cons_succ]
            refine wpAnyL_pure (i := 4) (v := .bool false) (by simp only [List.getElem?_toArray, List.getElem?_cons_zero, List.getElem?_cons_succ] <;> rfl) (by kernel_rfl) (by kernel_rfl) (by kernel_rfl) (by exact fun _ _ _ h => h) (by decide) (.inr ⟨hcn1_0.out, hcn1_1.out⟩) (Or.inl ⟨by rfl, fun w _ => (by simp [execOp, go_sem, Act.eval])⟩) (fun _ => ?_)
            simp only [Act.put, List.setIfInBounds_toArray, List.set_cons_zero, List.set_cons_succ]
            refine wpAnyL_load2 (i := 5) (v := .agg #[.slice pM B2.length cM, .slice pN U2.length cN]) (by simp only [List.getElem?_toArray, List.getElem?_cons_zero, List.getElem?_cons_succ] <;> rfl) (by kernel_rfl) (by kernel_rfl) (by kernel_rfl) (by exact fun _ _ _ h => h) (by decide) (Waits.more (j := 11) rfl ⟨⟨11, .guard⟩, by simp, rfl, rfl⟩ (Waits.more (j := 8) rfl ⟨⟨8, .chain⟩, by simp, rfl, rfl⟩ (Waits.more (j := 6) rfl ⟨⟨6, .chain⟩, by simp, rfl, rfl⟩ (Waits.one rfl ⟨⟨5, .data⟩, by simp, rfl, rfl⟩)))) (by kernel_rfl) (by kernel_rfl) (.inr ⟨hcn1_0.out, hcn1_1.out⟩) (Or.inl ⟨by rfl, fun w hw => (by obtain ⟨x0, _⟩ := hw; simp [execOp, go_sem, Act.eval, x0.cells.1, x0.cells.2.1])⟩) (fun _ => ?_)
            simp only [Act.put, List.setIfInBounds_toArray, List.set_cons_zero, List.set_cons_succ]
            refine wpAnyL_load2 (i := 7) (v := .agg #[.slice q3 B.length g3, .slice q4 U.length g4]) (by simp only [List.getElem?_toArray, List.getElem?_cons_zero, List.getElem?_cons_succ] <;> rfl) (by kernel_rfl) (by kernel_rfl) (by kernel_rfl) (by exact fun _ _ _ h => h) (by decide) (Waits.more (j := 11) rfl ⟨⟨11, .guard⟩, by simp, rfl, rfl⟩ (Waits.more (j := 8) rfl ⟨⟨8, .chain⟩, by simp, rfl, rfl⟩ (Waits.one rfl ⟨⟨7, .data⟩, by simp, rfl, rfl⟩))) (by kernel_rfl) (by kernel_rfl) (.inr ⟨hcn1_0.out, hcn1_1.out⟩) (Or.inl ⟨by rfl, fun w hw => (by obtain ⟨_, x1⟩ := hw; simp [execOp, go_sem, Act.eval, x1.cells.1, x1.cells.2.1])⟩) (fun _ => ?_)
            simp only [Act.put, List.setIfInBounds_toArray, List.set_cons_zero, List.set_cons_succ]
            refine wpAnyL_one (i := 6) (by kernel_rfl) (by simp only [List.getElem?_toArray, List.getElem?_cons_zero, List.getElem?_cons_succ] <;> rfl) (by rfl) ?_
            refine opwp_call (f := 19) (args := #[.agg #[.slice pM B2.length cM, .slice pN U2.length cN]]) (w' := w11) (by simp [go_sem, Act.eval]) ?_
            refine (wWidth_c _ (.slice pN U2.length cN) B2 w11 (HSd.out _ hBn1) (by omega)).mono ?_
            rintro e w12 ⟨rfl, hb12⟩
            have hcn2_0 := hid (hcn1_0.out.below hb12 hcn1_0.out.lt)
            have hcn2_1 := hid (hcn1_1.out.below hb12 hcn1_1.out.lt)
            have hBn2 := hBn1.trans (hb12.mono hBn1.size)
            rw [HGD.out.width]
            refine .inl ⟨_, rfl, .inr ⟨hcn2_0.out, hcn2_1.out⟩, ?_⟩
            simp only [Act.put, List.setIfInBounds_toArray, List.set_cons_zero, List.set_cons_succ]
            refine wpAnyL_one (i := 8) (by kernel_rfl) (by simp only [List.getElem?_toArray, List.getElem?_cons_zero, List.getElem?_cons_succ] <;> rfl) (by rfl) ?_
            refine opwp_call (f := 19) (args := #[.agg #[.slice q3 B.length g3, .slice q4 U.length g4]]) (w' := w12) (by simp [go_sem, Act.eval]) ?_
            refine (wWidth_c _ (.slice q4 U.length g4) (B) w12 (HXd.out _ hBn2) (by omega)).mono ?_
            rintro e w13 ⟨rfl, hb13⟩
            have hcn3_0 := hid (hcn2_0.out.below hb13 hcn2_0.out.lt)
            have hcn3_1 := hid (hcn2_1.out.below hb13 hcn2_1.out.lt)
            have hBn3 := hBn2.trans (hb13.mono hBn2.size)
            refine .inl ⟨_, rfl, .inr ⟨hcn3_0.out, hcn3_1.out⟩, ?_⟩
            simp only [Act.put, List.setIfInBounds_toArray, List.set_cons_zero, List.set_cons_succ]
            refine wpAnyL_pure (i := 9) (v := .bool false) (by simp only [List.getElem?_toArray, List.getElem?_cons_zero, List.getElem?_cons_succ] <;> rfl) (by kernel_rfl) (by kernel_rfl) (by kernel_rfl) (by exact fun _ _ _ h => h) (by decide) (.inr ⟨hcn3_0.out, hcn3_1.out⟩) (Or.inl ⟨by rfl, fun w _ => (by simp [execOp, go_sem, Act.eval])⟩) (fun _ => ?_)
            simp only [Act.put, List.setIfInBounds_toArray, List.set_cons_zero, List.set_cons_succ]
            refine wpAnyL_pure (i := 10) (v := .bool false) (by simp only [List.getElem?_toArray, List.getElem?_cons_zero, List.getElem?_cons_succ] <;> rfl) (by kernel_rfl) (by kernel_rfl) (by kernel_rfl) (by exact fun _ _ _ h => h) (by decide) (.inr ⟨hcn3_0.out, hcn3_1.out⟩) (Or.inl ⟨by rfl, fun w _ => (by simp [execOp, go_sem, Act.eval])⟩) (fun _ => ?_)
            simp only [Act.put, List.setIfInBounds_toArray, List.set_cons_zero, List.set_cons_succ]
            refine wpAnyL_pure (i := 11) (v := .bool false) (by simp only [List.getElem?_toArray, List.getElem?_cons_zero, List.getElem?_cons_succ] <;> rfl) (by kernel_rfl) (by kernel_rfl) (by kernel_rfl) (by exact fun _ _ _ h => h) (by decide) (.inr ⟨hcn3_0.out, hcn3_1.out⟩) (Or.inl ⟨by rfl, fun w _ => (by simp [execOp, go_sem, Act.eval])⟩) (fun _ => ?_)
            simp only [Act.put, List.setIfInBounds_toArray, List.set_cons_zero, List.set_cons_succ]
            refine wpAnyL_pure (i := 12) (v := .pointer (some ⟨pm, 0, none⟩)) (by simp only [List.getElem?_toArray, List.getElem?_cons_zero, List.getElem?_cons_succ] <;> rfl) (by kernel_rfl) (by kernel_rfl) (by kernel_rfl) (by exact fun _ _ _ h => h) (by decide) (.inr ⟨hcn3_0.out, hcn3_1.out⟩) (Or.inl ⟨by rfl, fun w _ => (by simp [execOp, go_sem, Act.eval])⟩) (fun _ => ?_)
            simp only [Act.put, List.setIfInBounds_toArray, List.set_cons_zero, List.set_cons_succ]
            refine wpAnyL_load2 (i := 13) (v := .slice pM B2.length cM) (by simp only [List.getElem?_toArray, List.getElem?_cons_zero, List.getElem?_cons_succ] <;> rfl) (by kernel_rfl) (by kernel_rfl) (by kernel_rfl) (by exact fun _ _ _ h => h) (by decide) (Waits.more (j := 14) rfl ⟨⟨14, .data⟩, by simp, rfl, rfl⟩ (Waits.one rfl ⟨⟨13, .data⟩, by simp, rfl, rfl⟩)) (by kernel_rfl) (by kernel_rfl) (.inr ⟨hcn3_0.out, hcn3_1.out⟩) (Or.inl ⟨by rfl, fun w hw => (by obtain ⟨x0, _⟩ := hw; simp [execOp, go_sem, Act.eval, x0.cells.1])⟩) (fun _ => ?_)
            simp only [Act.put, List.setIfInBounds_toArray, List.set_cons_zero, List.set_cons_succ]
            refine wpAnyL_pure (i := 14) (v := .int .i64 ((B2.length : Nat) : Int)) (by simp only [List.getElem?_toArray, List.getElem?_cons_zero, List.getElem?_cons_succ] <;> rfl) (by kernel_rfl) (by kernel_rfl) (by kernel_rfl) (by exact fun _ _ _ h => h) (by decide) (.inr ⟨hcn3_0.out, hcn3_1.out⟩) (Or.inl ⟨by rfl, fun w _ => (by simp [go_sem, Act.eval])⟩) (fun _ => ?_)
            simp only [Act.put, List.setIfInBounds_toArray, List.set_cons_zero, List.set_cons_succ]
            refine wpAnyL_pure (i := 15) (v := .pointer (some ⟨px, 0, none⟩)) (by simp only [List.getElem?_toArray, List.getElem?_cons_zero, List.getElem?_cons_succ] <;> rfl) (by kernel_rfl) (by kernel_rfl) (by kernel_rfl) (by exact fun _ _ _ h => h) (by decide) (.inr ⟨hcn3_0.out, hcn3_1.out⟩) (Or.inl ⟨by rfl, fun w _ => (by simp [execOp, go_sem, Act.eval])⟩) (fun _ => ?_)
            simp only [Act.put, List.setIfInBounds_toArray, List.set_cons_zero, List.set_cons_succ]
            refine wpAnyL_load2 (i := 16) (v := .slice q3 B.length g3) (by simp only [List.getElem?_toArray, List.getElem?_cons_zero, List.getElem?_cons_succ] <;> rfl) (by kernel_rfl) (by kernel_rfl) (by kernel_rfl) (by exact fun _ _ _ h => h) (by decide) (Waits.more (j := 17) rfl ⟨⟨17, .data⟩, by simp, rfl, rfl⟩ (Waits.one rfl ⟨⟨16, .data⟩, by simp, rfl, rfl⟩)) (by kernel_rfl) (by kernel_rfl) (.inr ⟨hcn3_0.out, hcn3_1.out⟩) (Or.inl ⟨by rfl, fun w hw => (by obtain ⟨_, x1⟩ := hw; simp [execOp, go_sem, Act.eval, x1.cells.1])⟩) (fun _ => ?_)
            simp only [Act.put, List.setIfInBounds_toArray, List.set_cons_zero, List.set_cons_succ]
            refine wpAnyL_pure (i := 17) (v := .int .i64 ((B.length : Nat) : Int)) (by simp only [List.getElem?_toArray, List.getElem?_cons_zero, List.getElem?_cons_succ] <;> rfl) (by kernel_rfl) (by kernel_rfl) (by kernel_rfl) (by exact fun _ _ _ h => h) (by decide) (.inr ⟨hcn3_0.out, hcn3_1.out⟩) (Or.inl ⟨by rfl, fun w _ => (by simp [go_sem, Act.eval])⟩) (fun _ => ?_)
            simp only [Act.put, List.setIfInBounds_toArray, List.set_cons_zero, List.set_cons_succ]
            refine wpAnyL_one (i := 18) (by kernel_rfl) (by simp only [List.getElem?_toArray, List.getElem?_cons_zero, List.getElem?_cons_succ] <;> rfl) (by rfl) ?_
            refine opwp_value (v := .bool false) (w' := w13) (by simp [execOp, go_sem, Act.eval, hle]) ⟨.inl (by kernel_rfl), ?_⟩
            simp only [Act.put, List.setIfInBounds_toArray, List.set_cons_zero, List.set_cons_succ]
            refine wpAnyL_pure (i := 19) (v := .bool false) (by simp only [List.getElem?_toArray, List.getElem?_cons_zero, List.getElem?_cons_succ] <;> rfl) (by kernel_rfl) (by kernel_rfl) (by kernel_rfl) (by exact fun _ _ _ h => h) (by decide) (.inl (by kernel_rfl)) (Or.inl ⟨by rfl, fun w _ => (by simp [execOp, go_sem, Act.eval])⟩) (fun _ => ?_)
            simp only [Act.put, List.setIfInBounds_toArray, List.set_cons_zero, List.set_cons_succ]
            refine wpAnyL_done (by kernel_rfl) ?_ _
            have HBMe := hid (HBM0.out.below hBn3 HBM0.out.lt)
            have HBn := hid hBn3
            clear BM BXX HBS hBn1 hBn2 hBn3 hb11 hb12 hb13 HC2 HBM0 HXd
            obtain ⟨k0, k1, _, _⟩ := HBMe.out.cells
            go_wp2_with fail
            have HBM13 := hid HBMe.out
            clear k0 k1 HBMe
            go_loopw [68] (fun z wr => ∃ (k : Nat), k ≤ U2.length ∧ z = .int .i64 k ∧ Hid (Below w10.drew.heap.size w10.drew wr) ∧ Hid (Box2 wr pm 25 (.slice pM B2.length cM) (.slice pN U2.length cN))) (fun z _ => U2.length - (intOf z).toNat)
            case atStart => exact ⟨0, Nat.zero_le _, rfl, HBn.out, HBM13.out⟩
            case round =>
              clear HBn HBM13
              obtain ⟨k, hk, rfl, hbr, hbm⟩ := hrel
              by_cases hkl : k < U2.length
              · obtain ⟨bN, oN, cq, eq, hbl, hcs⟩ := (HId.out _ hbr.out).form (by omega)
                injection eq with e1 _ e2
                subst e1; subst e2
                have ck := hcs k hkl
                rw [← upF_nat U2 k hkl] at ck
                have zk : (0 : Int) ≤ (k : Int) ∧ (k : Int) < (U2.length : Int) := by omega
                have hkb : k < B2.length := by rw [← HLU.out]; exact hkl
                have hrg := HGD.out.range k hkb
                have hap := HGD.out.apart k hkb hkb
                clear hcs hbl
                by_cases hneg : upF U2 (k : Int) < 0
                · have hm1 : upF U2 (k : Int) = -1 := by omega
                  rw [hm1] at ck
                  clear hneg hm1 hrg hap hkb
                  go_wp2_with fail
                  refine Go.Proofs.YtmlecpapoeodkaaDoor.wp_region_L 28 27 (fun w' => True) (by kernel_rfl) rfl trivial (fun _ => ?_)
                  refine wpAnyL_pure (i := 0) (v := .int .i64 (-1)) (by simp only [List.getElem?_toArray, List.getElem?_cons_zero] <;> rfl) (by kernel_rfl) (by kernel_rfl) (by kernel_rfl) (by exact fun _ _ _ h => h) (by decide) (.inr trivial) (Or.inl ⟨by rfl, fun w _ => (by simp [execOp, go_sem, Act.eval])⟩) (fun _ => ?_)
                  simp only [Act.put, List.setIfInBounds_toArray, List.set_cons_zero, List.set_cons_succ]
                  refine wpAnyL_pure (i := 1) (v := .bool false) (by simp only [List.getElem?_toArray, List.getElem?_cons_zero, List.getElem?_cons_succ] <;> rfl) (by kernel_rfl) (by kernel_rfl) (by kernel_rfl) (by exact fun _ _ _ h => h) (by decide) (.inr trivial) (Or.inl ⟨by rfl, fun w _ => (by simp [execOp, go_sem, Act.eval])⟩) (fun _ => ?_)
                  simp only [Act.put, List.setIfInBounds_toArray, List.set_cons_zero, List.set_cons_succ]
                  refine wpAnyL_pure (i := 2) (v := .bool false) (by simp only [List.getElem?_toArray, List.getElem?_cons_zero, List.getElem?_cons_succ] <;> rfl) (by kernel_rfl) (by kernel_rfl) (by kernel_rfl) (by exact fun _ _ _ h => h) (by decide) (.inr trivial) (Or.inl ⟨by rfl, fun w _ => (by simp [execOp, go_sem, Act.eval])⟩) (fun _ => ?_)
                  simp only [Act.put, List.setIfInBounds_toArray, List.set_cons_zero, List.set_cons_succ]
                  refine wpAnyL_pure (i := 3) (v := undef) (by simp only [List.getElem?_toArray, List.getElem?_cons_zero, List.getElem?_cons_succ] <;> rfl) (by kernel_rfl) (by kernel_rfl) (by kernel_rfl) (by exact fun _ _ _ h => h) (by decide) (.inr trivial) (Or.inr ⟨by rfl, rfl⟩) (fun _ => ?_)
                  simp only [Act.put, List.setIfInBounds_toArray, List.set_cons_zero, List.set_cons_succ]
                  refine wpAnyL_pure (i := 4) (v := undef) (by simp only [List.getElem?_toArray, List.getElem?_cons_zero, List.getElem?_cons_succ] <;> rfl) (by kernel_rfl) (by kernel_rfl) (by kernel_rfl) (by exact fun _ _ _ h => h) (by decide) (.inr trivial) (Or.inr ⟨by rfl, rfl⟩) (fun _ => ?_)
                  simp only [Act.put, List.setIfInBounds_toArray, List.set_cons_zero, List.set_cons_succ]
                  refine wpAnyL_pure (i := 5) (v := undef) (by simp only [List.getElem?_toArray, List.getElem?_cons_zero, List.getElem?_cons_succ] <;> rfl) (by kernel_rfl) (by kernel_rfl) (by kernel_rfl) (by exact fun _ _ _ h => h) (by decide) (.inr trivial) (Or.inr ⟨by rfl, rfl⟩) (fun _ => ?_)
                  simp only [Act.put, List.setIfInBounds_toArray, List.set_cons_zero, List.set_cons_succ]
                  refine wpAnyL_pure (i := 6) (v := undef) (by simp only [List.getElem?_toArray, List.getElem?_cons_zero, List.getElem?_cons_succ] <;> rfl) (by kernel_rfl) (by kernel_rfl) (by kernel_rfl) (by exact fun _ _ _ h => h) (by decide) (.inr trivial) (Or.inr ⟨by rfl, rfl⟩) (fun _ => ?_)
                  simp only [Act.put, List.setIfInBounds_toArray, List.set_cons_zero, List.set_cons_succ]
                  refine wpAnyL_pure (i := 7) (v := undef) (by simp only [List.getElem?_toArray, List.getElem?_cons_zero, List.getElem?_cons_succ] <;> rfl) (by kernel_rfl) (by kernel_rfl) (by kernel_rfl) (by exact fun _ _ _ h => h) (by decide) (.inr trivial) (Or.inr ⟨by rfl, rfl⟩) (fun _ => ?_)
                  simp only [Act.put, List.setIfInBounds_toArray, List.set_cons_zero, List.set_cons_succ]
                  refine wpAnyL_pure (i := 8) (v := undef) (by simp only [List.getElem?_toArray, List.getElem?_cons_zero, List.getElem?_cons_succ] <;> rfl) (by kernel_rfl) (by kernel_rfl) (by kernel_rfl) (by exact fun _ _ _ h => h) (by decide) (.inr trivial) (Or.inr ⟨by rfl, rfl⟩) (fun _ => ?_)
                  simp only [Act.put, List.setIfInBounds_toArray, List.set_cons_zero, List.set_cons_succ]
                  refine wpAnyL_pure (i := 9) (v := undef) (by simp only [List.getElem?_toArray, List.getElem?_cons_zero, List.getElem?_cons_succ] <;> rfl) (by kernel_rfl) (by kernel_rfl) (by kernel_rfl) (by exact fun _ _ _ h => h) (by decide) (.inr trivial) (Or.inr ⟨by rfl, rfl⟩) (fun _ => ?_)
                  simp only [Act.put, List.setIfInBounds_toArray, List.set_cons_zero, List.set_cons_succ]
                  refine wpAnyL_pure (i := 10) (v := undef) (by simp only [List.getElem?_toArray, List.getElem?_cons_zero, List.getElem?_cons_succ] <;> rfl) (by kernel_rfl) (by kernel_rfl) (by kernel_rfl) (by exact fun _ _ _ h => h) (by decide) (.inr trivial) (Or.inr ⟨by rfl, rfl⟩) (fun _ => ?_)
                  simp only [Act.put, List.setIfInBounds_toArray, List.set_cons_zero, List.set_cons_succ]
                  refine wpAnyL_pure (i := 11) (v := undef) (by simp only [List.getElem?_toArray, List.getElem?_cons_zero, List.getElem?_cons_succ] <;> rfl) (by kernel_rfl) (by kernel_rfl) (by kernel_rfl) (by exact fun _ _ _ h => h) (by decide) (.inr trivial) (Or.inr ⟨by rfl, rfl⟩) (fun _ => ?_)
                  simp only [Act.put, List.setIfInBounds_toArray, List.set_cons_zero, List.set_cons_succ]
                  refine wpAnyL_pure (i := 12) (v := undef) (by simp only [List.getElem?_toArray, List.getElem?_cons_zero, List.getElem?_cons_succ] <;> rfl) (by kernel_rfl) (by kernel_rfl) (by kernel_rfl) (by exact fun _ _ _ h => h) (by decide) (.inr trivial) (Or.inr ⟨by rfl, rfl⟩) (fun _ => ?_)
                  simp only [Act.put, List.setIfInBounds_toArray, List.set_cons_zero, List.set_cons_succ]
                  refine wpAnyL_pure (i := 13) (v := undef) (by simp only [List.getElem?_toArray, List.getElem?_cons_zero, List.getElem?_cons_succ] <;> rfl) (by kernel_rfl) (by kernel_rfl) (by kernel_rfl) (by exact fun _ _ _ h => h) (by decide) (.inr trivial) (Or.inr ⟨by rfl, rfl⟩) (fun _ => ?_)
                  simp only [Act.put, List.setIfInBounds_toArray, List.set_cons_zero, List.set_cons_succ]
                  refine wpAnyL_pure (i := 14) (v := undef) (by simp only [List.getElem?_toArray, List.getElem?_cons_zero, List.getElem?_cons_succ] <;> rfl) (by kernel_rfl) (by kernel_rfl) (by kernel_rfl) (by exact fun _ _ _ h => h) (by decide) (.inr trivial) (Or.inr ⟨by rfl, rfl⟩) (fun _ => ?_)
                  simp only [Act.put, List.setIfInBounds_toArray, List.set_cons_zero, List.set_cons_succ]
                  refine wpAnyL_pure (i := 15) (v := undef) (by simp only [List.getElem?_toArray, List.getElem?_cons_zero, List.getElem?_cons_succ] <;> rfl) (by kernel_rfl) (by kernel_rfl) (by kernel_rfl) (by exact fun _ _ _ h => h) (by decide) (.inr trivial) (Or.inr ⟨by rfl, rfl⟩) (fun _ => ?_)
                  simp only [Act.put, List.setIfInBounds_toArray, List.set_cons_zero, List.set_cons_succ]
                  refine wpAnyL_pure (i := 16) (v := undef) (by simp only [List.getElem?_toArray, List.getElem?_cons_zero, List.getElem?_cons_succ] <;> rfl) (by kernel_rfl) (by kernel_rfl) (by kernel_rfl) (by exact fun _ _ _ h => h) (by decide) (.inr trivial) (Or.inr ⟨by rfl, rfl⟩) (fun _ => ?_)
                  simp only [Act.put, List.setIfInBounds_toArray, List.set_cons_zero, List.set_cons_succ]
                  refine wpAnyL_pure (i := 17) (v := undef) (by simp only [List.getElem?_toArray, List.getElem?_cons_zero, List.getElem?_cons_succ] <;> rfl) (by kernel_rfl) (by kernel_rfl) (by kernel_rfl) (by exact fun _ _ _ h => h) (by decide) (.inr trivial) (Or.inr ⟨by rfl, rfl⟩) (fun _ => ?_)
                  simp only [Act.put, List.setIfInBounds_toArray, List.set_cons_zero, List.set_cons_succ]
                  refine wpAnyL_pure (i := 18) (v := undef) (by simp only [List.getElem?_toArray, List.getElem?_cons_zero, List.getElem?_cons_succ] <;> rfl) (by kernel_rfl) (by kernel_rfl) (by kernel_rfl) (by exact fun _ _ _ h => h) (by decide) (.inr trivial) (Or.inr ⟨by rfl, rfl⟩) (fun _ => ?_)
                  simp only [Act.put, List.setIfInBounds_toArray, List.set_cons_zero, List.set_cons_succ]
                  refine wpAnyL_pure (i := 19) (v := undef) (by simp only [List.getElem?_toArray, List.getElem?_cons_zero, List.getElem?_cons_succ] <;> rfl) (by kernel_rfl) (by kernel_rfl) (by kernel_rfl) (by exact fun _ _ _ h => h) (by decide) (.inr trivial) (Or.inr ⟨by rfl, rfl⟩) (fun _ => ?_)
                  simp only [Act.put, List.setIfInBounds_toArray, List.set_cons_zero, List.set_cons_succ]
                  refine wpAnyL_pure (i := 20) (v := undef) (by simp only [List.getElem?_toArray, List.getElem?_cons_zero, List.getElem?_cons_succ] <;> rfl) (by kernel_rfl) (by kernel_rfl) (by kernel_rfl) (by exact fun _ _ _ h => h) (by decide) (.inr trivial) (Or.inr ⟨by rfl, rfl⟩) (fun _ => ?_)
                  simp only [Act.put, List.setIfInBounds_toArray, List.set_cons_zero, List.set_cons_succ]
                  refine wpAnyL_pure (i := 21) (v := undef) (by simp only [List.getElem?_toArray, List.getElem?_cons_zero, List.getElem?_cons_succ] <;> rfl) (by kernel_rfl) (by kernel_rfl) (by kernel_rfl) (by exact fun _ _ _ h => h) (by decide) (.inr trivial) (Or.inr ⟨by rfl, rfl⟩) (fun _ => ?_)
                  simp only [Act.put, List.setIfInBounds_toArray, List.set_cons_zero, List.set_cons_succ]
                  refine wpAnyL_pure (i := 22) (v := undef) (by simp only [List.getElem?_toArray, List.getElem?_cons_zero, List.getElem?_cons_succ] <;> rfl) (by kernel_rfl) (by kernel_rfl) (by kernel_rfl) (by exact fun _ _ _ h => h) (by decide) (.inr trivial) (Or.inr ⟨by rfl, rfl⟩) (fun _ => ?_)
                  simp only [Act.put, List.setIfInBounds_toArray, List.set_cons_zero, List.set_cons_succ]
                  refine wpAnyL_pure (i := 23) (v := undef) (by simp only [List.getElem?_toArray, List.getElem?_cons_zero, List.getElem?_cons_succ] <;> rfl) (by kernel_rfl) (by kernel_rfl) (by kernel_rfl) (by exact fun _ _ _ h => h) (by decide) (.inr trivial) (Or.inr ⟨by rfl, rfl⟩) (fun _ => ?_)
                  simp only [Act.put, List.setIfInBounds_toArray, List.set_cons_zero, List.set_cons_succ]
                  refine wpAnyL_pure (i := 24) (v := undef) (by simp only [List.getElem?_toArray, List.getElem?_cons_zero, List.getElem?_cons_succ] <;> rfl) (by kernel_rfl) (by kernel_rfl) (by kernel_rfl) (by exact fun _ _ _ h => h) (by decide) (.inr trivial) (Or.inr ⟨by rfl, rfl⟩) (fun _ => ?_)
                  simp only [Act.put, List.setIfInBounds_toArray, List.set_cons_zero, List.set_cons_succ]
                  refine wpAnyL_pure (i := 25) (v := undef) (by simp only [List.getElem?_toArray, List.getElem?_cons_zero, List.getElem?_cons_succ] <;> rfl) (by kernel_rfl) (by kernel_rfl) (by kernel_rfl) (by exact fun _ _ _ h => h) (by decide) (.inr trivial) (Or.inr ⟨by rfl, rfl⟩) (fun _ => ?_)
                  simp only [Act.put, List.setIfInBounds_toArray, List.set_cons_zero, List.set_cons_succ]
                  refine wpAnyL_pure (i := 26) (v := undef) (by simp only [List.getElem?_toArray, List.getElem?_cons_zero, List.getElem?_cons_succ] <;> rfl) (by kernel_rfl) (by kernel_rfl) (by kernel_rfl) (by exact fun _ _ _ h => h) (by decide) (.inr trivial) (Or.inr ⟨by rfl, rfl⟩) (fun _ => ?_)
                  simp only [Act.put, List.setIfInBounds_toArray, List.set_cons_zero, List.set_cons_succ]
                  refine wpAnyL_one (i := 27) (by kernel_rfl) (by simp only [List.getElem?_toArray, List.getElem?_cons_zero, List.getElem?_cons_succ] <;> rfl) (by rfl) ?_
                  refine opwp_value (v := .bool false) (w' := wr.drew) (by simp [execOp, go_sem, Act.eval]) ⟨.inl (by kernel_rfl), ?_⟩
                  simp only [Act.put, List.setIfInBounds_toArray, List.set_cons_zero, List.set_cons_succ]
                  refine wpAnyL_done (by kernel_rfl) ?_ _
                  have HBd := hid hbr.out.drew
                  have HMd := hid (hbm.out.below (Below.refl _ wr).drew hbm.out.lt)
                  clear hbr hbm
                  go_wp2_with fail
                  go_roundw
                  case rel => exact ⟨k + 1, by omega, by go_num, HBd.out, HMd.out⟩
                  case measure => simp [intOf]; omega
                · obtain ⟨j, hj⟩ : ∃ j : Nat, upF U2 (k : Int) = (j : Int) := ⟨(upF U2 (k : Int)).toNat, by omega⟩
                  have hjl : j < B2.length := by omega
                  obtain ⟨bM, oM, cq, eq, hbl⟩ := (HSd.out _ hbr.out).form (by omega)
                  injection eq with e1 _ e2
                  subst e1; subst e2
                  obtain ⟨bi, hbi, i0, i1⟩ := (HSd.out _ hbr.out).get k hkb
                  obtain ⟨bj, hbj, j0, j1⟩ := (HSd.out _ hbr.out).get j hjl
                  have hap2 := hap.resolve_left (by omega)
                  rw [hj, gOf_nat B2 k hkb, gOf_nat B2 j hjl, hbi, hbj] at hap2
                  have HAP := hid hap2
                  rw [hj] at ck
                  have zkB : (0 : Int) ≤ (k : Int) ∧ (k : Int) < (B2.length : Int) := by omega
                  have zj : (0 : Int) ≤ (j : Int) ∧ (j : Int) < (B2.length : Int) := by omega
                  have zj0 : (0 : Int) ≤ (j : Int) := by omega
                  have BMr : Hid (Box2 wr.drew pm 25 (.slice (some ⟨bM, oM, none⟩) B2.length cM) (.slice (some ⟨bN, oN, none⟩) U2.length cN)) := hbm.out
                  have BIr : Hid (wr.drew.cell? ⟨bM, oM + k * 2, none⟩ = some (.int .u64 ((lw bi).toNat : Int)) ∧ wr.drew.cell? ⟨bM, oM + k * 2 + 1, none⟩ = some (.int .u64 ((hw bi).toNat : Int))) := ⟨i0, i1⟩
                  have BJr : Hid (wr.drew.cell? ⟨bM, oM + j * 2, none⟩ = some (.int .u64 ((lw bj).toNat : Int)) ∧ wr.drew.cell? ⟨bM, oM + j * 2 + 1, none⟩ = some (.int .u64 ((hw bj).toNat : Int))) := ⟨j0, j1⟩
                  clear hneg hj hrg hap hap2 hbi hbj i0 i1 j0 j1 hbl hkb
                  go_wp2_with fail
                  refine Go.Proofs.YtmlecpapoeodkaaDoor.wp_region_L 28 25 (fun w' => Box2 w' (pm) 25 (.slice (some ⟨bM, oM, none⟩) B2.length cM) (.slice (some ⟨bN, oN, none⟩) U2.length cN) ∧ (w'.cell? ⟨bM, oM + k * 2, none⟩ = some (.int .u64 ((lw (bi)).toNat : Int)) ∧ w'.cell? ⟨bM, oM + k * 2 + 1, none⟩ = some (.int .u64 ((hw (bi)).toNat : Int))) ∧ (w'.cell? ⟨bM, oM + j * 2, none⟩ = some (.int .u64 ((lw (bj)).toNat : Int)) ∧ w'.cell? ⟨bM, oM + j * 2 + 1, none⟩ = some (.int .u64 ((hw (bj)).toNat : Int)))) (by kernel_rfl) rfl ⟨BMr.out, BIr.out, BJr.out⟩ (fun _ => ?_)
                  refine wpAnyL_pure (i := 0) (v := .int .i64 (j : Int)) (by simp only [List.getElem?_toArray, List.getElem?_cons_zero] <;> rfl) (by kernel_rfl) (by kernel_rfl) (by kernel_rfl) (by exact fun _ _ _ h => h) (by decide) (.inr ⟨BMr.out, BIr.out, BJr.out⟩) (Or.inl ⟨by rfl, fun w _ => (by simp [execOp, go_sem, Act.eval])⟩) (fun _ => ?_)
                  simp only [Act.put, List.setIfInBounds_toArray, List.set_cons_zero, List.set_cons_succ]
                  refine wpAnyL_pure (i := 1) (v := .bool true) (by simp only [List.getElem?_toArray, List.getElem?_cons_zero, List.getElem?_cons_succ] <;> rfl) (by kernel_rfl) (by kernel_rfl) (by kernel_rfl) (by exact fun _ _ _ h => h) (by decide) (.inr ⟨BMr.out, BIr.out, BJr.out⟩) (Or.inl ⟨by rfl, fun w _ => (by simp [execOp, go_sem, Act.eval, zj0])⟩) (fun _ => ?_)
                  simp only [Act.put, List.setIfInBounds_toArray, List.set_cons_zero, List.set_cons_succ]
                  refine wpAnyL_pure (i := 2) (v := .bool true) (by simp only [List.getElem?_toArray, List.getElem?_cons_zero, List.getElem?_cons_succ] <;> rfl) (by kernel_rfl) (by kernel_rfl) (by kernel_rfl) (by exact fun _ _ _ h => h) (by decide) (.inr ⟨BMr.out, BIr.out, BJr.out⟩) (Or.inl ⟨by rfl, fun w _ => (by simp [execOp, go_sem, Act.eval])⟩) (fun _ => ?_)
                  simp only [Act.put, List.setIfInBounds_toArray, List.set_cons_zero, List.set_cons_succ]
                  refine wpAnyL_pure (i := 3) (v := .pointer (some ⟨pm, 0, none⟩)) (by simp only [List.getElem?_toArray, List.getElem?_cons_zero, List.getElem?_cons_succ] <;> rfl) (by kernel_rfl) (by kernel_rfl) (by kernel_rfl) (by exact fun _ _ _ h => h) (by decide) (.inr ⟨BMr.out, BIr.out, BJr.out⟩) (Or.inl ⟨by rfl, fun w _ => (by simp [execOp, go_sem, Act.eval])⟩) (fun _ => ?_)
                  simp only [Act.put, List.setIfInBounds_toArray, List.set_cons_zero, List.set_cons_succ]
                  refine wpAnyL_load2 (i := 4) (v := .slice (some ⟨bM, oM, none⟩) B2.length cM) (by simp only [List.getElem?_toArray, List.getElem?_cons_zero, List.getElem?_cons_succ] <;> rfl) (by kernel_rfl) (by kernel_rfl) (by kernel_rfl) (by exact fun _ _ _ h => h) (by decide) (Waits.more (j := 14) rfl ⟨⟨14, .chain⟩, by simp, rfl, rfl⟩ (Waits.more (j := 13) rfl ⟨⟨13, .data⟩, by simp, rfl, rfl⟩ (Waits.more (j := 7) rfl ⟨⟨7, .data⟩, by simp, rfl, rfl⟩ (Waits.more (j := 6) rfl ⟨⟨6, .data⟩, by simp, rfl, rfl⟩ (Waits.one rfl ⟨⟨4, .data⟩, by simp, rfl, rfl⟩))))) (by kernel_rfl) (by kernel_rfl) (.inr ⟨BMr.out, BIr.out, BJr.out⟩) (Or.inl ⟨by rfl, fun w hw => (by obtain ⟨x0, _, _⟩ := hw; simp [execOp, go_sem, Act.eval, x0.cells.1])⟩) (fun _ => ?_)
                  simp only [Act.put, List.setIfInBounds_toArray, List.set_cons_zero, List.set_cons_succ]
                  refine wpAnyL_pure (i := 5) (v := .int .i64 (k : Int)) (by simp only [List.getElem?_toArray, List.getElem?_cons_zero, List.getElem?_cons_succ] <;> rfl) (by kernel_rfl) (by kernel_rfl) (by kernel_rfl) (by exact fun _ _ _ h => h) (by decide) (.inr ⟨BMr.out, BIr.out, BJr.out⟩) (Or.inl ⟨by rfl, fun w _ => (by simp [execOp, go_sem, Act.eval])⟩) (fun _ => ?_)
                  simp only [Act.put, List.setIfInBounds_toArray, List.set_cons_zero, List.set_cons_succ]
                  refine wpAnyL_pure (i := 6) (v := .pointer (some ⟨bM, oM + k * 2, none⟩)) (by simp only [List.getElem?_toArray, List.getElem?_cons_zero, List.getElem?_cons_succ] <;> rfl) (by kernel_rfl) (by kernel_rfl) (by kernel_rfl) (by exact fun _ _ _ h => h) (by decide) (.inr ⟨BMr.out, BIr.out, BJr.out⟩) (Or.inl ⟨by rfl, fun w _ => (by simp [execOp, go_sem, Act.eval, zkB])⟩) (fun _ => ?_)
                  simp only [Act.put, List.setIfInBounds_toArray, List.set_cons_zero, List.set_cons_succ]
                  refine wpAnyL_load2 (i := 7) (v := encS (bi)) (by simp only [List.getElem?_toArray, List.getElem?_cons_zero, List.getElem?_cons_succ] <;> rfl) (by kernel_rfl) (by kernel_rfl) (by kernel_rfl) (by exact fun _ _ _ h => h) (by decide) (Waits.more (j := 14) rfl ⟨⟨14, .chain⟩, by simp, rfl, rfl⟩ (Waits.more (j := 13) rfl ⟨⟨13, .data⟩, by simp, rfl, rfl⟩ (Waits.one rfl ⟨⟨7, .data⟩, by simp, rfl, rfl⟩))) (by kernel_rfl) (by kernel_rfl) (.inr ⟨BMr.out, BIr.out, BJr.out⟩) (Or.inl ⟨by rfl, fun w hw => (by obtain ⟨_, ⟨y1, z1⟩, _⟩ := hw; simp [execOp, go_sem, Act.eval, y1, z1])⟩) (fun _ => ?_)
                  simp only [Act.put, List.setIfInBounds_toArray, List.set_cons_zero, List.set_cons_succ]
                  refine wpAnyL_pure (i := 8) (v := .pointer (some ⟨pm, 0, none⟩)) (by simp only [List.getElem?_toArray, List.getElem?_cons_zero, List.getElem?_cons_succ] <;> rfl) (by kernel_rfl) (by kernel_rfl) (by kernel_rfl) (by exact fun _ _ _ h => h) (by decide) (.inr ⟨BMr.out, BIr.out, BJr.out⟩) (Or.inl ⟨by rfl, fun w _ => (by simp [execOp, go_sem, Act.eval])⟩) (fun _ => ?_)
                  simp only [Act.put, List.setIfInBounds_toArray, List.set_cons_zero, List.set_cons_succ]
                  refine wpAnyL_load2 (i := 9) (v := .slice (some ⟨bM, oM, none⟩) B2.length cM) (by simp only [List.getElem?_toArray, List.getElem?_cons_zero, List.getElem?_cons_succ] <;> rfl) (by kernel_rfl) (by kernel_rfl) (by kernel_rfl) (by exact fun _ _ _ h => h) (by decide) (Waits.more (j := 14) rfl ⟨⟨14, .chain⟩, by simp, rfl, rfl⟩ (Waits.more (j := 13) rfl ⟨⟨13, .data⟩, by simp, rfl, rfl⟩ (Waits.more (j := 12) rfl ⟨⟨12, .data⟩, by simp, rfl, rfl⟩ (Waits.more (j := 11) rfl ⟨⟨11, .data⟩, by simp, rfl, rfl⟩ (Waits.one rfl ⟨⟨9, .data⟩, by simp, rfl, rfl⟩))))) (by kernel_rfl) (by kernel_rfl) (.inr ⟨BMr.out, BIr.out, BJr.out⟩) (Or.inl ⟨by rfl, fun w hw => (by obtain ⟨x0, _, _⟩ := hw; simp [execOp, go_sem, Act.eval, x0.cells.1])⟩) (fun _ => ?_)
                  simp only [Act.put, List.setIfInBounds_toArray, List.set_cons_zero, List.set_cons_succ]
                  refine wpAnyL_pure (i := 10) (v := .int .i64 (j : Int)) (by simp only [List.getElem?_toArray, List.getElem?_cons_zero, List.getElem?_cons_succ] <;> rfl) (by kernel_rfl) (by kernel_rfl) (by kernel_rfl) (by exact fun _ _ _ h => h) (by decide) (.inr ⟨BMr.out, BIr.out, BJr.out⟩) (Or.inl ⟨by rfl, fun w _ => (by simp [execOp, go_sem, Act.eval])⟩) (fun _ => ?_)
                  simp only [Act.put, List.setIfInBounds_toArray, List.set_cons_zero, List.set_cons_succ]
                  refine wpAnyL_pure (i := 11) (v := .pointer (some ⟨bM, oM + j * 2, none⟩)) (by simp only [List.getElem?_toArray, List.getElem?_cons_zero, List.getElem?_cons_succ] <;> rfl) (by kernel_rfl) (by kernel_rfl) (by kernel_rfl) (by exact fun _ _ _ h => h) (by decide) (.inr ⟨BMr.out, BIr.out, BJr.out⟩) (Or.inl ⟨by rfl, fun w _ => (by simp [execOp, go_sem, Act.eval, zj])⟩) (fun _ => ?_)
                  simp only [Act.put, List.setIfInBounds_toArray, List.set_cons_zero, List.set_cons_succ]
                  refine wpAnyL_load2 (i := 12) (v := encS (bj)) (by simp only [List.getElem?_toArray, List.getElem?_cons_zero, List.getElem?_cons_succ] <;> rfl) (by kernel_rfl) (by kernel_rfl) (by kernel_rfl) (by exact fun _ _ _ h => h) (by decide) (Waits.more (j := 14) rfl ⟨⟨14, .chain⟩, by simp, rfl, rfl⟩ (Waits.more (j := 13) rfl ⟨⟨13, .data⟩, by simp, rfl, rfl⟩ (Waits.one rfl ⟨⟨12, .data⟩, by simp, rfl, rfl⟩))) (by kernel_rfl) (by kernel_rfl) (.inr ⟨BMr.out, BIr.out, BJr.out⟩) (Or.inl ⟨by rfl, fun w hw => (by obtain ⟨_, _, ⟨y2, z2⟩⟩ := hw; simp [execOp, go_sem, Act.eval, y2, z2])⟩) (fun _ => ?_)
                  simp only [Act.put, List.setIfInBounds_toArray, List.set_cons_zero, List.set_cons_succ]
                  refine wpAnyL_one (i := 13) (by kernel_rfl) (by simp only [List.getElem?_toArray, List.getElem?_cons_zero, List.getElem?_cons_succ] <;> rfl) (by rfl) ?_
                  refine opwp_call (f := 31) (args := #[encS (bi), encS (bj)]) (w' := wr.drew) (by simp [go_sem, Act.eval]) ?_
                  refine (Sub_c bi bj wr.drew).mono ?_
                  rintro e w14 ⟨rfl, hb14⟩
                  have hch1_0 := hid (BMr.out.below hb14 BMr.out.lt)
                  have hch1_1 := hid (show (w14.cell? ⟨bM, oM + k * 2, none⟩ = some (.int .u64 ((lw (bi)).toNat : Int)) ∧ w14.cell? ⟨bM, oM + k * 2 + 1, none⟩ = some (.int .u64 ((hw (bi)).toNat : Int))) from ⟨(hb14.cell (cell_lt BIr.out.1)).trans BIr.out.1, (hb14.cell (cell_lt BIr.out.2)).trans BIr.out.2⟩)
                  have hch1_2 := hid (show (w14.cell? ⟨bM, oM + j * 2, none⟩ = some (.int .u64 ((lw (bj)).toNat : Int)) ∧ w14.cell? ⟨bM, oM + j * 2 + 1, none⟩ = some (.int .u64 ((hw (bj)).toNat : Int))) from ⟨(hb14.cell (cell_lt BJr.out.1)).trans BJr.out.1, (hb14.cell (cell_lt BJr.out.2)).trans BJr.out.2⟩)
                  rw [HAP.out.1]
                  refine .inl ⟨_, rfl, .inr ⟨hch1_0.out, hch1_1.out, hch1_2.out⟩, ?_⟩
                  simp only [Act.put, List.setIfInBounds_toArray, List.set_cons_zero, List.set_cons_succ]
                  refine wpAnyL_pure (i := 14) (v := .bool false) (by simp only [List.getElem?_toArray, List.getElem?_cons_zero, List.getElem?_cons_succ] <;> rfl) (by kernel_rfl) (by kernel_rfl) (by kernel_rfl) (by exact fun _ _ _ h => h) (by decide) (.inr ⟨hch1_0.out, hch1_1.out, hch1_2.out⟩) (Or.inl ⟨by rfl, fun w _ => (by simp [execOp, go_sem, Act.eval])⟩) (fun _ => ?_)
                  simp only [Act.put, List.setIfInBounds_toArray, List.set_cons_zero, List.set_cons_succ]
                  refine wpAnyL_pure (i := 15) (v := .pointer (some ⟨pm, 0, none⟩)) (by simp only [List.getElem?_toArray, List.getElem?_cons_zero, List.getElem?_cons_succ] <;> rfl) (by kernel_rfl) (by kernel_rfl) (by kernel_rfl) (by exact fun _ _ _ h => h) (by decide) (.inr ⟨hch1_0.out, hch1_1.out, hch1_2.out⟩) (Or.inl ⟨by rfl, fun w _ => (by simp [execOp, go_sem, Act.eval])⟩) (fun _ => ?_)
                  simp only [Act.put, List.setIfInBounds_toArray, List.set_cons_zero, List.set_cons_succ]
                  refine wpAnyL_load2 (i := 16) (v := .slice (some ⟨bM, oM, none⟩) B2.length cM) (by simp only [List.getElem?_toArray, List.getElem?_cons_zero, List.getElem?_cons_succ] <;> rfl) (by kernel_rfl) (by kernel_rfl) (by kernel_rfl) (by exact fun _ _ _ h => h) (by decide) (Waits.more (j := 19) rfl ⟨⟨19, .data⟩, by simp, rfl, rfl⟩ (Waits.more (j := 18) rfl ⟨⟨18, .data⟩, by simp, rfl, rfl⟩ (Waits.one rfl ⟨⟨16, .data⟩, by simp, rfl, rfl⟩))) (by kernel_rfl) (by kernel_rfl) (.inr ⟨hch1_0.out, hch1_1.out, hch1_2.out⟩) (Or.inl ⟨by rfl, fun w hw => (by obtain ⟨x0, _, _⟩ := hw; simp [execOp, go_sem, Act.eval, x0.cells.1])⟩) (fun _ => ?_)
                  simp only [Act.put, List.setIfInBounds_toArray, List.set_cons_zero, List.set_cons_succ]
                  refine wpAnyL_pure (i := 17) (v := .int .i64 (j : Int)) (by simp only [List.getElem?_toArray, List.getElem?_cons_zero, List.getElem?_cons_succ] <;> rfl) (by kernel_rfl) (by kernel_rfl) (by kernel_rfl) (by exact fun _ _ _ h => h) (by decide) (.inr ⟨hch1_0.out, hch1_1.out, hch1_2.out⟩) (Or.inl ⟨by rfl, fun w _ => (by simp [execOp, go_sem, Act.eval])⟩) (fun _ => ?_)
                  simp only [Act.put, List.setIfInBounds_toArray, List.set_cons_zero, List.set_cons_succ]
                  refine wpAnyL_pure (i := 18) (v := .pointer (some ⟨bM, oM + j * 2, none⟩)) (by simp only [List.getElem?_toArray, List.getElem?_cons_zero, List.getElem?_cons_succ] <;> rfl) (by kernel_rfl) (by kernel_rfl) (by kernel_rfl) (by exact fun _ _ _ h => h) (by decide) (.inr ⟨hch1_0.out, hch1_1.out, hch1_2.out⟩) (Or.inl ⟨by rfl, fun w _ => (by simp [execOp, go_sem, Act.eval, zj])⟩) (fun _ => ?_)
                  simp only [Act.put, List.setIfInBounds_toArray, List.set_cons_zero, List.set_cons_succ]
                  refine wpAnyL_load2 (i := 19) (v := encS (bj)) (by simp only [List.getElem?_toArray, List.getElem?_cons_zero, List.getElem?_cons_succ] <;> rfl) (by kernel_rfl) (by kernel_rfl) (by kernel_rfl) (by exact fun _ _ _ h => h) (by decide) (Waits.one rfl ⟨⟨19, .data⟩, by simp, rfl, rfl⟩) (by kernel_rfl) (by kernel_rfl) (.inr ⟨hch1_0.out, hch1_1.out, hch1_2.out⟩) (Or.inl ⟨by rfl, fun w hw => (by obtain ⟨_, _, ⟨y2, z2⟩⟩ := hw; simp [execOp, go_sem, Act.eval, y2, z2])⟩) (fun _ => ?_)
                  simp only [Act.put, List.setIfInBounds_toArray, List.set_cons_zero, List.set_cons_succ]
                  refine wpAnyL_pure (i := 20) (v := .pointer (some ⟨pm, 0, none⟩)) (by simp only [List.getElem?_toArray, List.getElem?_cons_zero, List.getElem?_cons_succ] <;> rfl) (by kernel_rfl) (by kernel_rfl) (by kernel_rfl) (by exact fun _ _ _ h => h) (by decide) (.inr ⟨hch1_0.out, hch1_1.out, hch1_2.out⟩) (Or.inl ⟨by rfl, fun w _ => (by simp [execOp, go_sem, Act.eval])⟩) (fun _ => ?_)
                  simp only [Act.put, List.setIfInBounds_toArray, List.set_cons_zero, List.set_cons_succ]
                  refine wpAnyL_load2 (i := 21) (v := .slice (some ⟨bM, oM, none⟩) B2.length cM) (by simp only [List.getElem?_toArray, List.getElem?_cons_zero, List.getElem?_cons_succ] <;> rfl) (by kernel_rfl) (by kernel_rfl) (by kernel_rfl) (by exact fun _ _ _ h => h) (by decide) (Waits.more (j := 24) rfl ⟨⟨24, .data⟩, by simp, rfl, rfl⟩ (Waits.more (j := 23) rfl ⟨⟨23, .data⟩, by simp, rfl, rfl⟩ (Waits.one rfl ⟨⟨21, .data⟩, by simp, rfl, rfl⟩))) (by kernel_rfl) (by kernel_rfl) (.inr ⟨hch1_0.out, hch1_1.out, hch1_2.out⟩) (Or.inl ⟨by rfl, fun w hw => (by obtain ⟨x0, _, _⟩ := hw; simp [execOp, go_sem, Act.eval, x0.cells.1])⟩) (fun _ => ?_)
                  simp only [Act.put, List.setIfInBounds_toArray, List.set_cons_zero, List.set_cons_succ]
                  refine wpAnyL_pure (i := 22) (v := .int .i64 (k : Int)) (by simp only [List.getElem?_toArray, List.getElem?_cons_zero, List.getElem?_cons_succ] <;> rfl) (by kernel_rfl) (by kernel_rfl) (by kernel_rfl) (by exact fun _ _ _ h => h) (by decide) (.inr ⟨hch1_0.out, hch1_1.out, hch1_2.out⟩) (Or.inl ⟨by rfl, fun w _ => (by simp [execOp, go_sem, Act.eval])⟩) (fun _ => ?_)
                  simp only [Act.put, List.setIfInBounds_toArray, List.set_cons_zero, List.set_cons_succ]
                  refine wpAnyL_pure (i := 23) (v := .pointer (some ⟨bM, oM + k * 2, none⟩)) (by simp only [List.getElem?_toArray, List.getElem?_cons_zero, List.getElem?_cons_succ] <;> rfl) (by kernel_rfl) (by kernel_rfl) (by kernel_rfl) (by exact fun _ _ _ h => h) (by decide) (.inr ⟨hch1_0.out, hch1_1.out, hch1_2.out⟩) (Or.inl ⟨by rfl, fun w _ => (by simp [execOp, go_sem, Act.eval, zkB])⟩) (fun _ => ?_)
                  simp only [Act.put, List.setIfInBounds_toArray, List.set_cons_zero, List.set_cons_succ]
                  refine wpAnyL_load2 (i := 24) (v := encS (bi)) (by simp only [List.getElem?_toArray, List.getElem?_cons_zero, List.getElem?_cons_succ] <;> rfl) (by kernel_rfl) (by kernel_rfl) (by kernel_rfl) (by exact fun _ _ _ h => h) (by decide) (Waits.one rfl ⟨⟨24, .data⟩, by simp, rfl, rfl⟩) (by kernel_rfl) (by kernel_rfl) (.inr ⟨hch1_0.out, hch1_1.out, hch1_2.out⟩) (Or.inl ⟨by rfl, fun w hw => (by obtain ⟨_, ⟨y1, z1⟩, _⟩ := hw; simp [execOp, go_sem, Act.eval, y1, z1])⟩) (fun _ => ?_)
                  simp only [Act.put, List.setIfInBounds_toArray, List.set_cons_zero, List.set_cons_succ]
                  refine wpAnyL_one (i := 25) (by kernel_rfl) (by simp only [List.getElem?_toArray, List.getElem?_cons_zero, List.getElem?_cons_succ] <;> rfl) (by rfl) ?_
                  refine opwp_call (f := 31) (args := #[encS (bj), encS (bi)]) (w' := w14) (by simp [go_sem, Act.eval]) ?_
                  refine (Sub_c bj bi w14).mono ?_
                  rintro e w15 ⟨rfl, hb15⟩
                  rw [HAP.out.2]
                  refine .inl ⟨_, rfl, .inl (by kernel_rfl), ?_⟩
                  simp only [Act.put, List.setIfInBounds_toArray, List.set_cons_zero, List.set_cons_succ]
                  refine wpAnyL_pure (i := 26) (v := .bool false) (by simp only [List.getElem?_toArray, List.getElem?_cons_zero, List.getElem?_cons_succ] <;> rfl) (by kernel_rfl) (by kernel_rfl) (by kernel_rfl) (by exact fun _ _ _ h => h) (by decide) (.inl (by kernel_rfl)) (Or.inl ⟨by rfl, fun w _ => (by simp [execOp, go_sem, Act.eval])⟩) (fun _ => ?_)
                  simp only [Act.put, List.setIfInBounds_toArray, List.set_cons_zero, List.set_cons_succ]
                  refine wpAnyL_pure (i := 27) (v := .bool false) (by simp only [List.getElem?_toArray, List.getElem?_cons_zero, List.getElem?_cons_succ] <;> rfl) (by kernel_rfl) (by kernel_rfl) (by kernel_rfl) (by exact fun _ _ _ h => h) (by decide) (.inl (by kernel_rfl)) (Or.inl ⟨by rfl, fun w _ => (by simp [execOp, go_sem, Act.eval])⟩) (fun _ => ?_)
                  simp only [Act.put, List.setIfInBounds_toArray, List.set_cons_zero, List.set_cons_succ]
                  refine wpAnyL_done (by kernel_rfl) ?_ _
                  have hbb := (((Below.refl wr.heap.size wr).drew).trans hb14).trans (hb15.mono (Nat.le_trans (Nat.le_refl _) hb14.size))
                  have HBd := hid (hbr.out.trans (hbb.mono hbr.out.size))
                  have HMd := hid (hbm.out.below hbb hbm.out.lt)
                  clear hbr hbm hbb hb14 hb15 BMr BIr BJr
                  go_wp2_with fail
                  go_roundw
                  case rel => exact ⟨k + 1, by omega, by go_num, HBd.out, HMd.out⟩
                  case measure => simp [intOf]; omega
              · obtain rfl : k = U2.length := by omega
                have hbd := hbr.out.drew
                have HBd := hid hbd
                have BMe : Hid (Box2 wr.drew pm 25 (.slice pM B2.length cM) (.slice pN U2.length cN)) := hbm.out
                have HBWe := hid (HBWd.out.trans (hbd.mono HBWd.out.size))
                have HSe := hid (fun w' (h : Below wr.drew.heap.size wr.drew w') => HSd.out w' (HBd.out.trans (h.mono HBd.out.size)))
                have HIe := hid (fun w' (h : Below wr.drew.heap.size wr.drew w') => HId.out w' (HBd.out.trans (h.mono HBd.out.size)))
                have HWe := hid (fun w' (h : Below wr.drew.heap.size wr.drew w') => HW.out w' (HBWe.out.trans (h.mono HBWe.out.size)))
                have HBS := hid (Below.refl wr.drew.heap.size wr.drew)
                clear hbd hbr hbm
                go_wp2_with fail
                refine Go.Proofs.YtmlecpapoeodkaaDoor.wp_region_L 10 5 (fun w' => Box2 w' (pm) 25 (.slice pM B2.length cM) (.slice pN U2.length cN)) (by kernel_rfl) rfl BMe.out (fun _ => ?_)
                refine wpAnyL_load2 (i := 0) (v := .agg #[.slice pM B2.length cM, .slice pN U2.length cN]) (by simp only [List.getElem?_toArray, List.getElem?_cons_zero] <;> rfl) (by kernel_rfl) (by kernel_rfl) (by kernel_rfl) (by exact fun _ _ _ h => h) (by decide) (Waits.more (j := 2) rfl ⟨⟨2, .data⟩, by simp, rfl, rfl⟩ (Waits.more (j := 1) rfl ⟨⟨1, .data⟩, by simp, rfl, rfl⟩ (Waits.one rfl ⟨⟨0, .data⟩, by simp, rfl, rfl⟩))) (by kernel_rfl) (by kernel_rfl) (.inr BMe.out) (Or.inl ⟨by rfl, fun w hw => (by have x0 := hw; simp [execOp, go_sem, Act.eval, x0.cells.1, x0.cells.2.1])⟩) (fun _ => ?_)
                simp only [Act.put, List.setIfInBounds_toArray, List.set_cons_zero, List.set_cons_succ]
                refine wpAnyL_load2 (i := 3) (v := .agg #[.slice pM B2.length cM, .slice pN U2.length cN]) (by simp only [List.getElem?_toArray, List.getElem?_cons_zero, List.getElem?_cons_succ] <;> rfl) (by kernel_rfl) (by kernel_rfl) (by kernel_rfl) (by exact fun _ _ _ h => h) (by decide) (Waits.more (j := 4) rfl ⟨⟨4, .data⟩, by simp, rfl, rfl⟩ (Waits.one rfl ⟨⟨3, .data⟩, by simp, rfl, rfl⟩)) (by kernel_rfl) (by kernel_rfl) (.inr BMe.out) (Or.inl ⟨by rfl, fun w hw => (by have x0 := hw; simp [execOp, go_sem, Act.eval, x0.cells.1, x0.cells.2.1])⟩) (fun _ => ?_)
                simp only [Act.put, List.setIfInBounds_toArray, List.set_cons_zero, List.set_cons_succ]
                refine wpAnyL_one (i := 1) (by kernel_rfl) (by simp only [List.getElem?_toArray, List.getElem?_cons_zero, List.getElem?_cons_succ] <;> rfl) (by rfl) ?_
                refine opwp_call (f := 18) (args := #[.agg #[.slice pM B2.length cM, .slice pN U2.length cN]]) (w' := wr.drew) (by simp [go_sem, Act.eval]) ?_
                refine (Merge_c _ _ B2 U2 wr.drew (HSe.out _ HBS.out) (HIe.out _ HBS.out) (by omega) (by omega)).mono ?_
                rintro e w16 ⟨vB3, vU3, B3, U3, rfl, o1, o2, hb16, hmt3⟩
                have hcm1_0 := hid (BMe.out.below hb16 BMe.out.lt)
                have hBm1 := HBS.out.trans (hb16.mono HBS.out.size)
                obtain ⟨e1, e2⟩ := HGD.out.again _ _ hmt3
                subst B3; subst U3
                have hs16 := o1.sets
                have hi16 := o2.ints
                obtain ⟨p9, c9, e9, _⟩ := o1.sets
                obtain ⟨q9, d9, f9, _⟩ := o2.ints
                subst e9; subst f9
                refine .inl ⟨_, rfl, .inr hcm1_0.out, ?_⟩
                simp only [Act.put, List.setIfInBounds_toArray, List.set_cons_zero, List.set_cons_succ]
                refine wpAnyL_one (i := 2) (by kernel_rfl) (by simp only [List.getElem?_toArray, List.getElem?_cons_zero, List.getElem?_cons_succ] <;> rfl) (by rfl) ?_
                refine opwp_call (f := 17) (args := #[.agg #[.slice p9 B2.length c9, .slice q9 U2.length d9]]) (w' := w16) (by simp [go_sem, Act.eval]) ?_
                refine (taken_c p9 q9 B2.length c9 U2.length d9 w16).mono ?_
                rintro e w17 ⟨rfl, hb17⟩
                have hcm2_0 := hid (hcm1_0.out.below hb17 hcm1_0.out.lt)
                have hBm2 := hBm1.trans (hb17.mono hBm1.size)
                refine .inl ⟨_, rfl, .inr hcm2_0.out, ?_⟩
                simp only [Act.put, List.setIfInBounds_toArray, List.set_cons_zero, List.set_cons_succ]
                refine wpAnyL_one (i := 4) (by kernel_rfl) (by simp only [List.getElem?_toArray, List.getElem?_cons_zero, List.getElem?_cons_succ] <;> rfl) (by rfl) ?_
                refine opwp_call (f := 17) (args := #[.agg #[.slice pM B2.length cM, .slice pN U2.length cN]]) (w' := w17) (by simp [go_sem, Act.eval]) ?_
                refine (taken_c pM pN B2.length cM U2.length cN w17).mono ?_
                rintro e w18 ⟨rfl, hb18⟩
                have hcm3_0 := hid (hcm2_0.out.below hb18 hcm2_0.out.lt)
                have hBm3 := hBm2.trans (hb18.mono hBm2.size)
                have HSM := hid (same_c _ _ _ _ B2 B2 U2 U2 w18 ((hs16.below hb17).below hb18) ((hi16.below hb17).below hb18) (HSe.out _ hBm3) (HIe.out _ hBm3) (by omega) (by omega) (by omega) (by omega))
                rw [show decide (B2 = B2 ∧ U2 = U2) = true from by simp] at HSM
                refine .inl ⟨_, rfl, .inr hcm3_0.out, ?_⟩
                simp only [Act.put, List.setIfInBounds_toArray, List.set_cons_zero, List.set_cons_succ]
                refine wpAnyL_one (i := 5) (by kernel_rfl) (by simp only [List.getElem?_toArray, List.getElem?_cons_zero, List.getElem?_cons_succ] <;> rfl) (by rfl) ?_
                refine opwp_call (f := 16) (args := #[.agg #[.slice p9 B2.length c9, .slice q9 U2.length d9], .agg #[.slice pM B2.length cM, .slice pN U2.length cN]]) (w' := w18) (by simp [go_sem, Act.eval]) ?_
                refine (HSM.out).mono ?_
                rintro e w19 ⟨rfl, hb19⟩
                have hBm4 := hBm3.trans (hb19.mono hBm3.size)
                refine .inl ⟨_, rfl, .inl (by kernel_rfl), ?_⟩
                simp only [Act.put, List.setIfInBounds_toArray, List.set_cons_zero, List.set_cons_succ]
                refine wpAnyL_pure (i := 6) (v := .bool true) (by simp only [List.getElem?_toArray, List.getElem?_cons_zero, List.getElem?_cons_succ] <;> rfl) (by kernel_rfl) (by kernel_rfl) (by kernel_rfl) (by exact fun _ _ _ h => h) (by decide) (.inl (by kernel_rfl)) (Or.inl ⟨by rfl, fun w _ => (by simp [execOp, go_sem, Act.eval])⟩) (fun _ => ?_)
                simp only [Act.put, List.setIfInBounds_toArray, List.set_cons_zero, List.set_cons_succ]
                refine wpAnyL_one (i := 7) (by kernel_rfl) (by simp only [List.getElem?_toArray, List.getElem?_cons_zero, List.getElem?_cons_succ] <;> rfl) (by rfl) ?_
                refine opwp_call (f := 21) (args := #[]) (w' := w19) (by simp [go_sem]) ?_
                refine (HWe.out _ hBm4).mono ?_
                rintro e w20 ⟨rfl, hb20⟩
                have hBm5 := hBm4.trans (hb20.mono hBm4.size)
                refine .inl ⟨_, rfl, .inl (by kernel_rfl), ?_⟩
                simp only [Act.put, List.setIfInBounds_toArray, List.set_cons_zero, List.set_cons_succ]
                refine wpAnyL_pure (i := 8) (v := .bool true) (by simp only [List.getElem?_toArray, List.getElem?_cons_zero, List.getElem?_cons_succ] <;> rfl) (by kernel_rfl) (by kernel_rfl) (by kernel_rfl) (by exact fun _ _ _ h => h) (by decide) (.inl (by kernel_rfl)) (Or.inl ⟨by rfl, fun w _ => (by simp [execOp, go_sem, Act.eval])⟩) (fun _ => ?_)
                simp only [Act.put, List.setIfInBounds_toArray, List.set_cons_zero, List.set_cons_succ]
                refine wpAnyL_pure (i := 9) (v := .bool true) (by simp only [List.getElem?_toArray, List.getElem?_cons_zero, List.getElem?_cons_succ] <;> rfl) (by kernel_rfl) (by kernel_rfl) (by kernel_rfl) (by exact fun _ _ _ h => h) (by decide) (.inl (by kernel_rfl)) (Or.inl ⟨by rfl, fun w _ => (by simp [execOp, go_sem, Act.eval])⟩) (fun _ => ?_)
                simp only [Act.put, List.setIfInBounds_toArray, List.set_cons_zero, List.set_cons_succ]
                refine wpAnyL_done (by kernel_rfl) ?_ _
                have hend := HBWe.out.trans (hBm5.mono HBWe.out.size)
                go_wp2_with fail
                go_ret
                exact ⟨rfl, hend⟩
          · have hk1 : (checkW L (B) (U) != 0) = true := by simpa using hck
            generalize checkW L (B) (U) = ck at *
            go_wp2_with fail
            refine (HW.out _ HBW8.out).mono ?_
            rintro e w9 ⟨rfl, hb9⟩
            have hB9 := HBW8.out.trans (hb9.mono HBW8.out.size)
            go_wp2_with fail
            go_ret
            exact ⟨rfl, hB9⟩
        · have hX7 := hoB.sets
          have hY7 := hoU.ints
          obtain ⟨pB, cB, eB, _⟩ := hoB.sets
          obtain ⟨pU, cU, eU, _⟩ := hoU.ints
          have hbl : (bagsP (gOf L) l).length = l.length := bagsP_length _ _
          have hul : (upsP (gOf L) l).length = l.length := upsP_length _ _
          have hb6 := HBX6.out
          have hg := grownBy_01 w6 px vB vU
          have hpw : w.heap.size ≤ px := HPW.out
          have hx9 := hX7.kept9 hg (fun x n c e => by have h1 := (World.ownsRow.lt hoB x.block (by rw [e]; rfl)).1; intro e2; have := Option.some.inj e2; omega)
          have hy9 := IntsAt.kept9 hY7 hg (fun x n c e => by have h1 := (World.ownsRow.lt hoU x.block (by rw [e]; rfl)).1; intro e2; have := Option.some.inj e2; omega)
          have hba : Below ((w6.setCell ⟨px, 0, none⟩ vB).setCell ⟨px, 1, none⟩ vU).heap.size ((w6.setCell ⟨px, 0, none⟩ vB).setCell ⟨px, 1, none⟩ vU) (((w6.setCell ⟨px, 0, none⟩ vB).setCell ⟨px, 1, none⟩ vU).alloc (.cells #[vB, vU] 25)) := (Below.refl _ _).alloc (Nat.le_refl _) _
          have hbw := below_01 HBW6.out hpw vB vU
          have BX9 := hid ((hb6.set01 vB vU).alloc (.cells #[vB, vU] 25))
          have BW9 := hid (hbw.alloc hbw.size (.cells #[vB, vU] 25))
          have X9 := hid (hx9.below hba)
          have Y9 := hid (hy9.below hba)
          obtain ⟨k0, k1, k2, k3⟩ := (hb6.alloc (.cells #[vB, vU] 25)).cells
          obtain ⟨n0, n1, n2, n3⟩ := ((hb6.set0 vB).alloc (.cells #[vB, vU] 25)).cells
          obtain ⟨m0, m1, _, _⟩ := (Box2.new w6 25 vB vU).cells
          generalize bagsP (gOf L) l = BB at *
          generalize upsP (gOf L) l = UU at *
          subst eB; subst eU
          clear hX7 hY7 hba hb6 hg hx9 hy9 hbw hoB hoU HBX6 HX6 HY6 HBW6 hv ho
          have hbl2 : BB.length ≤ 128 := by omega
          have hul2 : UU.length ≤ 128 := by omega
          clear hbl hul
          go_upto_region 7 with fail
          generalize ((w6.setCell ⟨px, 0, none⟩ (.slice pB BB.length cB)).setCell ⟨px, 1, none⟩ (.slice pU UU.length cU)).alloc (.cells #[.slice pB BB.length cB, .slice pU UU.length cU] 25) = w7 at *
          clear k0 k1 k2 k3 m0 m1 n0 n1 n2 n3
          obtain ⟨k0, k1, _, _⟩ := BX9.out.cells
          have HCK := hid (Check_c _ _ _ L (BB) (UU) w7 (HI.out _ BW9.out) X9.out Y9.out (hT.below hT.lt BW9.out) (by omega) (by omega) (by omega))
          go_wp2_with fail
          refine HCK.out.mono ?_
          rintro e w8 ⟨rfl, hb8⟩
          have HBX8 := hid (BX9.out.below hb8 BX9.out.lt)
          have HX8 := hid (X9.out.below hb8)
          have HY8 := hid (Y9.out.below hb8)
          have HBW8 := hid (BW9.out.trans (hb8.mono BW9.out.size))
          have hpl8 : px < w8.heap.size := HBX8.out.lt
          clear k0 k1 HCK hb8
          by_cases hck : checkW L (BB) (UU) = 0
          · have HMGD := hid (fun B2 U2 h => MergeGood.of (B2 := B2) (U2 := U2) hck h)
            generalize hcv : checkW L (BB) (UU) = ck at *
            subst hck
            clear hcv
            have HMG := hid (Merge_c _ _ (BB) (UU) w8 HX8.out HY8.out (by omega) (by omega))
            obtain ⟨k0, k1, _, _⟩ := HBX8.out.cells
            go_wp2_with fail
            refine HMG.out.mono ?_
            rintro e w9 ⟨vB, vU, B2, U2, rfl, o1, o2, hb9, hmt⟩
            have hgood := HMGD.out _ _ hmt
            obtain ⟨pM, cM, e1, _⟩ := o1.sets
            obtain ⟨pN, cN, e2, _⟩ := o2.ints
            have hal : Below w9.heap.size w9 (w9.alloc (.cells #[vB, vU] 25)) := (Below.refl _ w9).alloc (Nat.le_refl _) _
            have hb910 := hb9.trans (hal.mono hb9.size)
            have HS10 := hid (o1.sets.below hal)
            have HI10 := hid (o2.ints.below hal)
            have HBM10 := hid (Box2.new w9 25 vB vU)
            have HBX10 := hid (HBX8.out.below hb910 HBX8.out.lt)
            have HX10 := hid (HX8.out.below hb910)
            have HBW10 := hid (HBW8.out.trans (hb910.mono HBW8.out.size))
            have HGD := hid hgood
            have hle := hgood.le
            have hlu2 := hgood.len
            have hlu : U2.length ≤ 200 := by omega
            have HLU := hid hlu2
            subst e1; subst e2
            clear k0 k1 HMG HMGD hmt hgood o1 o2 hb9 hb910 hal HBX8 HX8 HY8 HBW8 hpl8 hlu2
            go_wp2_with fail
            generalize w9.alloc (.cells #[.slice pM B2.length cM, .slice pN U2.length cN] 25) = w10 at *
            generalize w9.heap.size = pm at *
            have hbd := (Below.refl w10.heap.size w10).drew
            have HSd := hid (fun w' (h : Below w10.drew.heap.size w10.drew w') => (HS10.out.below hbd).below h)
            have HId := hid (fun w' (h : Below w10.drew.heap.size w10.drew w') => (HI10.out.below hbd).below h)
            have HXd := hid (fun w' (h : Below w10.drew.heap.size w10.drew w') => (HX10.out.below hbd).below h)
            have HBWd := hid HBW10.out.drew
            have HEd := hid (fun w' (h : Below w10.drew.heap.size w10.drew w') => HI.out w' (HBWd.out.trans (h.mono HBWd.out.size)))
            have HTd := hid (fun w' (h : Below w10.drew.heap.size w10.drew w') => hT.below hT.lt (HBWd.out.trans (h.mono HBWd.out.size)))
            have BM : Hid (Box2 w10.drew pm 25 (.slice pM B2.length cM) (.slice pN U2.length cN)) := HBM10.out
            have BXX : Hid (Box2 w10.drew px 25 (.slice pB BB.length cB) (.slice pU UU.length cU)) := HBX10.out
            have HBM0 := hid (HBM10.out.below hbd HBM10.out.lt)
            have HBS := hid (Below.refl w10.drew.heap.size w10.drew)
            have HC2 := hid (Check_c _ _ _ L B2 U2 w10.drew (HEd.out _ HBS.out) (HSd.out _ HBS.out) (HId.out _ HBS.out) (HTd.out _ HBS.out) (by omega) (by omega) (by omega))
            rw [HGD.out.check] at HC2
            clear hbd HS10 HI10 HX10 HBW10 HBM10 HBX10
            refine Go.Proofs.YtmlecpapoeodkaaDoor.wp_region_L 20 18 (fun w' => Box2 w' (pm) 25 (.slice pM B2.length cM) (.slice pN U2.length cN) ∧ Box2 w' (px) 25 (.slice pB BB.length cB) (.slice pU UU.length cU)) (by kernel_rfl) rfl ⟨BM.out, BXX.out⟩ (fun _ => ?_)
            refine wpAnyL_pure (i := 0) (v := .slice p L.length c) (by simp only [List.getElem?_toArray, List.getElem?_cons_zero] <;> rfl) (by kernel_rfl) (by kernel_rfl) (by kernel_rfl) (by exact fun _ _ _ h => h) (by decide) (.inr ⟨BM.out, BXX.out⟩) (Or.inl ⟨by rfl, fun w _ => (by simp [execOp, go_sem, Act.eval])⟩) (fun _ => ?_)
            simp only [Act.put, List.setIfInBounds_toArray, List.set_cons_zero, List.set_cons_succ]
            refine wpAnyL_load2 (i := 1) (v := .agg #[.slice pM B2.length cM, .slice pN U2.length cN]) (by simp only [List.getElem?_toArray, List.getElem?_cons_zero, List.getElem?_cons_succ] <;> rfl) (by kernel_rfl) (by kernel_rfl) (by kernel_rfl) (by exact fun _ _ _ h => h) (by decide) (Waits.more (j := 11) rfl ⟨⟨11, .guard⟩, by simp, rfl, rfl⟩ (Waits.more (j := 10) rfl ⟨⟨10, .data⟩, by simp, rfl, rfl⟩ (Waits.more (j := 4) rfl ⟨⟨4, .data⟩, by simp, rfl, rfl⟩ (Waits.more (j := 2) rfl ⟨⟨2, .chain⟩, by simp, rfl, rfl⟩ (Waits.one rfl ⟨⟨1, .data⟩, by simp, rfl, rfl⟩))))) (by kernel_rfl) (by kernel_rfl) (.inr ⟨BM.out, BXX.out⟩) (Or.inl ⟨by rfl, fun w hw => (by obtain ⟨x0, _⟩ := hw; simp [execOp, go_sem, Act.eval, x0.cells.1, x0.cells.2.1])⟩) (fun _ => ?_)
            simp only [Act.put, List.setIfInBounds_toArray, List.set_cons_zero, List.set_cons_succ]
            refine wpAnyL_one (i := 2) (by kernel_rfl) (by simp only [List.getElem?_toArray, List.getElem?_cons_zero, List.getElem?_cons_succ] <;> rfl) (by rfl) ?_
            refine opwp_call (f := 20) (args := #[.slice p L.length c, .agg #[.slice pM B2.length cM, .slice pN U2.length cN]]) (w' := w10.drew) (by simp [go_sem, Act.eval]) ?_
            refine (HC2.out).mono ?_
            rintro e w11 ⟨rfl, hb11⟩
            have hcn1_0 := hid (BM.out.below hb11 BM.out.lt)
            have hcn1_1 := hid (BXX.out.below hb11 BXX.out.lt)
            have hBn1 := HBS.out.trans (hb11.mono HBS.out.size)
            refine .inl ⟨_, rfl, .inr ⟨hcn1_0.out, hcn1_1.out⟩, ?_⟩
            simp only [Act.put, List.setIfInBounds_toArray, List.set_cons_zero, List.set_cons_succ]
            refine wpAnyL_pure (i := 3) (v := .bool false) (by simp only [List.getElem?_toArray, List.getElem?_cons_zero, List.getElem?_cons_succ] <;> rfl) (by kernel_rfl) (by kernel_rfl) (by kernel_rfl) (by exact fun _ _ _ h => h) (by decide) (.inr ⟨hcn1_0.out, hcn1_1.out⟩) (Or.inl ⟨by rfl, fun w _ => (by simp [execOp, go_sem, Act.eval])⟩) (fun _ => ?_)
            simp only [Act.put, List.setIfInBounds_toArray, List.set_cons_zero, List.set_cons_succ]
            refine wpAnyL_pure (i := 4) (v := .bool false) (by simp only [List.getElem?_toArray, List.getElem?_cons_zero, List.getElem?_cons_succ] <;> rfl) (by kernel_rfl) (by kernel_rfl) (by kernel_rfl) (by exact fun _ _ _ h => h) (by decide) (.inr ⟨hcn1_0.out, hcn1_1.out⟩) (Or.inl ⟨by rfl, fun w _ => (by simp [execOp, go_sem, Act.eval])⟩) (fun _ => ?_)
            simp only [Act.put, List.setIfInBounds_toArray, List.set_cons_zero, List.set_cons_succ]
            refine wpAnyL_load2 (i := 5) (v := .agg #[.slice pM B2.length cM, .slice pN U2.length cN]) (by simp only [List.getElem?_toArray, List.getElem?_cons_zero, List.getElem?_cons_succ] <;> rfl) (by kernel_rfl) (by kernel_rfl) (by kernel_rfl) (by exact fun _ _ _ h => h) (by decide) (Waits.more (j := 11) rfl ⟨⟨11, .guard⟩, by simp, rfl, rfl⟩ (Waits.more (j := 8) rfl ⟨⟨8, .chain⟩, by simp, rfl, rfl⟩ (Waits.more (j := 6) rfl ⟨⟨6, .chain⟩, by simp, rfl, rfl⟩ (Waits.one rfl ⟨⟨5, .data⟩, by simp, rfl, rfl⟩)))) (by kernel_rfl) (by kernel_rfl) (.inr ⟨hcn1_0.out, hcn1_1.out⟩) (Or.inl ⟨by rfl, fun w hw => (by obtain ⟨x0, _⟩ := hw; simp [execOp, go_sem, Act.eval, x0.cells.1, x0.cells.2.1])⟩) (fun _ => ?_)
            simp only [Act.put, List.setIfInBounds_toArray, List.set_cons_zero, List.set_cons_succ]
            refine wpAnyL_load2 (i := 7) (v := .agg #[.slice pB BB.length cB, .slice pU UU.length cU]) (by simp only [List.getElem?_toArray, List.getElem?_cons_zero, List.getElem?_cons_succ] <;> rfl) (by kernel_rfl) (by kernel_rfl) (by kernel_rfl) (by exact fun _ _ _ h => h) (by decide) (Waits.more (j := 11) rfl ⟨⟨11, .guard⟩, by simp, rfl, rfl⟩ (Waits.more (j := 8) rfl ⟨⟨8, .chain⟩, by simp, rfl, rfl⟩ (Waits.one rfl ⟨⟨7, .data⟩, by simp, rfl, rfl⟩))) (by kernel_rfl) (by kernel_rfl) (.inr ⟨hcn1_0.out, hcn1_1.out⟩) (Or.inl ⟨by rfl, fun w hw => (by obtain ⟨_, x1⟩ := hw; simp [execOp, go_sem, Act.eval, x1.cells.1, x1.cells.2.1])⟩) (fun _ => ?_)
            simp only [Act.put, List.setIfInBounds_toArray, List.set_cons_zero, List.set_cons_succ]
            refine wpAnyL_one (i := 6) (by kernel_rfl) (by simp only [List.getElem?_toArray, List.getElem?_cons_zero, List.getElem?_cons_succ] <;> rfl) (by rfl) ?_
            refine opwp_call (f := 19) (args := #[.agg #[.slice pM B2.length cM, .slice pN U2.length cN]]) (w' := w11) (by simp [go_sem, Act.eval]) ?_
            refine (wWidth_c _ (.slice pN U2.length cN) B2 w11 (HSd.out _ hBn1) (by omega)).mono ?_
            rintro e w12 ⟨rfl, hb12⟩
            have hcn2_0 := hid (hcn1_0.out.below hb12 hcn1_0.out.lt)
            have hcn2_1 := hid (hcn1_1.out.below hb12 hcn1_1.out.lt)
            have hBn2 := hBn1.trans (hb12.mono hBn1.size)
            rw [HGD.out.width]
            refine .inl ⟨_, rfl, .inr ⟨hcn2_0.out, hcn2_1.out⟩, ?_⟩
            simp only [Act.put, List.setIfInBounds_toArray, List.set_cons_zero, List.set_cons_succ]
            refine wpAnyL_one (i := 8) (by kernel_rfl) (by simp only [List.getElem?_toArray, List.getElem?_cons_zero, List.getElem?_cons_succ] <;> rfl) (by rfl) ?_
            refine opwp_call (f := 19) (args := #[.agg #[.slice pB BB.length cB, .slice pU UU.length cU]]) (w' := w12) (by simp [go_sem, Act.eval]) ?_
            refine (wWidth_c _ (.slice pU UU.length cU) (BB) w12 (HXd.out _ hBn2) (by omega)).mono ?_
            rintro e w13 ⟨rfl, hb13⟩
            have hcn3_0 := hid (hcn2_0.out.below hb13 hcn2_0.out.lt)
            have hcn3_1 := hid (hcn2_1.out.below hb13 hcn2_1.out.lt)
            have hBn3 := hBn2.trans (hb13.mono hBn2.size)
            refine .inl ⟨_, rfl, .inr ⟨hcn3_0.out, hcn3_1.out⟩, ?_⟩
            simp only [Act.put, List.setIfInBounds_toArray, List.set_cons_zero, List.set_cons_succ]
            refine wpAnyL_pure (i := 9) (v := .bool false) (by simp only [List.getElem?_toArray, List.getElem?_cons_zero, List.getElem?_cons_succ] <;> rfl) (by kernel_rfl) (by kernel_rfl) (by kernel_rfl) (by exact fun _ _ _ h => h) (by decide) (.inr ⟨hcn3_0.out, hcn3_1.out⟩) (Or.inl ⟨by rfl, fun w _ => (by simp [execOp, go_sem, Act.eval])⟩) (fun _ => ?_)
            simp only [Act.put, List.setIfInBounds_toArray, List.set_cons_zero, List.set_cons_succ]
            refine wpAnyL_pure (i := 10) (v := .bool false) (by simp only [List.getElem?_toArray, List.getElem?_cons_zero, List.getElem?_cons_succ] <;> rfl) (by kernel_rfl) (by kernel_rfl) (by kernel_rfl) (by exact fun _ _ _ h => h) (by decide) (.inr ⟨hcn3_0.out, hcn3_1.out⟩) (Or.inl ⟨by rfl, fun w _ => (by simp [execOp, go_sem, Act.eval])⟩) (fun _ => ?_)
            simp only [Act.put, List.setIfInBounds_toArray, List.set_cons_zero, List.set_cons_succ]
            refine wpAnyL_pure (i := 11) (v := .bool false) (by simp only [List.getElem?_toArray, List.getElem?_cons_zero, List.getElem?_cons_succ] <;> rfl) (by kernel_rfl) (by kernel_rfl) (by kernel_rfl) (by exact fun _ _ _ h => h) (by decide) (.inr ⟨hcn3_0.out, hcn3_1.out⟩) (Or.inl ⟨by rfl, fun w _ => (by simp [execOp, go_sem, Act.eval])⟩) (fun _ => ?_)
            simp only [Act.put, List.setIfInBounds_toArray, List.set_cons_zero, List.set_cons_succ]
            refine wpAnyL_pure (i := 12) (v := .pointer (some ⟨pm, 0, none⟩)) (by simp only [List.getElem?_toArray, List.getElem?_cons_zero, List.getElem?_cons_succ] <;> rfl) (by kernel_rfl) (by kernel_rfl) (by kernel_rfl) (by exact fun _ _ _ h => h) (by decide) (.inr ⟨hcn3_0.out, hcn3_1.out⟩) (Or.inl ⟨by rfl, fun w _ => (by simp [execOp, go_sem, Act.eval])⟩) (fun _ => ?_)
            simp only [Act.put, List.setIfInBounds_toArray, List.set_cons_zero, List.set_cons_succ]
            refine wpAnyL_load2 (i := 13) (v := .slice pM B2.length cM) (by simp only [List.getElem?_toArray, List.getElem?_cons_zero, List.getElem?_cons_succ] <;> rfl) (by kernel_rfl) (by kernel_rfl) (by kernel_rfl) (by exact fun _ _ _ h => h) (by decide) (Waits.more (j := 14) rfl ⟨⟨14, .data⟩, by simp, rfl, rfl⟩ (Waits.one rfl ⟨⟨13, .data⟩, by simp, rfl, rfl⟩)) (by kernel_rfl) (by kernel_rfl) (.inr ⟨hcn3_0.out, hcn3_1.out⟩) (Or.inl ⟨by rfl, fun w hw => (by obtain ⟨x0, _⟩ := hw; simp [execOp, go_sem, Act.eval, x0.cells.1])⟩) (fun _ => ?_)
            simp only [Act.put, List.setIfInBounds_toArray, List.set_cons_zero, List.set_cons_succ]
            refine wpAnyL_pure (i := 14) (v := .int .i64 ((B2.length : Nat) : Int)) (by simp only [List.getElem?_toArray, List.getElem?_cons_zero, List.getElem?_cons_succ] <;> rfl) (by kernel_rfl) (by kernel_rfl) (by kernel_rfl) (by exact fun _ _ _ h => h) (by decide) (.inr ⟨hcn3_0.out, hcn3_1.out⟩) (Or.inl ⟨by rfl, fun w _ => (by simp [go_sem, Act.eval])⟩) (fun _ => ?_)
            simp only [Act.put, List.setIfInBounds_toArray, List.set_cons_zero, List.set_cons_succ]
            refine wpAnyL_pure (i := 15) (v := .pointer (some ⟨px, 0, none⟩)) (by simp only [List.getElem?_toArray, List.getElem?_cons_zero, List.getElem?_cons_succ] <;> rfl) (by kernel_rfl) (by kernel_rfl) (by kernel_rfl) (by exact fun _ _ _ h => h) (by decide) (.inr ⟨hcn3_0.out, hcn3_1.out⟩) (Or.inl ⟨by rfl, fun w _ => (by simp [execOp, go_sem, Act.eval])⟩) (fun _ => ?_)
            simp only [Act.put, List.setIfInBounds_toArray, List.set_cons_zero, List.set_cons_succ]
            refine wpAnyL_load2 (i := 16) (v := .slice pB BB.length cB) (by simp only [List.getElem?_toArray, List.getElem?_cons_zero, List.getElem?_cons_succ] <;> rfl) (by kernel_rfl) (by kernel_rfl) (by kernel_rfl) (by exact fun _ _ _ h => h) (by decide) (Waits.more (j := 17) rfl ⟨⟨17, .data⟩, by simp, rfl, rfl⟩ (Waits.one rfl ⟨⟨16, .data⟩, by simp, rfl, rfl⟩)) (by kernel_rfl) (by kernel_rfl) (.inr ⟨hcn3_0.out, hcn3_1.out⟩) (Or.inl ⟨by rfl, fun w hw => (by obtain ⟨_, x1⟩ := hw; simp [execOp, go_sem, Act.eval, x1.cells.1])⟩) (fun _ => ?_)
            simp only [Act.put, List.setIfInBounds_toArray, List.set_cons_zero, List.set_cons_succ]
            refine wpAnyL_pure (i := 17) (v := .int .i64 ((BB.length : Nat) : Int)) (by simp only [List.getElem?_toArray, List.getElem?_cons_zero, List.getElem?_cons_succ] <;> rfl) (by kernel_rfl) (by kernel_rfl) (by kernel_rfl) (by exact fun _ _ _ h => h) (by decide) (.inr ⟨hcn3_0.out, hcn3_1.out⟩) (Or.inl ⟨by rfl, fun w _ => (by simp [go_sem, Act.eval])⟩) (fun _ => ?_)
            simp only [Act.put, List.setIfInBounds_toArray, List.set_cons_zero, List.set_cons_succ]
            refine wpAnyL_one (i := 18) (by kernel_rfl) (by simp only [List.getElem?_toArray, List.getElem?_cons_zero, List.getElem?_cons_succ] <;> rfl) (by rfl) ?_
            refine opwp_value (v := .bool false) (w' := w13) (by simp [execOp, go_sem, Act.eval, hle]) ⟨.inl (by kernel_rfl), ?_⟩
            simp only [Act.put, List.setIfInBounds_toArray, List.set_cons_zero, List.set_cons_succ]
            refine wpAnyL_pure (i := 19) (v := .bool false) (by simp only [List.getElem?_toArray, List.getElem?_cons_zero, List.getElem?_cons_succ] <;> rfl) (by kernel_rfl) (by kernel_rfl) (by kernel_rfl) (by exact fun _ _ _ h => h) (by decide) (.inl (by kernel_rfl)) (Or.inl ⟨by rfl, fun w _ => (by simp [execOp, go_sem, Act.eval])⟩) (fun _ => ?_)
            simp only [Act.put, List.setIfInBounds_toArray, List.set_cons_zero, List.set_cons_succ]
            refine wpAnyL_done (by kernel_rfl) ?_ _
            have HBMe := hid (HBM0.out.below hBn3 HBM0.out.lt)
            have HBn := hid hBn3
            clear BM BXX HBS hBn1 hBn2 hBn3 hb11 hb12 hb13 HC2 HBM0 HXd
            obtain ⟨k0, k1, _, _⟩ := HBMe.out.cells
            go_wp2_with fail
            have HBM13 := hid HBMe.out
            clear k0 k1 HBMe
            go_loopw [68] (fun z wr => ∃ (k : Nat), k ≤ U2.length ∧ z = .int .i64 k ∧ Hid (Below w10.drew.heap.size w10.drew wr) ∧ Hid (Box2 wr pm 25 (.slice pM B2.length cM) (.slice pN U2.length cN))) (fun z _ => U2.length - (intOf z).toNat)
            case atStart => exact ⟨0, Nat.zero_le _, rfl, HBn.out, HBM13.out⟩
            case round =>
              clear HBn HBM13
              obtain ⟨k, hk, rfl, hbr, hbm⟩ := hrel
              by_cases hkl : k < U2.length
              · obtain ⟨bN, oN, cq, eq, hbl, hcs⟩ := (HId.out _ hbr.out).form (by omega)
                injection eq with e1 _ e2
                subst e1; subst e2
                have ck := hcs k hkl
                rw [← upF_nat U2 k hkl] at ck
                have zk : (0 : Int) ≤ (k : Int) ∧ (k : Int) < (U2.length : Int) := by omega
                have hkb : k < B2.length := by rw [← HLU.out]; exact hkl
                have hrg := HGD.out.range k hkb
                have hap := HGD.out.apart k hkb hkb
                clear hcs hbl
                by_cases hneg : upF U2 (k : Int) < 0
                · have hm1 : upF U2 (k : Int) = -1 := by omega
                  rw [hm1] at ck
                  clear hneg hm1 hrg hap hkb
                  go_wp2_with fail
                  refine Go.Proofs.YtmlecpapoeodkaaDoor.wp_region_L 28 27 (fun w' => True) (by kernel_rfl) rfl trivial (fun _ => ?_)
                  refine wpAnyL_pure (i := 0) (v := .int .i64 (-1)) (by simp only [List.getElem?_toArray, List.getElem?_cons_zero] <;> rfl) (by kernel_rfl) (by kernel_rfl) (by kernel_rfl) (by exact fun _ _ _ h => h) (by decide) (.inr trivial) (Or.inl ⟨by rfl, fun w _ => (by simp [execOp, go_sem, Act.eval])⟩) (fun _ => ?_)
                  simp only [Act.put, List.setIfInBounds_toArray, List.set_cons_zero, List.set_cons_succ]
                  refine wpAnyL_pure (i := 1) (v := .bool false) (by simp only [List.getElem?_toArray, List.getElem?_cons_zero, List.getElem?_cons_succ] <;> rfl) (by kernel_rfl) (by kernel_rfl) (by kernel_rfl) (by exact fun _ _ _ h => h) (by decide) (.inr trivial) (Or.inl ⟨by rfl, fun w _ => (by simp [execOp, go_sem, Act.eval])⟩) (fun _ => ?_)
                  simp only [Act.put, List.setIfInBounds_toArray, List.set_cons_zero, List.set_cons_succ]
                  refine wpAnyL_pure (i := 2) (v := .bool false) (by simp only [List.getElem?_toArray, List.getElem?_cons_zero, List.getElem?_cons_succ] <;> rfl) (by kernel_rfl) (by kernel_rfl) (by kernel_rfl) (by exact fun _ _ _ h => h) (by decide) (.inr trivial) (Or.inl ⟨by rfl, fun w _ => (by simp [execOp, go_sem, Act.eval])⟩) (fun _ => ?_)
                  simp only [Act.put, List.setIfInBounds_toArray, List.set_cons_zero, List.set_cons_succ]
                  refine wpAnyL_pure (i := 3) (v := undef) (by simp only [List.getElem?_toArray, List.getElem?_cons_zero, List.getElem?_cons_succ] <;> rfl) (by kernel_rfl) (by kernel_rfl) (by kernel_rfl) (by exact fun _ _ _ h => h) (by decide) (.inr trivial) (Or.inr ⟨by rfl, rfl⟩) (fun _ => ?_)
                  simp only [Act.put, List.setIfInBounds_toArray, List.set_cons_zero, List.set_cons_succ]
                  refine wpAnyL_pure (i := 4) (v := undef) (by simp only [List.getElem?_toArray, List.getElem?_cons_zero, List.getElem?_cons_succ] <;> rfl) (by kernel_rfl) (by kernel_rfl) (by kernel_rfl) (by exact fun _ _ _ h => h) (by decide) (.inr trivial) (Or.inr ⟨by rfl, rfl⟩) (fun _ => ?_)
                  simp only [Act.put, List.setIfInBounds_toArray, List.set_cons_zero, List.set_cons_succ]
                  refine wpAnyL_pure (i := 5) (v := undef) (by simp only [List.getElem?_toArray, List.getElem?_cons_zero, List.getElem?_cons_succ] <;> rfl) (by kernel_rfl) (by kernel_rfl) (by kernel_rfl) (by exact fun _ _ _ h => h) (by decide) (.inr trivial) (Or.inr ⟨by rfl, rfl⟩) (fun _ => ?_)
                  simp only [Act.put, List.setIfInBounds_toArray, List.set_cons_zero, List.set_cons_succ]
                  refine wpAnyL_pure (i := 6) (v := undef) (by simp only [List.getElem?_toArray, List.getElem?_cons_zero, List.getElem?_cons_succ] <;> rfl) (by kernel_rfl) (by kernel_rfl) (by kernel_rfl) (by exact fun _ _ _ h => h) (by decide) (.inr trivial) (Or.inr ⟨by rfl, rfl⟩) (fun _ => ?_)
                  simp only [Act.put, List.setIfInBounds_toArray, List.set_cons_zero, List.set_cons_succ]
                  refine wpAnyL_pure (i := 7) (v := undef) (by simp only [List.getElem?_toArray, List.getElem?_cons_zero, List.getElem?_cons_succ] <;> rfl) (by kernel_rfl) (by kernel_rfl) (by kernel_rfl) (by exact fun _ _ _ h => h) (by decide) (.inr trivial) (Or.inr ⟨by rfl, rfl⟩) (fun _ => ?_)
                  simp only [Act.put, List.setIfInBounds_toArray, List.set_cons_zero, List.set_cons_succ]
                  refine wpAnyL_pure (i := 8) (v := undef) (by simp only [List.getElem?_toArray, List.getElem?_cons_zero, List.getElem?_cons_succ] <;> rfl) (by kernel_rfl) (by kernel_rfl) (by kernel_rfl) (by exact fun _ _ _ h => h) (by decide) (.inr trivial) (Or.inr ⟨by rfl, rfl⟩) (fun _ => ?_)
                  simp only [Act.put, List.setIfInBounds_toArray, List.set_cons_zero, List.set_cons_succ]
                  refine wpAnyL_pure (i := 9) (v := undef) (by simp only [List.getElem?_toArray, List.getElem?_cons_zero, List.getElem?_cons_succ] <;> rfl) (by kernel_rfl) (by kernel_rfl) (by kernel_rfl) (by exact fun _ _ _ h => h) (by decide) (.inr trivial) (Or.inr ⟨by rfl, rfl⟩) (fun _ => ?_)
                  simp only [Act.put, List.setIfInBounds_toArray, List.set_cons_zero, List.set_cons_succ]
                  refine wpAnyL_pure (i := 10) (v := undef) (by simp only [List.getElem?_toArray, List.getElem?_cons_zero, List.getElem?_cons_succ] <;> rfl) (by kernel_rfl) (by kernel_rfl) (by kernel_rfl) (by exact fun _ _ _ h => h) (by decide) (.inr trivial) (Or.inr ⟨by rfl, rfl⟩) (fun _ => ?_)
                  simp only [Act.put, List.setIfInBounds_toArray, List.set_cons_zero, List.set_cons_succ]
                  refine wpAnyL_pure (i := 11) (v := undef) (by simp only [List.getElem?_toArray, List.getElem?_cons_zero, List.getElem?_cons_succ] <;> rfl) (by kernel_rfl) (by kernel_rfl) (by kernel_rfl) (by exact fun _ _ _ h => h) (by decide) (.inr trivial) (Or.inr ⟨by rfl, rfl⟩) (fun _ => ?_)
                  simp only [Act.put, List.setIfInBounds_toArray, List.set_cons_zero, List.set_cons_succ]
                  refine wpAnyL_pure (i := 12) (v := undef) (by simp only [List.getElem?_toArray, List.getElem?_cons_zero, List.getElem?_cons_succ] <;> rfl) (by kernel_rfl) (by kernel_rfl) (by kernel_rfl) (by exact fun _ _ _ h => h) (by decide) (.inr trivial) (Or.inr ⟨by rfl, rfl⟩) (fun _ => ?_)
                  simp only [Act.put, List.setIfInBounds_toArray, List.set_cons_zero, List.set_cons_succ]
                  refine wpAnyL_pure (i := 13) (v := undef) (by simp only [List.getElem?_toArray, List.getElem?_cons_zero, List.getElem?_cons_succ] <;> rfl) (by kernel_rfl) (by kernel_rfl) (by kernel_rfl) (by exact fun _ _ _ h => h) (by decide) (.inr trivial) (Or.inr ⟨by rfl, rfl⟩) (fun _ => ?_)
                  simp only [Act.put, List.setIfInBounds_toArray, List.set_cons_zero, List.set_cons_succ]
                  refine wpAnyL_pure (i := 14) (v := undef) (by simp only [List.getElem?_toArray, List.getElem?_cons_zero, List.getElem?_cons_succ] <;> rfl) (by kernel_rfl) (by kernel_rfl) (by kernel_rfl) (by exact fun _ _ _ h => h) (by decide) (.inr trivial) (Or.inr ⟨by rfl, rfl⟩) (fun _ => ?_)
                  simp only [Act.put, List.setIfInBounds_toArray, List.set_cons_zero, List.set_cons_succ]
                  refine wpAnyL_pure (i := 15) (v := undef) (by simp only [List.getElem?_toArray, List.getElem?_cons_zero, List.getElem?_cons_succ] <;> rfl) (by kernel_rfl) (by kernel_rfl) (by kernel_rfl) (by exact fun _ _ _ h => h) (by decide) (.inr trivial) (Or.inr ⟨by rfl, rfl⟩) (fun _ => ?_)
                  simp only [Act.put, List.setIfInBounds_toArray, List.set_cons_zero, List.set_cons_succ]
                  refine wpAnyL_pure (i := 16) (v := undef) (by simp only [List.getElem?_toArray, List.getElem?_cons_zero, List.getElem?_cons_succ] <;> rfl) (by kernel_rfl) (by kernel_rfl) (by kernel_rfl) (by exact fun _ _ _ h => h) (by decide) (.inr trivial) (Or.inr ⟨by rfl, rfl⟩) (fun _ => ?_)
                  simp only [Act.put, List.setIfInBounds_toArray, List.set_cons_zero, List.set_cons_succ]
                  refine wpAnyL_pure (i := 17) (v := undef) (by simp only [List.getElem?_toArray, List.getElem?_cons_zero, List.getElem?_cons_succ] <;> rfl) (by kernel_rfl) (by kernel_rfl) (by kernel_rfl) (by exact fun _ _ _ h => h) (by decide) (.inr trivial) (Or.inr ⟨by rfl, rfl⟩) (fun _ => ?_)
                  simp only [Act.put, List.setIfInBounds_toArray, List.set_cons_zero, List.set_cons_succ]
                  refine wpAnyL_pure (i := 18) (v := undef) (by simp only [List.getElem?_toArray, List.getElem?_cons_zero, List.getElem?_cons_succ] <;> rfl) (by kernel_rfl) (by kernel_rfl) (by kernel_rfl) (by exact fun _ _ _ h => h) (by decide) (.inr trivial) (Or.inr ⟨by rfl, rfl⟩) (fun _ => ?_)
                  simp only [Act.put, List.setIfInBounds_toArray, List.set_cons_zero, List.set_cons_succ]
                  refine wpAnyL_pure (i := 19) (v := undef) (by simp only [List.getElem?_toArray, List.getElem?_cons_zero, List.getElem?_cons_succ] <;> rfl) (by kernel_rfl) (by kernel_rfl) (by kernel_rfl) (by exact fun _ _ _ h => h) (by decide) (.inr trivial) (Or.inr ⟨by rfl, rfl⟩) (fun _ => ?_)
                  simp only [Act.put, List.setIfInBounds_toArray, List.set_cons_zero, List.set_cons_succ]
                  refine wpAnyL_pure (i := 20) (v := undef) (by simp only [List.getElem?_toArray, List.getElem?_cons_zero, List.getElem?_cons_succ] <;> rfl) (by kernel_rfl) (by kernel_rfl) (by kernel_rfl) (by exact fun _ _ _ h => h) (by decide) (.inr trivial) (Or.inr ⟨by rfl, rfl⟩) (fun _ => ?_)
                  simp only [Act.put, List.setIfInBounds_toArray, List.set_cons_zero, List.set_cons_succ]
                  refine wpAnyL_pure (i := 21) (v := undef) (by simp only [List.getElem?_toArray, List.getElem?_cons_zero, List.getElem?_cons_succ] <;> rfl) (by kernel_rfl) (by kernel_rfl) (by kernel_rfl) (by exact fun _ _ _ h => h) (by decide) (.inr trivial) (Or.inr ⟨by rfl, rfl⟩) (fun _ => ?_)
                  simp only [Act.put, List.setIfInBounds_toArray, List.set_cons_zero, List.set_cons_succ]
                  refine wpAnyL_pure (i := 22) (v := undef) (by simp only [List.getElem?_toArray, List.getElem?_cons_zero, List.getElem?_cons_succ] <;> rfl) (by kernel_rfl) (by kernel_rfl) (by kernel_rfl) (by exact fun _ _ _ h => h) (by decide) (.inr trivial) (Or.inr ⟨by rfl, rfl⟩) (fun _ => ?_)
                  simp only [Act.put, List.setIfInBounds_toArray, List.set_cons_zero, List.set_cons_succ]
                  refine wpAnyL_pure (i := 23) (v := undef) (by simp only [List.getElem?_toArray, List.getElem?_cons_zero, List.getElem?_cons_succ] <;> rfl) (by kernel_rfl) (by kernel_rfl) (by kernel_rfl) (by exact fun _ _ _ h => h) (by decide) (.inr trivial) (Or.inr ⟨by rfl, rfl⟩) (fun _ => ?_)
                  simp only [Act.put, List.setIfInBounds_toArray, List.set_cons_zero, List.set_cons_succ]
                  refine wpAnyL_pure (i := 24) (v := undef) (by simp only [List.getElem?_toArray, List.getElem?_cons_zero, List.getElem?_cons_succ] <;> rfl) (by kernel_rfl) (by kernel_rfl) (by kernel_rfl) (by exact fun _ _ _ h => h) (by decide) (.inr trivial) (Or.inr ⟨by rfl, rfl⟩) (fun _ => ?_)
                  simp only [Act.put, List.setIfInBounds_toArray, List.set_cons_zero, List.set_cons_succ]
                  refine wpAnyL_pure (i := 25) (v := undef) (by simp only [List.getElem?_toArray, List.getElem?_cons_zero, List.getElem?_cons_succ] <;> rfl) (by kernel_rfl) (by kernel_rfl) (by kernel_rfl) (by exact fun _ _ _ h => h) (by decide) (.inr trivial) (Or.inr ⟨by rfl, rfl⟩) (fun _ => ?_)
                  simp only [Act.put, List.setIfInBounds_toArray, List.set_cons_zero, List.set_cons_succ]
                  refine wpAnyL_pure (i := 26) (v := undef) (by simp only [List.getElem?_toArray, List.getElem?_cons_zero, List.getElem?_cons_succ] <;> rfl) (by kernel_rfl) (by kernel_rfl) (by kernel_rfl) (by exact fun _ _ _ h => h) (by decide) (.inr trivial) (Or.inr ⟨by rfl, rfl⟩) (fun _ => ?_)
                  simp only [Act.put, List.setIfInBounds_toArray, List.set_cons_zero, List.set_cons_succ]
                  refine wpAnyL_one (i := 27) (by kernel_rfl) (by simp only [List.getElem?_toArray, List.getElem?_cons_zero, List.getElem?_cons_succ] <;> rfl) (by rfl) ?_
                  refine opwp_value (v := .bool false) (w' := wr.drew) (by simp [execOp, go_sem, Act.eval]) ⟨.inl (by kernel_rfl), ?_⟩
                  simp only [Act.put, List.setIfInBounds_toArray, List.set_cons_zero, List.set_cons_succ]
                  refine wpAnyL_done (by kernel_rfl) ?_ _
                  have HBd := hid hbr.out.drew
                  have HMd := hid (hbm.out.below (Below.refl _ wr).drew hbm.out.lt)
                  clear hbr hbm
                  go_wp2_with fail
                  go_roundw
                  case rel => exact ⟨k + 1, by omega, by go_num, HBd.out, HMd.out⟩
                  case measure => simp [intOf]; omega
                · obtain ⟨j, hj⟩ : ∃ j : Nat, upF U2 (k : Int) = (j : Int) := ⟨(upF U2 (k : Int)).toNat, by omega⟩
                  have hjl : j < B2.length := by omega
                  obtain ⟨bM, oM, cq, eq, hbl⟩ := (HSd.out _ hbr.out).form (by omega)
                  injection eq with e1 _ e2
                  subst e1; subst e2
                  obtain ⟨bi, hbi, i0, i1⟩ := (HSd.out _ hbr.out).get k hkb
                  obtain ⟨bj, hbj, j0, j1⟩ := (HSd.out _ hbr.out).get j hjl
                  have hap2 := hap.resolve_left (by omega)
                  rw [hj, gOf_nat B2 k hkb, gOf_nat B2 j hjl, hbi, hbj] at hap2
                  have HAP := hid hap2
                  rw [hj] at ck
                  have zkB : (0 : Int) ≤ (k : Int) ∧ (k : Int) < (B2.length : Int) := by omega
                  have zj : (0 : Int) ≤ (j : Int) ∧ (j : Int) < (B2.length : Int) := by omega
                  have zj0 : (0 : Int) ≤ (j : Int) := by omega
                  have BMr : Hid (Box2 wr.drew pm 25 (.slice (some ⟨bM, oM, none⟩) B2.length cM) (.slice (some ⟨bN, oN, none⟩) U2.length cN)) := hbm.out
                  have BIr : Hid (wr.drew.cell? ⟨bM, oM + k * 2, none⟩ = some (.int .u64 ((lw bi).toNat : Int)) ∧ wr.drew.cell? ⟨bM, oM + k * 2 + 1, none⟩ = some (.int .u64 ((hw bi).toNat : Int))) := ⟨i0, i1⟩
                  have BJr : Hid (wr.drew.cell? ⟨bM, oM + j * 2, none⟩ = some (.int .u64 ((lw bj).toNat : Int)) ∧ wr.drew.cell? ⟨bM, oM + j * 2 + 1, none⟩ = some (.int .u64 ((hw bj).toNat : Int))) := ⟨j0, j1⟩
                  clear hneg hj hrg hap hap2 hbi hbj i0 i1 j0 j1 hbl hkb
                  go_wp2_with fail
                  refine Go.Proofs.YtmlecpapoeodkaaDoor.wp_region_L 28 25 (fun w' => Box2 w' (pm) 25 (.slice (some ⟨bM, oM, none⟩) B2.length cM) (.slice (some ⟨bN, oN, none⟩) U2.length cN) ∧ (w'.cell? ⟨bM, oM + k * 2, none⟩ = some (.int .u64 ((lw (bi)).toNat : Int)) ∧ w'.cell? ⟨bM, oM + k * 2 + 1, none⟩ = some (.int .u64 ((hw (bi)).toNat : Int))) ∧ (w'.cell? ⟨bM, oM + j * 2, none⟩ = some (.int .u64 ((lw (bj)).toNat : Int)) ∧ w'.cell? ⟨bM, oM + j * 2 + 1, none⟩ = some (.int .u64 ((hw (bj)).toNat : Int)))) (by kernel_rfl) rfl ⟨BMr.out, BIr.out, BJr.out⟩ (fun _ => ?_)
                  refine wpAnyL_pure (i := 0) (v := .int .i64 (j : Int)) (by simp only [List.getElem?_toArray, List.getElem?_cons_zero] <;> rfl) (by kernel_rfl) (by kernel_rfl) (by kernel_rfl) (by exact fun _ _ _ h => h) (by decide) (.inr ⟨BMr.out, BIr.out, BJr.out⟩) (Or.inl ⟨by rfl, fun w _ => (by simp [execOp, go_sem, Act.eval])⟩) (fun _ => ?_)
                  simp only [Act.put, List.setIfInBounds_toArray, List.set_cons_zero, List.set_cons_succ]
                  refine wpAnyL_pure (i := 1) (v := .bool true) (by simp only [List.getElem?_toArray, List.getElem?_cons_zero, List.getElem?_cons_succ] <;> rfl) (by kernel_rfl) (by kernel_rfl) (by kernel_rfl) (by exact fun _ _ _ h => h) (by decide) (.inr ⟨BMr.out, BIr.out, BJr.out⟩) (Or.inl ⟨by rfl, fun w _ => (by simp [execOp, go_sem, Act.eval, zj0])⟩) (fun _ => ?_)
                  simp only [Act.put, List.setIfInBounds_toArray, List.set_cons_zero, List.set_cons_succ]
                  refine wpAnyL_pure (i := 2) (v := .bool true) (by simp only [List.getElem?_toArray, List.getElem?_cons_zero, List.getElem?_cons_succ] <;> rfl) (by kernel_rfl) (by kernel_rfl) (by kernel_rfl) (by exact fun _ _ _ h => h) (by decide) (.inr ⟨BMr.out, BIr.out, BJr.out⟩) (Or.inl ⟨by rfl, fun w _ => (by simp [execOp, go_sem, Act.eval])⟩) (fun _ => ?_)
                  simp only [Act.put, List.setIfInBounds_toArray, List.set_cons_zero, List.set_cons_succ]
                  refine wpAnyL_pure (i := 3) (v := .pointer (some ⟨pm, 0, none⟩)) (by simp only [List.getElem?_toArray, List.getElem?_cons_zero, List.getElem?_cons_succ] <;> rfl) (by kernel_rfl) (by kernel_rfl) (by kernel_rfl) (by exact fun _ _ _ h => h) (by decide) (.inr ⟨BMr.out, BIr.out, BJr.out⟩) (Or.inl ⟨by rfl, fun w _ => (by simp [execOp, go_sem, Act.eval])⟩) (fun _ => ?_)
                  simp only [Act.put, List.setIfInBounds_toArray, List.set_cons_zero, List.set_cons_succ]
                  refine wpAnyL_load2 (i := 4) (v := .slice (some ⟨bM, oM, none⟩) B2.length cM) (by simp only [List.getElem?_toArray, List.getElem?_cons_zero, List.getElem?_cons_succ] <;> rfl) (by kernel_rfl) (by kernel_rfl) (by kernel_rfl) (by exact fun _ _ _ h => h) (by decide) (Waits.more (j := 14) rfl ⟨⟨14, .chain⟩, by simp, rfl, rfl⟩ (Waits.more (j := 13) rfl ⟨⟨13, .data⟩, by simp, rfl, rfl⟩ (Waits.more (j := 7) rfl ⟨⟨7, .data⟩, by simp, rfl, rfl⟩ (Waits.more (j := 6) rfl ⟨⟨6, .data⟩, by simp, rfl, rfl⟩ (Waits.one rfl ⟨⟨4, .data⟩, by simp, rfl, rfl⟩))))) (by kernel_rfl) (by kernel_rfl) (.inr ⟨BMr.out, BIr.out, BJr.out⟩) (Or.inl ⟨by rfl, fun w hw => (by obtain ⟨x0, _, _⟩ := hw; simp [execOp, go_sem, Act.eval, x0.cells.1])⟩) (fun _ => ?_)
                  simp only [Act.put, List.setIfInBounds_toArray, List.set_cons_zero, List.set_cons_succ]
                  refine wpAnyL_pure (i := 5) (v := .int .i64 (k : Int)) (by simp only [List.getElem?_toArray, List.getElem?_cons_zero, List.getElem?_cons_succ] <;> rfl) (by kernel_rfl) (by kernel_rfl) (by kernel_rfl) (by exact fun _ _ _ h => h) (by decide) (.inr ⟨BMr.out, BIr.out, BJr.out⟩) (Or.inl ⟨by rfl, fun w _ => (by simp [execOp, go_sem, Act.eval])⟩) (fun _ => ?_)
                  simp only [Act.put, List.setIfInBounds_toArray, List.set_cons_zero, List.set_cons_succ]
                  refine wpAnyL_pure (i := 6) (v := .pointer (some ⟨bM, oM + k * 2, none⟩)) (by simp only [List.getElem?_toArray, List.getElem?_cons_zero, List.getElem?_cons_succ] <;> rfl) (by kernel_rfl) (by kernel_rfl) (by kernel_rfl) (by exact fun _ _ _ h => h) (by decide) (.inr ⟨BMr.out, BIr.out, BJr.out⟩) (Or.inl ⟨by rfl, fun w _ => (by simp [execOp, go_sem, Act.eval, zkB])⟩) (fun _ => ?_)
                  simp only [Act.put, List.setIfInBounds_toArray, List.set_cons_zero, List.set_cons_succ]
                  refine wpAnyL_load2 (i := 7) (v := encS (bi)) (by simp only [List.getElem?_toArray, List.getElem?_cons_zero, List.getElem?_cons_succ] <;> rfl) (by kernel_rfl) (by kernel_rfl) (by kernel_rfl) (by exact fun _ _ _ h => h) (by decide) (Waits.more (j := 14) rfl ⟨⟨14, .chain⟩, by simp, rfl, rfl⟩ (Waits.more (j := 13) rfl ⟨⟨13, .data⟩, by simp, rfl, rfl⟩ (Waits.one rfl ⟨⟨7, .data⟩, by simp, rfl, rfl⟩))) (by kernel_rfl) (by kernel_rfl) (.inr ⟨BMr.out, BIr.out, BJr.out⟩) (Or.inl ⟨by rfl, fun w hw => (by obtain ⟨_, ⟨y1, z1⟩, _⟩ := hw; simp [execOp, go_sem, Act.eval, y1, z1])⟩) (fun _ => ?_)
                  simp only [Act.put, List.setIfInBounds_toArray, List.set_cons_zero, List.set_cons_succ]
                  refine wpAnyL_pure (i := 8) (v := .pointer (some ⟨pm, 0, none⟩)) (by simp only [List.getElem?_toArray, List.getElem?_cons_zero, List.getElem?_cons_succ] <;> rfl) (by kernel_rfl) (by kernel_rfl) (by kernel_rfl) (by exact fun _ _ _ h => h) (by decide) (.inr ⟨BMr.out, BIr.out, BJr.out⟩) (Or.inl ⟨by rfl, fun w _ => (by simp [execOp, go_sem, Act.eval])⟩) (fun _ => ?_)
                  simp only [Act.put, List.setIfInBounds_toArray, List.set_cons_zero, List.set_cons_succ]
                  refine wpAnyL_load2 (i := 9) (v := .slice (some ⟨bM, oM, none⟩) B2.length cM) (by simp only [List.getElem?_toArray, List.getElem?_cons_zero, List.getElem?_cons_succ] <;> rfl) (by kernel_rfl) (by kernel_rfl) (by kernel_rfl) (by exact fun _ _ _ h => h) (by decide) (Waits.more (j := 14) rfl ⟨⟨14, .chain⟩, by simp, rfl, rfl⟩ (Waits.more (j := 13) rfl ⟨⟨13, .data⟩, by simp, rfl, rfl⟩ (Waits.more (j := 12) rfl ⟨⟨12, .data⟩, by simp, rfl, rfl⟩ (Waits.more (j := 11) rfl ⟨⟨11, .data⟩, by simp, rfl, rfl⟩ (Waits.one rfl ⟨⟨9, .data⟩, by simp, rfl, rfl⟩))))) (by kernel_rfl) (by kernel_rfl) (.inr ⟨BMr.out, BIr.out, BJr.out⟩) (Or.inl ⟨by rfl, fun w hw => (by obtain ⟨x0, _, _⟩ := hw; simp [execOp, go_sem, Act.eval, x0.cells.1])⟩) (fun _ => ?_)
                  simp only [Act.put, List.setIfInBounds_toArray, List.set_cons_zero, List.set_cons_succ]
                  refine wpAnyL_pure (i := 10) (v := .int .i64 (j : Int)) (by simp only [List.getElem?_toArray, List.getElem?_cons_zero, List.getElem?_cons_succ] <;> rfl) (by kernel_rfl) (by kernel_rfl) (by kernel_rfl) (by exact fun _ _ _ h => h) (by decide) (.inr ⟨BMr.out, BIr.out, BJr.out⟩) (Or.inl ⟨by rfl, fun w _ => (by simp [execOp, go_sem, Act.eval])⟩) (fun _ => ?_)
                  simp only [Act.put, List.setIfInBounds_toArray, List.set_cons_zero, List.set_cons_succ]
                  refine wpAnyL_pure (i := 11) (v := .pointer (some ⟨bM, oM + j * 2, none⟩)) (by simp only [List.getElem?_toArray, List.getElem?_cons_zero, List.getElem?_cons_succ] <;> rfl) (by kernel_rfl) (by kernel_rfl) (by kernel_rfl) (by exact fun _ _ _ h => h) (by decide) (.inr ⟨BMr.out, BIr.out, BJr.out⟩) (Or.inl ⟨by rfl, fun w _ => (by simp [execOp, go_sem, Act.eval, zj])⟩) (fun _ => ?_)
                  simp only [Act.put, List.setIfInBounds_toArray, List.set_cons_zero, List.set_cons_succ]
                  refine wpAnyL_load2 (i := 12) (v := encS (bj)) (by simp only [List.getElem?_toArray, List.getElem?_cons_zero, List.getElem?_cons_succ] <;> rfl) (by kernel_rfl) (by kernel_rfl) (by kernel_rfl) (by exact fun _ _ _ h => h) (by decide) (Waits.more (j := 14) rfl ⟨⟨14, .chain⟩, by simp, rfl, rfl⟩ (Waits.more (j := 13) rfl ⟨⟨13, .data⟩, by simp, rfl, rfl⟩ (Waits.one rfl ⟨⟨12, .data⟩, by simp, rfl, rfl⟩))) (by kernel_rfl) (by kernel_rfl) (.inr ⟨BMr.out, BIr.out, BJr.out⟩) (Or.inl ⟨by rfl, fun w hw => (by obtain ⟨_, _, ⟨y2, z2⟩⟩ := hw; simp [execOp, go_sem, Act.eval, y2, z2])⟩) (fun _ => ?_)
                  simp only [Act.put, List.setIfInBounds_toArray, List.set_cons_zero, List.set_cons_succ]
                  refine wpAnyL_one (i := 13) (by kernel_rfl) (by simp only [List.getElem?_toArray, List.getElem?_cons_zero, List.getElem?_cons_succ] <;> rfl) (by rfl) ?_
                  refine opwp_call (f := 31) (args := #[encS (bi), encS (bj)]) (w' := wr.drew) (by simp [go_sem, Act.eval]) ?_
                  refine (Sub_c bi bj wr.drew).mono ?_
                  rintro e w14 ⟨rfl, hb14⟩
                  have hch1_0 := hid (BMr.out.below hb14 BMr.out.lt)
                  have hch1_1 := hid (show (w14.cell? ⟨bM, oM + k * 2, none⟩ = some (.int .u64 ((lw (bi)).toNat : Int)) ∧ w14.cell? ⟨bM, oM + k * 2 + 1, none⟩ = some (.int .u64 ((hw (bi)).toNat : Int))) from ⟨(hb14.cell (cell_lt BIr.out.1)).trans BIr.out.1, (hb14.cell (cell_lt BIr.out.2)).trans BIr.out.2⟩)
                  have hch1_2 := hid (show (w14.cell? ⟨bM, oM + j * 2, none⟩ = some (.int .u64 ((lw (bj)).toNat : Int)) ∧ w14.cell? ⟨bM, oM + j * 2 + 1, none⟩ = some (.int .u64 ((hw (bj)).toNat : Int))) from ⟨(hb14.cell (cell_lt BJr.out.1)).trans BJr.out.1, (hb14.cell (cell_lt BJr.out.2)).trans BJr.out.2⟩)
                  rw [HAP.out.1]
                  refine .inl ⟨_, rfl, .inr ⟨hch1_0.out, hch1_1.out, hch1_2.out⟩, ?_⟩
                  simp only [Act.put, List.setIfInBounds_toArray, List.set_cons_zero, List.set_cons_succ]
                  refine wpAnyL_pure (i := 14) (v := .bool false) (by simp only [List.getElem?_toArray, List.getElem?_cons_zero, List.getElem?_cons_succ] <;> rfl) (by kernel_rfl) (by kernel_rfl) (by kernel_rfl) (by exact fun _ _ _ h => h) (by decide) (.inr ⟨hch1_0.out, hch1_1.out, hch1_2.out⟩) (Or.inl ⟨by rfl, fun w _ => (by simp [execOp, go_sem, Act.eval])⟩) (fun _ => ?_)
                  simp only [Act.put, List.setIfInBounds_toArray, List.set_cons_zero, List.set_cons_succ]
                  refine wpAnyL_pure (i := 15) (v := .pointer (some ⟨pm, 0, none⟩)) (by simp only [List.getElem?_toArray, List.getElem?_cons_zero, List.getElem?_cons_succ] <;> rfl) (by kernel_rfl) (by kernel_rfl) (by kernel_rfl) (by exact fun _ _ _ h => h) (by decide) (.inr ⟨hch1_0.out, hch1_1.out, hch1_2.out⟩) (Or.inl ⟨by rfl, fun w _ => (by simp [execOp, go_sem, Act.eval])⟩) (fun _ => ?_)
                  simp only [Act.put, List.setIfInBounds_toArray, List.set_cons_zero, List.set_cons_succ]
                  refine wpAnyL_load2 (i := 16) (v := .slice (some ⟨bM, oM, none⟩) B2.length cM) (by simp only [List.getElem?_toArray, List.getElem?_cons_zero, List.getElem?_cons_succ] <;> rfl) (by kernel_rfl) (by kernel_rfl) (by kernel_rfl) (by exact fun _ _ _ h => h) (by decide) (Waits.more (j := 19) rfl ⟨⟨19, .data⟩, by simp, rfl, rfl⟩ (Waits.more (j := 18) rfl ⟨⟨18, .data⟩, by simp, rfl, rfl⟩ (Waits.one rfl ⟨⟨16, .data⟩, by simp, rfl, rfl⟩))) (by kernel_rfl) (by kernel_rfl) (.inr ⟨hch1_0.out, hch1_1.out, hch1_2.out⟩) (Or.inl ⟨by rfl, fun w hw => (by obtain ⟨x0, _, _⟩ := hw; simp [execOp, go_sem, Act.eval, x0.cells.1])⟩) (fun _ => ?_)
                  simp only [Act.put, List.setIfInBounds_toArray, List.set_cons_zero, List.set_cons_succ]
                  refine wpAnyL_pure (i := 17) (v := .int .i64 (j : Int)) (by simp only [List.getElem?_toArray, List.getElem?_cons_zero, List.getElem?_cons_succ] <;> rfl) (by kernel_rfl) (by kernel_rfl) (by kernel_rfl) (by exact fun _ _ _ h => h) (by decide) (.inr ⟨hch1_0.out, hch1_1.out, hch1_2.out⟩) (Or.inl ⟨by rfl, fun w _ => (by simp [execOp, go_sem, Act.eval])⟩) (fun _ => ?_)
                  simp only [Act.put, List.setIfInBounds_toArray, List.set_cons_zero, List.set_cons_succ]
                  refine wpAnyL_pure (i := 18) (v := .pointer (some ⟨bM, oM + j * 2, none⟩)) (by simp only [List.getElem?_toArray, List.getElem?_cons_zero, List.getElem?_cons_succ] <;> rfl) (by kernel_rfl) (by kernel_rfl) (by kernel_rfl) (by exact fun _ _ _ h => h) (by decide) (.inr ⟨hch1_0.out, hch1_1.out, hch1_2.out⟩) (Or.inl ⟨by rfl, fun w _ => (by simp [execOp, go_sem, Act.eval, zj])⟩) (fun _ => ?_)
                  simp only [Act.put, List.setIfInBounds_toArray, List.set_cons_zero, List.set_cons_succ]
                  refine wpAnyL_load2 (i := 19) (v := encS (bj)) (by simp only [List.getElem?_toArray, List.getElem?_cons_zero, List.getElem?_cons_succ] <;> rfl) (by kernel_rfl) (by kernel_rfl) (by kernel_rfl) (by exact fun _ _ _ h => h) (by decide) (Waits.one rfl ⟨⟨19, .data⟩, by simp, rfl, rfl⟩) (by kernel_rfl) (by kernel_rfl) (.inr ⟨hch1_0.out, hch1_1.out, hch1_2.out⟩) (Or.inl ⟨by rfl, fun w hw => (by obtain ⟨_, _, ⟨y2, z2⟩⟩ := hw; simp [execOp, go_sem, Act.eval, y2, z2])⟩) (fun _ => ?_)
                  simp only [Act.put, List.setIfInBounds_toArray, List.set_cons_zero, List.set_cons_succ]
                  refine wpAnyL_pure (i := 20) (v := .pointer (some ⟨pm, 0, none⟩)) (by simp only [List.getElem?_toArray, List.getElem?_cons_zero, List.getElem?_cons_succ] <;> rfl) (by kernel_rfl) (by kernel_rfl) (by kernel_rfl) (by exact fun _ _ _ h => h) (by decide) (.inr ⟨hch1_0.out, hch1_1.out, hch1_2.out⟩) (Or.inl ⟨by rfl, fun w _ => (by simp [execOp, go_sem, Act.eval])⟩) (fun _ => ?_)
                  simp only [Act.put, List.setIfInBounds_toArray, List.set_cons_zero, List.set_cons_succ]
                  refine wpAnyL_load2 (i := 21) (v := .slice (some ⟨bM, oM, none⟩) B2.length cM) (by simp only [List.getElem?_toArray, List.getElem?_cons_zero, List.getElem?_cons_succ] <;> rfl) (by kernel_rfl) (by kernel_rfl) (by kernel_rfl) (by exact fun _ _ _ h => h) (by decide) (Waits.more (j := 24) rfl ⟨⟨24, .data⟩, by simp, rfl, rfl⟩ (Waits.more (j := 23) rfl ⟨⟨23, .data⟩, by simp, rfl, rfl⟩ (Waits.one rfl ⟨⟨21, .data⟩, by simp, rfl, rfl⟩))) (by kernel_rfl) (by kernel_rfl) (.inr ⟨hch1_0.out, hch1_1.out, hch1_2.out⟩) (Or.inl ⟨by rfl, fun w hw => (by obtain ⟨x0, _, _⟩ := hw; simp [execOp, go_sem, Act.eval, x0.cells.1])⟩) (fun _ => ?_)
                  simp only [Act.put, List.setIfInBounds_toArray, List.set_cons_zero, List.set_cons_succ]
                  refine wpAnyL_pure (i := 22) (v := .int .i64 (k : Int)) (by simp only [List.getElem?_toArray, List.getElem?_cons_zero, List.getElem?_cons_succ] <;> rfl) (by kernel_rfl) (by kernel_rfl) (by kernel_rfl) (by exact fun _ _ _ h => h) (by decide) (.inr ⟨hch1_0.out, hch1_1.out, hch1_2.out⟩) (Or.inl ⟨by rfl, fun w _ => (by simp [execOp, go_sem, Act.eval])⟩) (fun _ => ?_)
                  simp only [Act.put, List.setIfInBounds_toArray, List.set_cons_zero, List.set_cons_succ]
                  refine wpAnyL_pure (i := 23) (v := .pointer (some ⟨bM, oM + k * 2, none⟩)) (by simp only [List.getElem?_toArray, List.getElem?_cons_zero, List.getElem?_cons_succ] <;> rfl) (by kernel_rfl) (by kernel_rfl) (by kernel_rfl) (by exact fun _ _ _ h => h) (by decide) (.inr ⟨hch1_0.out, hch1_1.out, hch1_2.out⟩) (Or.inl ⟨by rfl, fun w _ => (by simp [execOp, go_sem, Act.eval, zkB])⟩) (fun _ => ?_)
                  simp only [Act.put, List.setIfInBounds_toArray, List.set_cons_zero, List.set_cons_succ]
                  refine wpAnyL_load2 (i := 24) (v := encS (bi)) (by simp only [List.getElem?_toArray, List.getElem?_cons_zero, List.getElem?_cons_succ] <;> rfl) (by kernel_rfl) (by kernel_rfl) (by kernel_rfl) (by exact fun _ _ _ h => h) (by decide) (Waits.one rfl ⟨⟨24, .data⟩, by simp, rfl, rfl⟩) (by kernel_rfl) (by kernel_rfl) (.inr ⟨hch1_0.out, hch1_1.out, hch1_2.out⟩) (Or.inl ⟨by rfl, fun w hw => (by obtain ⟨_, ⟨y1, z1⟩, _⟩ := hw; simp [execOp, go_sem, Act.eval, y1, z1])⟩) (fun _ => ?_)
                  simp only [Act.put, List.setIfInBounds_toArray, List.set_cons_zero, List.set_cons_succ]
                  refine wpAnyL_one (i := 25) (by kernel_rfl) (by simp only [List.getElem?_toArray, List.getElem?_cons_zero, List.getElem?_cons_succ] <;> rfl) (by rfl) ?_
                  refine opwp_call (f := 31) (args := #[encS (bj), encS (bi)]) (w' := w14) (by simp [go_sem, Act.eval]) ?_
                  refine (Sub_c bj bi w14).mono ?_
                  rintro e w15 ⟨rfl, hb15⟩
                  rw [HAP.out.2]
                  refine .inl ⟨_, rfl, .inl (by kernel_rfl), ?_⟩
                  simp only [Act.put, List.setIfInBounds_toArray, List.set_cons_zero, List.set_cons_succ]
                  refine wpAnyL_pure (i := 26) (v := .bool false) (by simp only [List.getElem?_toArray, List.getElem?_cons_zero, List.getElem?_cons_succ] <;> rfl) (by kernel_rfl) (by kernel_rfl) (by kernel_rfl) (by exact fun _ _ _ h => h) (by decide) (.inl (by kernel_rfl)) (Or.inl ⟨by rfl, fun w _ => (by simp [execOp, go_sem, Act.eval])⟩) (fun _ => ?_)
                  simp only [Act.put, List.setIfInBounds_toArray, List.set_cons_zero, List.set_cons_succ]
                  refine wpAnyL_pure (i := 27) (v := .bool false) (by simp only [List.getElem?_toArray, List.getElem?_cons_zero, List.getElem?_cons_succ] <;> rfl) (by kernel_rfl) (by kernel_rfl) (by kernel_rfl) (by exact fun _ _ _ h => h) (by decide) (.inl (by kernel_rfl)) (Or.inl ⟨by rfl, fun w _ => (by simp [execOp, go_sem, Act.eval])⟩) (fun _ => ?_)
                  simp only [Act.put, List.setIfInBounds_toArray, List.set_cons_zero, List.set_cons_succ]
                  refine wpAnyL_done (by kernel_rfl) ?_ _
                  have hbb := (((Below.refl wr.heap.size wr).drew).trans hb14).trans (hb15.mono (Nat.le_trans (Nat.le_refl _) hb14.size))
                  have HBd := hid (hbr.out.trans (hbb.mono hbr.out.size))
                  have HMd := hid (hbm.out.below hbb hbm.out.lt)
                  clear hbr hbm hbb hb14 hb15 BMr BIr BJr
                  go_wp2_with fail
                  go_roundw
                  case rel => exact ⟨k + 1, by omega, by go_num, HBd.out, HMd.out⟩
                  case measure => simp [intOf]; omega
              · obtain rfl : k = U2.length := by omega
                have hbd := hbr.out.drew
                have HBd := hid hbd
                have BMe : Hid (Box2 wr.drew pm 25 (.slice pM B2.length cM) (.slice pN U2.length cN)) := hbm.out
                have HBWe := hid (HBWd.out.trans (hbd.mono HBWd.out.size))
                have HSe := hid (fun w' (h : Below wr.drew.heap.size wr.drew w') => HSd.out w' (HBd.out.trans (h.mono HBd.out.size)))
                have HIe := hid (fun w' (h : Below wr.drew.heap.size wr.drew w') => HId.out w' (HBd.out.trans (h.mono HBd.out.size)))
                have HWe := hid (fun w' (h : Below wr.drew.heap.size wr.drew w') => HW.out w' (HBWe.out.trans (h.mono HBWe.out.size)))
                have HBS := hid (Below.refl wr.drew.heap.size wr.drew)
                clear hbd hbr hbm
                go_wp2_with fail
                refine Go.Proofs.YtmlecpapoeodkaaDoor.wp_region_L 10 5 (fun w' => Box2 w' (pm) 25 (.slice pM B2.length cM) (.slice pN U2.length cN)) (by kernel_rfl) rfl BMe.out (fun _ => ?_)
                refine wpAnyL_load2 (i := 0) (v := .agg #[.slice pM B2.length cM, .slice pN U2.length cN]) (by simp only [List.getElem?_toArray, List.getElem?_cons_zero] <;> rfl) (by kernel_rfl) (by kernel_rfl) (by kernel_rfl) (by exact fun _ _ _ h => h) (by decide) (Waits.more (j := 2) rfl ⟨⟨2, .data⟩, by simp, rfl, rfl⟩ (Waits.more (j := 1) rfl ⟨⟨1, .data⟩, by simp, rfl, rfl⟩ (Waits.one rfl ⟨⟨0, .data⟩, by simp, rfl, rfl⟩))) (by kernel_rfl) (by kernel_rfl) (.inr BMe.out) (Or.inl ⟨by rfl, fun w hw => (by have x0 := hw; simp [execOp, go_sem, Act.eval, x0.cells.1, x0.cells.2.1])⟩) (fun _ => ?_)
                simp only [Act.put, List.setIfInBounds_toArray, List.set_cons_zero, List.set_cons_succ]
                refine wpAnyL_load2 (i := 3) (v := .agg #[.slice pM B2.length cM, .slice pN U2.length cN]) (by simp only [List.getElem?_toArray, List.getElem?_cons_zero, List.getElem?_cons_succ] <;> rfl) (by kernel_rfl) (by kernel_rfl) (by kernel_rfl) (by exact fun _ _ _ h => h) (by decide) (Waits.more (j := 4) rfl ⟨⟨4, .data⟩, by simp, rfl, rfl⟩ (Waits.one rfl ⟨⟨3, .data⟩, by simp, rfl, rfl⟩)) (by kernel_rfl) (by kernel_rfl) (.inr BMe.out) (Or.inl ⟨by rfl, fun w hw => (by have x0 := hw; simp [execOp, go_sem, Act.eval, x0.cells.1, x0.cells.2.1])⟩) (fun _ => ?_)
                simp only [Act.put, List.setIfInBounds_toArray, List.set_cons_zero, List.set_cons_succ]
                refine wpAnyL_one (i := 1) (by kernel_rfl) (by simp only [List.getElem?_toArray, List.getElem?_cons_zero, List.getElem?_cons_succ] <;> rfl) (by rfl) ?_
                refine opwp_call (f := 18) (args := #[.agg #[.slice pM B2.length cM, .slice pN U2.length cN]]) (w' := wr.drew) (by simp [go_sem, Act.eval]) ?_
                refine (Merge_c _ _ B2 U2 wr.drew (HSe.out _ HBS.out) (HIe.out _ HBS.out) (by omega) (by omega)).mono ?_
                rintro e w16 ⟨vB3, vU3, B3, U3, rfl, o1, o2, hb16, hmt3⟩
                have hcm1_0 := hid (BMe.out.below hb16 BMe.out.lt)
                have hBm1 := HBS.out.trans (hb16.mono HBS.out.size)
                obtain ⟨e1, e2⟩ := HGD.out.again _ _ hmt3
                subst B3; subst U3
                have hs16 := o1.sets
                have hi16 := o2.ints
                obtain ⟨p9, c9, e9, _⟩ := o1.sets
                obtain ⟨q9, d9, f9, _⟩ := o2.ints
                subst e9; subst f9
                refine .inl ⟨_, rfl, .inr hcm1_0.out, ?_⟩
                simp only [Act.put, List.setIfInBounds_toArray, List.set_cons_zero, List.set_cons_succ]
                refine wpAnyL_one (i := 2) (by kernel_rfl) (by simp only [List.getElem?_toArray, List.getElem?_cons_zero, List.getElem?_cons_succ] <;> rfl) (by rfl) ?_
                refine opwp_call (f := 17) (args := #[.agg #[.slice p9 B2.length c9, .slice q9 U2.length d9]]) (w' := w16) (by simp [go_sem, Act.eval]) ?_
                refine (taken_c p9 q9 B2.length c9 U2.length d9 w16).mono ?_
                rintro e w17 ⟨rfl, hb17⟩
                have hcm2_0 := hid (hcm1_0.out.below hb17 hcm1_0.out.lt)
                have hBm2 := hBm1.trans (hb17.mono hBm1.size)
                refine .inl ⟨_, rfl, .inr hcm2_0.out, ?_⟩
                simp only [Act.put, List.setIfInBounds_toArray, List.set_cons_zero, List.set_cons_succ]
                refine wpAnyL_one (i := 4) (by kernel_rfl) (by simp only [List.getElem?_toArray, List.getElem?_cons_zero, List.getElem?_cons_succ] <;> rfl) (by rfl) ?_
                refine opwp_call (f := 17) (args := #[.agg #[.slice pM B2.length cM, .slice pN U2.length cN]]) (w' := w17) (by simp [go_sem, Act.eval]) ?_
                refine (taken_c pM pN B2.length cM U2.length cN w17).mono ?_
                rintro e w18 ⟨rfl, hb18⟩
                have hcm3_0 := hid (hcm2_0.out.below hb18 hcm2_0.out.lt)
                have hBm3 := hBm2.trans (hb18.mono hBm2.size)
                have HSM := hid (same_c _ _ _ _ B2 B2 U2 U2 w18 ((hs16.below hb17).below hb18) ((hi16.below hb17).below hb18) (HSe.out _ hBm3) (HIe.out _ hBm3) (by omega) (by omega) (by omega) (by omega))
                rw [show decide (B2 = B2 ∧ U2 = U2) = true from by simp] at HSM
                refine .inl ⟨_, rfl, .inr hcm3_0.out, ?_⟩
                simp only [Act.put, List.setIfInBounds_toArray, List.set_cons_zero, List.set_cons_succ]
                refine wpAnyL_one (i := 5) (by kernel_rfl) (by simp only [List.getElem?_toArray, List.getElem?_cons_zero, List.getElem?_cons_succ] <;> rfl) (by rfl) ?_
                refine opwp_call (f := 16) (args := #[.agg #[.slice p9 B2.length c9, .slice q9 U2.length d9], .agg #[.slice pM B2.length cM, .slice pN U2.length cN]]) (w' := w18) (by simp [go_sem, Act.eval]) ?_
                refine (HSM.out).mono ?_
                rintro e w19 ⟨rfl, hb19⟩
                have hBm4 := hBm3.trans (hb19.mono hBm3.size)
                refine .inl ⟨_, rfl, .inl (by kernel_rfl), ?_⟩
                simp only [Act.put, List.setIfInBounds_toArray, List.set_cons_zero, List.set_cons_succ]
                refine wpAnyL_pure (i := 6) (v := .bool true) (by simp only [List.getElem?_toArray, List.getElem?_cons_zero, List.getElem?_cons_succ] <;> rfl) (by kernel_rfl) (by kernel_rfl) (by kernel_rfl) (by exact fun _ _ _ h => h) (by decide) (.inl (by kernel_rfl)) (Or.inl ⟨by rfl, fun w _ => (by simp [execOp, go_sem, Act.eval])⟩) (fun _ => ?_)
                simp only [Act.put, List.setIfInBounds_toArray, List.set_cons_zero, List.set_cons_succ]
                refine wpAnyL_one (i := 7) (by kernel_rfl) (by simp only [List.getElem?_toArray, List.getElem?_cons_zero, List.getElem?_cons_succ] <;> rfl) (by rfl) ?_
                refine opwp_call (f := 21) (args := #[]) (w' := w19) (by simp [go_sem]) ?_
                refine (HWe.out _ hBm4).mono ?_
                rintro e w20 ⟨rfl, hb20⟩
                have hBm5 := hBm4.trans (hb20.mono hBm4.size)
                refine .inl ⟨_, rfl, .inl (by kernel_rfl), ?_⟩
                simp only [Act.put, List.setIfInBounds_toArray, List.set_cons_zero, List.set_cons_succ]
                refine wpAnyL_pure (i := 8) (v := .bool true) (by simp only [List.getElem?_toArray, List.getElem?_cons_zero, List.getElem?_cons_succ] <;> rfl) (by kernel_rfl) (by kernel_rfl) (by kernel_rfl) (by exact fun _ _ _ h => h) (by decide) (.inl (by kernel_rfl)) (Or.inl ⟨by rfl, fun w _ => (by simp [execOp, go_sem, Act.eval])⟩) (fun _ => ?_)
                simp only [Act.put, List.setIfInBounds_toArray, List.set_cons_zero, List.set_cons_succ]
                refine wpAnyL_pure (i := 9) (v := .bool true) (by simp only [List.getElem?_toArray, List.getElem?_cons_zero, List.getElem?_cons_succ] <;> rfl) (by kernel_rfl) (by kernel_rfl) (by kernel_rfl) (by exact fun _ _ _ h => h) (by decide) (.inl (by kernel_rfl)) (Or.inl ⟨by rfl, fun w _ => (by simp [execOp, go_sem, Act.eval])⟩) (fun _ => ?_)
                simp only [Act.put, List.setIfInBounds_toArray, List.set_cons_zero, List.set_cons_succ]
                refine wpAnyL_done (by kernel_rfl) ?_ _
                have hend := HBWe.out.trans (hBm5.mono HBWe.out.size)
                go_wp2_with fail
                go_ret
                exact ⟨rfl, hend⟩
          · have hk1 : (checkW L (BB) (UU) != 0) = true := by simpa using hck
            generalize checkW L (BB) (UU) = ck at *
            go_wp2_with fail
            refine (HW.out _ HBW8.out).mono ?_
            rintro e w9 ⟨rfl, hb9⟩
            have hB9 := HBW8.out.trans (hb9.mono HBW8.out.size)
            go_wp2_with fail
            go_ret
            exact ⟨rfl, hB9⟩
end Go.Proofs.YtmlecpapoeodkaaDoor
