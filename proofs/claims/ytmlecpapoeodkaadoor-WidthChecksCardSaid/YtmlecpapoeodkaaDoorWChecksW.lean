/- The walk of the law WidthChecks. -/
import Derived.Test.YtmlecpapoeodkaaDoorWWorks
import Derived.Test.YtmlecpapoeodkaaDoorWRef6
namespace Go.Proofs.YtmlecpapoeodkaaDoor
open Go.RowKit
attribute [local go_sem ↓] run_eqlS run_neqS run_eqlS0 run_neqS0

theorem fewB_yes {B : List VS} {U : List Int} (h : fewB B U = true) : B.length ≤ 100 ∧ U.length ≤ 100 := by
  unfold fewB at h
  rw [Bool.and_eq_true, decide_eq_true_eq, decide_eq_true_eq] at h
  exact h
set_option maxRecDepth 100000 in
set_option maxHeartbeats 8000000 in
theorem widthChecks_walk (v : Value) (L : List VS) (x y : Value) (B : List VS) (U : List Int) (w : World) (hT : TabAt w) (hI : SetsAt w v L) (hL : L.length ≤ 9223372036854775807)
    (hx : SetsAt w x B) (hy : IntsAt w y U) (hB : B.length ≤ 9223372036854775807) (hU : U.length ≤ 9223372036854775807) :
    Calls Tryd.prog 5 #[v, .agg #[x, y]] w (LawPost w) := by
  have HW := hid (fun w' (h : Below w.heap.size w w') => works_c w' (hT.below hT.lt h))
  have HI := hid (fun w' (h : Below w.heap.size w w') => hI.below h)
  have HX := hid (fun w' (h : Below w.heap.size w w') => hx.below h)
  have HY := hid (fun w' (h : Below w.heap.size w w') => hy.below h)
  obtain ⟨p, c, rfl, hdrop⟩ := id hI
  obtain ⟨p3, c3, rfl, hdrop3⟩ := id hx
  obtain ⟨p4, c4, rfl, hdrop4⟩ := id hy
  clear hdrop hdrop3 hdrop4 hI hx hy
  have hB0 : Below w.heap.size w (w.alloc (.cells #[.slice p3 B.length c3, .slice p4 U.length c4] 33)) := (Below.refl _ w).alloc (Nat.le_refl _) _
  have b0 := Box2.new w 33 (.slice p3 B.length c3) (.slice p4 U.length c4)
  obtain ⟨d0, d1, _, _⟩ := b0.cells
  have HF := hid (few_c _ _ B U _ (HX.out _ hB0) (HY.out _ hB0))
  by_cases h1 : 200 < L.length
  · have e1 : decide ((200 : Int) < (L.length : Int)) = true := decide_eq_true (by omega)
    clear h1 HF
    go_enter Tryd.func5, Tryd.ntmps5
    go_wp2_with fail
    refine (HW.out _ hB0).mono ?_
    rintro e w2 ⟨rfl, hb2⟩
    have hB2 := hB0.trans (hb2.mono hB0.size)
    go_wp2_with fail
    go_ret
    exact ⟨rfl, hB2⟩
  · have e1 : decide ((200 : Int) < (L.length : Int)) = false := decide_eq_false (by omega)
    have hL2 : L.length ≤ 200 := by omega
    clear h1
    go_enter Tryd.func5, Tryd.ntmps5
    go_wp2_with fail
    refine HF.out.mono ?_
    rintro e w2 ⟨rfl, hb2⟩
    have hB2 := hB0.trans (hb2.mono hB0.size)
    have b2 := b0.below hb2 b0.lt
    clear d0 d1 b0 hb2 hB0 HF
    cases hf : fewB B U
    · clear hf
      go_wp2_with fail
      refine (HW.out _ hB2).mono ?_
      rintro e w3 ⟨rfl, hb3⟩
      have hB3 := hB2.trans (hb3.mono hB2.size)
      go_wp2_with fail
      go_ret
      exact ⟨rfl, hB3⟩
    · obtain ⟨hb100, hu100⟩ := fewB_yes hf
      clear hf
      have HGV := hid (given_c _ _ B U w2 (HX.out _ hB2) (HY.out _ hB2) (by omega) (by omega))
      obtain ⟨d0, d1, _, _⟩ := b2.cells
      go_wp2_with fail
      refine HGV.out.mono ?_
      rintro e w4 ⟨x2, y2, rfl, ho1, ho2, hb4⟩
      have hX4 := ho1.sets
      have hY4 := ho2.ints
      obtain ⟨q3, g3, rfl, _⟩ := ho1.sets
      obtain ⟨q4, g4, rfl, _⟩ := ho2.ints
      have hba : Below w4.heap.size w4 (w4.alloc (.cells #[.slice q3 B.length g3, .slice q4 U.length g4] 25)) := (Below.refl _ w4).alloc (Nat.le_refl _) _
      have hb5 := hb4.trans (hba.mono hb4.size)
      have hB5 := hB2.trans (hb5.mono hB2.size)
      have b5 := b2.below hb5 b2.lt
      have x5 := Box2.new w4 25 (.slice q3 B.length g3) (.slice q4 U.length g4)
      have hX5 := hX4.below hba
      have hY5 := hY4.below hba
      clear d0 d1 ho1 ho2 hX4 hY4 hba hb4 hb5 b2 hB2 HGV
      have HB5 := hid hB5
      have HB6 := hid b5
      have HB7 := hid x5
      have HX4 := hid hX5
      have HY4 := hid hY5
      clear hB5 b5 x5 hX5 hY5
      go_wp2_with fail
      generalize w4.alloc (.cells #[.slice q3 B.length g3, .slice q4 U.length g4] 25) = w5 at *
      generalize w4.heap.size = px at *
      have hbd := (Below.refl w5.heap.size w5).drew
      have HX5 := hid (HX4.out.below hbd)
      have HY5 := hid (HY4.out.below hbd)
      have HBd := hid (HB5.out.drew)
      have BD : Hid (Box2 w5.drew w.heap.size 33 (.slice p3 B.length c3) (.slice p4 U.length c4)) := HB6.out
      have BX : Hid (Box2 w5.drew px 25 (.slice q3 B.length g3) (.slice q4 U.length g4)) := HB7.out
      clear hbd HB5 HB6 HB7 HX4 HY4
      go_wp2_with fail
      refine Go.Proofs.YtmlecpapoeodkaaDoor.wp_region_L 17 11 (fun w' => Box2 w' (px) 25 (.slice q3 B.length g3) (.slice q4 U.length g4) ∧ Box2 w' (w.heap.size) 33 (.slice p3 B.length c3) (.slice p4 U.length c4)) (by kernel_rfl) rfl ⟨BX.out, BD.out⟩ (fun _ => ?_)
      refine wpAnyL_pure (i := 0) (v := .slice p L.length c) (by simp only [List.getElem?_toArray, List.getElem?_cons_zero] <;> rfl) (by kernel_rfl) (by kernel_rfl) (by kernel_rfl) (by exact fun _ _ _ h => h) (by decide) (.inr ⟨BX.out, BD.out⟩) (Or.inl ⟨by rfl, fun w _ => (by simp [execOp, go_sem, Act.eval])⟩) (fun _ => ?_)
      simp only [Act.put, List.setIfInBounds_toArray, List.set_cons_zero, List.set_cons_succ]
      refine wpAnyL_load2 (i := 1) (v := .agg #[.slice q3 B.length g3, .slice q4 U.length g4]) (by simp only [List.getElem?_toArray, List.getElem?_cons_zero, List.getElem?_cons_succ] <;> rfl) (by kernel_rfl) (by kernel_rfl) (by kernel_rfl) (by exact fun _ _ _ h => h) (by decide) (Waits.more (j := 7) rfl ⟨⟨7, .guard⟩, by simp, rfl, rfl⟩ (Waits.more (j := 6) rfl ⟨⟨6, .data⟩, by simp, rfl, rfl⟩ (Waits.more (j := 2) rfl ⟨⟨2, .data⟩, by simp, rfl, rfl⟩ (Waits.one rfl ⟨⟨1, .data⟩, by simp, rfl, rfl⟩)))) (by kernel_rfl) (by kernel_rfl) (.inr ⟨BX.out, BD.out⟩) (Or.inl ⟨by rfl, fun w hw => (by obtain ⟨x0, _⟩ := hw; simp [execOp, go_sem, Act.eval, x0.cells.1, x0.cells.2.1])⟩) (fun _ => ?_)
      simp only [Act.put, List.setIfInBounds_toArray, List.set_cons_zero, List.set_cons_succ]
      refine wpAnyL_pure (i := 3) (v := .slice p L.length c) (by simp only [List.getElem?_toArray, List.getElem?_cons_zero, List.getElem?_cons_succ] <;> rfl) (by kernel_rfl) (by kernel_rfl) (by kernel_rfl) (by exact fun _ _ _ h => h) (by decide) (.inr ⟨BX.out, BD.out⟩) (Or.inl ⟨by rfl, fun w _ => (by simp [execOp, go_sem, Act.eval])⟩) (fun _ => ?_)
      simp only [Act.put, List.setIfInBounds_toArray, List.set_cons_zero, List.set_cons_succ]
      refine wpAnyL_load2 (i := 4) (v := .agg #[.slice p3 B.length c3, .slice p4 U.length c4]) (by simp only [List.getElem?_toArray, List.getElem?_cons_zero, List.getElem?_cons_succ] <;> rfl) (by kernel_rfl) (by kernel_rfl) (by kernel_rfl) (by exact fun _ _ _ h => h) (by decide) (Waits.more (j := 7) rfl ⟨⟨7, .guard⟩, by simp, rfl, rfl⟩ (Waits.more (j := 5) rfl ⟨⟨5, .chain⟩, by simp, rfl, rfl⟩ (Waits.one rfl ⟨⟨4, .data⟩, by simp, rfl, rfl⟩))) (by kernel_rfl) (by kernel_rfl) (.inr ⟨BX.out, BD.out⟩) (Or.inl ⟨by rfl, fun w hw => (by obtain ⟨_, x1⟩ := hw; simp [execOp, go_sem, Act.eval, x1.cells.1, x1.cells.2.1])⟩) (fun _ => ?_)
      simp only [Act.put, List.setIfInBounds_toArray, List.set_cons_zero, List.set_cons_succ]
      refine wpAnyL_one (i := 2) (by kernel_rfl) (by simp only [List.getElem?_toArray, List.getElem?_cons_zero, List.getElem?_cons_succ] <;> rfl) (by rfl) ?_
      refine opwp_call (f := 20) (args := #[.slice p L.length c, .agg #[.slice q3 B.length g3, .slice q4 U.length g4]]) (w' := w5.drew) (by simp [go_sem, Act.eval]) ?_
      refine (Check_c _ _ _ L B U w5.drew (HI.out _ HBd.out) HX5.out HY5.out (hT.below hT.lt HBd.out) (by omega) (by omega) (by omega)).mono ?_
      rintro e w6 ⟨rfl, hb6⟩
      have hcn1_0 := hid (BX.out.below hb6 BX.out.lt)
      have hcn1_1 := hid (BD.out.below hb6 BD.out.lt)
      have hBn1 := HBd.out.trans (hb6.mono HBd.out.size)
      have hx6 := HX5.out.below hb6
      have hy6 := HY5.out.below hb6
      refine .inl ⟨_, rfl, .inr ⟨hcn1_0.out, hcn1_1.out⟩, ?_⟩
      simp only [Act.put, List.setIfInBounds_toArray, List.set_cons_zero, List.set_cons_succ]
      refine wpAnyL_one (i := 5) (by kernel_rfl) (by simp only [List.getElem?_toArray, List.getElem?_cons_zero, List.getElem?_cons_succ] <;> rfl) (by rfl) ?_
      refine opwp_call (f := 27) (args := #[.slice p L.length c, .agg #[.slice p3 B.length c3, .slice p4 U.length c4]]) (w' := w6) (by simp [go_sem, Act.eval]) ?_
      refine (rCheck_c _ _ _ L B U w6 (HI.out _ hBn1) (HX.out _ hBn1) (HY.out _ hBn1) (by omega) (by omega) (by omega)).mono ?_
      rintro e w7 ⟨rfl, hb7⟩
      have hcn2_0 := hid (hcn1_0.out.below hb7 hcn1_0.out.lt)
      have hcn2_1 := hid (hcn1_1.out.below hb7 hcn1_1.out.lt)
      have hBn2 := hBn1.trans (hb7.mono hBn1.size)
      have hx7 := hx6.below hb7
      have hy7 := hy6.below hb7
      refine .inl ⟨_, rfl, .inr ⟨hcn2_0.out, hcn2_1.out⟩, ?_⟩
      simp only [Act.put, List.setIfInBounds_toArray, List.set_cons_zero, List.set_cons_succ]
      refine wpAnyL_pure (i := 6) (v := .bool true) (by simp only [List.getElem?_toArray, List.getElem?_cons_zero, List.getElem?_cons_succ] <;> rfl) (by kernel_rfl) (by kernel_rfl) (by kernel_rfl) (by exact fun _ _ _ h => h) (by decide) (.inr ⟨hcn2_0.out, hcn2_1.out⟩) (Or.inl ⟨by rfl, fun w _ => (by simp [execOp, go_sem, Act.eval])⟩) (fun _ => ?_)
      simp only [Act.put, List.setIfInBounds_toArray, List.set_cons_zero, List.set_cons_succ]
      refine wpAnyL_pure (i := 7) (v := .bool true) (by simp only [List.getElem?_toArray, List.getElem?_cons_zero, List.getElem?_cons_succ] <;> rfl) (by kernel_rfl) (by kernel_rfl) (by kernel_rfl) (by exact fun _ _ _ h => h) (by decide) (.inr ⟨hcn2_0.out, hcn2_1.out⟩) (Or.inl ⟨by rfl, fun w _ => (by simp [execOp, go_sem, Act.eval])⟩) (fun _ => ?_)
      simp only [Act.put, List.setIfInBounds_toArray, List.set_cons_zero, List.set_cons_succ]
      refine wpAnyL_load2 (i := 8) (v := .agg #[.slice q3 B.length g3, .slice q4 U.length g4]) (by simp only [List.getElem?_toArray, List.getElem?_cons_zero, List.getElem?_cons_succ] <;> rfl) (by kernel_rfl) (by kernel_rfl) (by kernel_rfl) (by exact fun _ _ _ h => h) (by decide) (Waits.more (j := 9) rfl ⟨⟨9, .data⟩, by simp, rfl, rfl⟩ (Waits.one rfl ⟨⟨8, .data⟩, by simp, rfl, rfl⟩)) (by kernel_rfl) (by kernel_rfl) (.inr ⟨hcn2_0.out, hcn2_1.out⟩) (Or.inl ⟨by rfl, fun w hw => (by obtain ⟨x0, _⟩ := hw; simp [execOp, go_sem, Act.eval, x0.cells.1, x0.cells.2.1])⟩) (fun _ => ?_)
      simp only [Act.put, List.setIfInBounds_toArray, List.set_cons_zero, List.set_cons_succ]
      refine wpAnyL_load2 (i := 10) (v := .agg #[.slice p3 B.length c3, .slice p4 U.length c4]) (by simp only [List.getElem?_toArray, List.getElem?_cons_zero, List.getElem?_cons_succ] <;> rfl) (by kernel_rfl) (by kernel_rfl) (by kernel_rfl) (by exact fun _ _ _ h => h) (by decide) (Waits.one rfl ⟨⟨10, .data⟩, by simp, rfl, rfl⟩) (by kernel_rfl) (by kernel_rfl) (.inr ⟨hcn2_0.out, hcn2_1.out⟩) (Or.inl ⟨by rfl, fun w hw => (by obtain ⟨_, x1⟩ := hw; simp [execOp, go_sem, Act.eval, x1.cells.1, x1.cells.2.1])⟩) (fun _ => ?_)
      simp only [Act.put, List.setIfInBounds_toArray, List.set_cons_zero, List.set_cons_succ]
      refine wpAnyL_one (i := 9) (by kernel_rfl) (by simp only [List.getElem?_toArray, List.getElem?_cons_zero, List.getElem?_cons_succ] <;> rfl) (by rfl) ?_
      refine opwp_call (f := 17) (args := #[.agg #[.slice q3 B.length g3, .slice q4 U.length g4]]) (w' := w7) (by simp [go_sem, Act.eval]) ?_
      refine (taken_c q3 q4 B.length g3 U.length g4 w7).mono ?_
      rintro e w8 ⟨rfl, hb8⟩
      have hcn3_0 := hid (hcn2_0.out.below hb8 hcn2_0.out.lt)
      have hcn3_1 := hid (hcn2_1.out.below hb8 hcn2_1.out.lt)
      have hBn3 := hBn2.trans (hb8.mono hBn2.size)
      have hx8 := hx7.below hb8
      have hy8 := hy7.below hb8
      refine .inl ⟨_, rfl, .inr ⟨hcn3_0.out, hcn3_1.out⟩, ?_⟩
      simp only [Act.put, List.setIfInBounds_toArray, List.set_cons_zero, List.set_cons_succ]
      refine wpAnyL_one (i := 11) (by kernel_rfl) (by simp only [List.getElem?_toArray, List.getElem?_cons_zero, List.getElem?_cons_succ] <;> rfl) (by rfl) ?_
      refine opwp_call (f := 16) (args := #[.agg #[.slice q3 B.length g3, .slice q4 U.length g4], .agg #[.slice p3 B.length c3, .slice p4 U.length c4]]) (w' := w8) (by simp [go_sem, Act.eval]) ?_
      refine (same_c _ _ _ _ B B U U w8 hx8 hy8 (HX.out _ hBn3) (HY.out _ hBn3) (by omega) (by omega) (by omega) (by omega)).mono ?_
      rintro e w9 ⟨rfl, hb9⟩
      have hBn4 := hBn3.trans (hb9.mono hBn3.size)
      rw [show decide (B = B ∧ U = U) = true from by simp]
      refine .inl ⟨_, rfl, .inl (by kernel_rfl), ?_⟩
      simp only [Act.put, List.setIfInBounds_toArray, List.set_cons_zero, List.set_cons_succ]
      refine wpAnyL_pure (i := 12) (v := .bool true) (by simp only [List.getElem?_toArray, List.getElem?_cons_zero, List.getElem?_cons_succ] <;> rfl) (by kernel_rfl) (by kernel_rfl) (by kernel_rfl) (by exact fun _ _ _ h => h) (by decide) (.inl (by kernel_rfl)) (Or.inl ⟨by rfl, fun w _ => (by simp [execOp, go_sem, Act.eval])⟩) (fun _ => ?_)
      simp only [Act.put, List.setIfInBounds_toArray, List.set_cons_zero, List.set_cons_succ]
      refine wpAnyL_pure (i := 13) (v := .bool true) (by simp only [List.getElem?_toArray, List.getElem?_cons_zero, List.getElem?_cons_succ] <;> rfl) (by kernel_rfl) (by kernel_rfl) (by kernel_rfl) (by exact fun _ _ _ h => h) (by decide) (.inl (by kernel_rfl)) (Or.inl ⟨by rfl, fun w _ => (by simp [execOp, go_sem, Act.eval])⟩) (fun _ => ?_)
      simp only [Act.put, List.setIfInBounds_toArray, List.set_cons_zero, List.set_cons_succ]
      refine wpAnyL_one (i := 14) (by kernel_rfl) (by simp only [List.getElem?_toArray, List.getElem?_cons_zero, List.getElem?_cons_succ] <;> rfl) (by rfl) ?_
      refine opwp_call (f := 21) (args := #[]) (w' := w9) (by simp [go_sem]) ?_
      refine (HW.out _ hBn4).mono ?_
      rintro e w10 ⟨rfl, hb10⟩
      have hBn5 := hBn4.trans (hb10.mono hBn4.size)
      refine .inl ⟨_, rfl, .inl (by kernel_rfl), ?_⟩
      simp only [Act.put, List.setIfInBounds_toArray, List.set_cons_zero, List.set_cons_succ]
      refine wpAnyL_pure (i := 15) (v := .bool true) (by simp only [List.getElem?_toArray, List.getElem?_cons_zero, List.getElem?_cons_succ] <;> rfl) (by kernel_rfl) (by kernel_rfl) (by kernel_rfl) (by exact fun _ _ _ h => h) (by decide) (.inl (by kernel_rfl)) (Or.inl ⟨by rfl, fun w _ => (by simp [execOp, go_sem, Act.eval])⟩) (fun _ => ?_)
      simp only [Act.put, List.setIfInBounds_toArray, List.set_cons_zero, List.set_cons_succ]
      refine wpAnyL_pure (i := 16) (v := .bool true) (by simp only [List.getElem?_toArray, List.getElem?_cons_zero, List.getElem?_cons_succ] <;> rfl) (by kernel_rfl) (by kernel_rfl) (by kernel_rfl) (by exact fun _ _ _ h => h) (by decide) (.inl (by kernel_rfl)) (Or.inl ⟨by rfl, fun w _ => (by simp [execOp, go_sem, Act.eval])⟩) (fun _ => ?_)
      simp only [Act.put, List.setIfInBounds_toArray, List.set_cons_zero, List.set_cons_succ]
      refine wpAnyL_done (by kernel_rfl) ?_ _
      go_wp2_with fail
      go_ret
      exact ⟨rfl, hBn5⟩
end Go.Proofs.YtmlecpapoeodkaaDoor
