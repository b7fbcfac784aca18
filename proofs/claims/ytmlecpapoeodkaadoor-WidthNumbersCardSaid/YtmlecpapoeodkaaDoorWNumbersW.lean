/- The walk of the law WidthNumbers. -/
import Derived.Test.YtmlecpapoeodkaaDoorWWorks
import Derived.Test.YtmlecpapoeodkaaDoorWRef2
namespace Go.Proofs.YtmlecpapoeodkaaDoor
open Go.RowKit
attribute [local go_sem ↓] run_eqlS run_neqS run_eqlS0 run_neqS0

theorem fewB_yes {B : List VS} {U : List Int} (h : fewB B U = true) : B.length ≤ 100 ∧ U.length ≤ 100 := by
  unfold fewB at h
  rw [Bool.and_eq_true, decide_eq_true_eq, decide_eq_true_eq] at h
  exact h
set_option maxRecDepth 100000 in
set_option maxHeartbeats 8000000 in
theorem widthNumbers_walk (v : Value) (L : List VS) (x y : Value) (B : List VS) (U : List Int) (w : World) (hT : TabAt w) (hI : SetsAt w v L) (hL : L.length ≤ 9223372036854775807)
    (hx : SetsAt w x B) (hy : IntsAt w y U) (hB : B.length ≤ 9223372036854775807) (hU : U.length ≤ 9223372036854775807) :
    Calls Tryd.prog 7 #[v, .agg #[x, y]] w (LawPost w) := by
  have HW := hid (fun w' (h : Below w.heap.size w w') => works_c w' (hT.below hT.lt h))
  have HI := hid (fun w' (h : Below w.heap.size w w') => hI.below h)
  have HX := hid (fun w' (h : Below w.heap.size w w') => hx.below h)
  have HY := hid (fun w' (h : Below w.heap.size w w') => hy.below h)
  obtain ⟨p, c, rfl, hdrop⟩ := id hI
  obtain ⟨p3, c3, rfl, hdrop3⟩ := id hx
  obtain ⟨p4, c4, rfl, hdrop4⟩ := id hy
  clear hdrop hdrop3 hdrop4 hI hx hy
  have hB0 : Below w.heap.size w (w.alloc (.cells #[.slice p3 B.length c3, .slice p4 U.length c4] 33)) := (Below.refl _ w).alloc (Nat.le_refl _) _
  have b0 := Box2.new w 33 (.slice p3 B.length c3) (.slice p4 U.length c4)
  obtain ⟨d0, d1, _, _⟩ := b0.cells
  have HF := hid (few_c _ _ B U _ (HX.out _ hB0) (HY.out _ hB0))
  by_cases h1 : 200 < L.length
  · have e1 : decide ((200 : Int) < (L.length : Int)) = true := decide_eq_true (by omega)
    clear h1 HF
    go_enter Tryd.func7, Tryd.ntmps7
    go_wp2_with fail
    refine (HW.out _ hB0).mono ?_
    rintro e w2 ⟨rfl, hb2⟩
    have hB2 := hB0.trans (hb2.mono hB0.size)
    go_wp2_with fail
    go_ret
    exact ⟨rfl, hB2⟩
  · have e1 : decide ((200 : Int) < (L.length : Int)) = false := decide_eq_false (by omega)
    have hL2 : L.length ≤ 200 := by omega
    clear h1
    go_enter Tryd.func7, Tryd.ntmps7
    go_wp2_with fail
    refine HF.out.mono ?_
    rintro e w2 ⟨rfl, hb2⟩
    have hB2 := hB0.trans (hb2.mono hB0.size)
    have b2 := b0.below hb2 b0.lt
    clear d0 d1 b0 hb2 hB0 HF
    cases hf : fewB B U
    · clear hf
      go_wp2_with fail
      refine (HW.out _ hB2).mono ?_
      rintro e w3 ⟨rfl, hb3⟩
      have hB3 := hB2.trans (hb3.mono hB2.size)
      go_wp2_with fail
      go_ret
      exact ⟨rfl, hB3⟩
    · obtain ⟨hb100, hu100⟩ := fewB_yes hf
      clear hf
      have HBd := hid (hB2.drew)
      have HGV := hid (given_c _ _ B U w2.drew (HX.out _ HBd.out) (HY.out _ HBd.out) (by omega) (by omega))
      have B2d : Hid (Box2 w2.drew w.heap.size 33 (.slice p3 B.length c3) (.slice p4 U.length c4)) := b2
      clear b2 hB2
      go_wp2_with fail
      refine Go.Proofs.YtmlecpapoeodkaaDoor.wp_region_L 17 4 (fun w' => Box2 w' (w.heap.size) 33 (.slice p3 B.length c3) (.slice p4 U.length c4)) (by kernel_rfl) rfl B2d.out (fun _ => ?_)
      refine wpAnyL_load2 (i := 0) (v := .agg #[.slice p3 B.length c3, .slice p4 U.length c4]) (by simp only [List.getElem?_toArray, List.getElem?_cons_zero] <;> rfl) (by kernel_rfl) (by kernel_rfl) (by kernel_rfl) (by exact fun _ _ _ h => h) (by decide) (Waits.more (j := 2) rfl ⟨⟨2, .chain⟩, by simp, rfl, rfl⟩ (Waits.more (j := 1) rfl ⟨⟨1, .data⟩, by simp, rfl, rfl⟩ (Waits.one rfl ⟨⟨0, .data⟩, by simp, rfl, rfl⟩))) (by kernel_rfl) (by kernel_rfl) (.inr B2d.out) (Or.inl ⟨by rfl, fun w hw => (by have x0 := hw; simp [execOp, go_sem, Act.eval, x0.cells.1, x0.cells.2.1])⟩) (fun _ => ?_)
      simp only [Act.put, List.setIfInBounds_toArray, List.set_cons_zero, List.set_cons_succ]
      refine wpAnyL_load2 (i := 3) (v := .agg #[.slice p3 B.length c3, .slice p4 U.length c4]) (by simp only [List.getElem?_toArray, List.getElem?_cons_zero, List.getElem?_cons_succ] <;> rfl) (by kernel_rfl) (by kernel_rfl) (by kernel_rfl) (by exact fun _ _ _ h => h) (by decide) (Waits.one rfl ⟨⟨3, .data⟩, by simp, rfl, rfl⟩) (by kernel_rfl) (by kernel_rfl) (.inr B2d.out) (Or.inl ⟨by rfl, fun w hw => (by have x0 := hw; simp [execOp, go_sem, Act.eval, x0.cells.1, x0.cells.2.1])⟩) (fun _ => ?_)
      simp only [Act.put, List.setIfInBounds_toArray, List.set_cons_zero, List.set_cons_succ]
      refine wpAnyL_one (i := 1) (by kernel_rfl) (by simp only [List.getElem?_toArray, List.getElem?_cons_zero, List.getElem?_cons_succ] <;> rfl) (by rfl) ?_
      refine opwp_call (f := 26) (args := #[.agg #[.slice p3 B.length c3, .slice p4 U.length c4]]) (w' := w2.drew) (by simp [go_sem, Act.eval]) ?_
      refine (HGV.out).mono ?_
      rintro e w4 ⟨x2, y2, rfl, ho1, _, hb4⟩
      have hcn1_0 := hid (B2d.out.below hb4 B2d.out.lt)
      have hBn1 := HBd.out.trans (hb4.mono HBd.out.size)
      refine .inl ⟨_, rfl, .inr hcn1_0.out, ?_⟩
      simp only [Act.put, List.setIfInBounds_toArray, List.set_cons_zero, List.set_cons_succ]
      refine wpAnyL_one (i := 2) (by kernel_rfl) (by simp only [List.getElem?_toArray, List.getElem?_cons_zero, List.getElem?_cons_succ] <;> rfl) (by rfl) ?_
      refine opwp_call (f := 19) (args := #[.agg #[x2, y2]]) (w' := w4) (by simp [go_sem, Act.eval]) ?_
      refine (wWidth_c x2 y2 B w4 ho1.sets (by omega)).mono ?_
      rintro e w5 ⟨rfl, hb5⟩
      have hcn2_0 := hid (hcn1_0.out.below hb5 hcn1_0.out.lt)
      have hBn2 := hBn1.trans (hb5.mono hBn1.size)
      refine .inl ⟨_, rfl, .inr hcn2_0.out, ?_⟩
      simp only [Act.put, List.setIfInBounds_toArray, List.set_cons_zero, List.set_cons_succ]
      refine wpAnyL_one (i := 4) (by kernel_rfl) (by simp only [List.getElem?_toArray, List.getElem?_cons_zero, List.getElem?_cons_succ] <;> rfl) (by rfl) ?_
      refine opwp_call (f := 33) (args := #[.agg #[.slice p3 B.length c3, .slice p4 U.length c4]]) (w' := w5) (by simp [go_sem, Act.eval]) ?_
      refine (rWidth_c _ _ B w5 (HX.out _ hBn2) (by omega)).mono ?_
      rintro e w6 ⟨rfl, hb6⟩
      have hBn3 := hBn2.trans (hb6.mono hBn2.size)
      refine .inl ⟨_, rfl, .inl (by kernel_rfl), ?_⟩
      simp only [Act.put, List.setIfInBounds_toArray, List.set_cons_zero, List.set_cons_succ]
      refine wpAnyL_pure (i := 5) (v := .bool true) (by simp only [List.getElem?_toArray, List.getElem?_cons_zero, List.getElem?_cons_succ] <;> rfl) (by kernel_rfl) (by kernel_rfl) (by kernel_rfl) (by exact fun _ _ _ h => h) (by decide) (.inl (by kernel_rfl)) (Or.inl ⟨by rfl, fun w _ => (by simp [execOp, go_sem, Act.eval])⟩) (fun _ => ?_)
      simp only [Act.put, List.setIfInBounds_toArray, List.set_cons_zero, List.set_cons_succ]
      refine wpAnyL_pure (i := 6) (v := .bool true) (by simp only [List.getElem?_toArray, List.getElem?_cons_zero, List.getElem?_cons_succ] <;> rfl) (by kernel_rfl) (by kernel_rfl) (by kernel_rfl) (by exact fun _ _ _ h => h) (by decide) (.inl (by kernel_rfl)) (Or.inl ⟨by rfl, fun w _ => (by simp [execOp, go_sem, Act.eval])⟩) (fun _ => ?_)
      simp only [Act.put, List.setIfInBounds_toArray, List.set_cons_zero, List.set_cons_succ]
      refine wpAnyL_pure (i := 7) (v := .slice p L.length c) (by simp only [List.getElem?_toArray, List.getElem?_cons_zero, List.getElem?_cons_succ] <;> rfl) (by kernel_rfl) (by kernel_rfl) (by kernel_rfl) (by exact fun _ _ _ h => h) (by decide) (.inl (by kernel_rfl)) (Or.inl ⟨by rfl, fun w _ => (by simp [execOp, go_sem, Act.eval])⟩) (fun _ => ?_)
      simp only [Act.put, List.setIfInBounds_toArray, List.set_cons_zero, List.set_cons_succ]
      refine wpAnyL_pure (i := 9) (v := .slice p L.length c) (by simp only [List.getElem?_toArray, List.getElem?_cons_zero, List.getElem?_cons_succ] <;> rfl) (by kernel_rfl) (by kernel_rfl) (by kernel_rfl) (by exact fun _ _ _ h => h) (by decide) (.inl (by kernel_rfl)) (Or.inl ⟨by rfl, fun w _ => (by simp [execOp, go_sem, Act.eval])⟩) (fun _ => ?_)
      simp only [Act.put, List.setIfInBounds_toArray, List.set_cons_zero, List.set_cons_succ]
      refine wpAnyL_one (i := 8) (by kernel_rfl) (by simp only [List.getElem?_toArray, List.getElem?_cons_zero, List.getElem?_cons_succ] <;> rfl) (by rfl) ?_
      refine opwp_call (f := 15) (args := #[.slice p L.length c]) (w' := w6) (by simp [go_sem, Act.eval]) ?_
      refine (Lower_c _ L w6 (HI.out _ hBn3) (hT.below hT.lt hBn3) (by omega)).mono ?_
      rintro e w7 ⟨rfl, hb7⟩
      have hBn4 := hBn3.trans (hb7.mono hBn3.size)
      refine .inl ⟨_, rfl, .inl (by kernel_rfl), ?_⟩
      simp only [Act.put, List.setIfInBounds_toArray, List.set_cons_zero, List.set_cons_succ]
      refine wpAnyL_one (i := 10) (by kernel_rfl) (by simp only [List.getElem?_toArray, List.getElem?_cons_zero, List.getElem?_cons_succ] <;> rfl) (by rfl) ?_
      refine opwp_call (f := 34) (args := #[.slice p L.length c]) (w' := w7) (by simp [go_sem, Act.eval]) ?_
      refine (rLower_c _ L w7 (HI.out _ hBn4) (by omega)).mono ?_
      rintro e w8 ⟨rfl, hb8⟩
      have hBn5 := hBn4.trans (hb8.mono hBn4.size)
      refine .inl ⟨_, rfl, .inl (by kernel_rfl), ?_⟩
      simp only [Act.put, List.setIfInBounds_toArray, List.set_cons_zero, List.set_cons_succ]
      refine wpAnyL_pure (i := 11) (v := .bool true) (by simp only [List.getElem?_toArray, List.getElem?_cons_zero, List.getElem?_cons_succ] <;> rfl) (by kernel_rfl) (by kernel_rfl) (by kernel_rfl) (by exact fun _ _ _ h => h) (by decide) (.inl (by kernel_rfl)) (Or.inl ⟨by rfl, fun w _ => (by simp [execOp, go_sem, Act.eval])⟩) (fun _ => ?_)
      simp only [Act.put, List.setIfInBounds_toArray, List.set_cons_zero, List.set_cons_succ]
      refine wpAnyL_pure (i := 12) (v := .bool true) (by simp only [List.getElem?_toArray, List.getElem?_cons_zero, List.getElem?_cons_succ] <;> rfl) (by kernel_rfl) (by kernel_rfl) (by kernel_rfl) (by exact fun _ _ _ h => h) (by decide) (.inl (by kernel_rfl)) (Or.inl ⟨by rfl, fun w _ => (by simp [execOp, go_sem, Act.eval])⟩) (fun _ => ?_)
      simp only [Act.put, List.setIfInBounds_toArray, List.set_cons_zero, List.set_cons_succ]
      refine wpAnyL_pure (i := 13) (v := .bool true) (by simp only [List.getElem?_toArray, List.getElem?_cons_zero, List.getElem?_cons_succ] <;> rfl) (by kernel_rfl) (by kernel_rfl) (by kernel_rfl) (by exact fun _ _ _ h => h) (by decide) (.inl (by kernel_rfl)) (Or.inl ⟨by rfl, fun w _ => (by simp [execOp, go_sem, Act.eval])⟩) (fun _ => ?_)
      simp only [Act.put, List.setIfInBounds_toArray, List.set_cons_zero, List.set_cons_succ]
      refine wpAnyL_one (i := 14) (by kernel_rfl) (by simp only [List.getElem?_toArray, List.getElem?_cons_zero, List.getElem?_cons_succ] <;> rfl) (by rfl) ?_
      refine opwp_call (f := 21) (args := #[]) (w' := w8) (by simp [go_sem]) ?_
      refine (HW.out _ hBn5).mono ?_
      rintro e w9 ⟨rfl, hb9⟩
      have hBn6 := hBn5.trans (hb9.mono hBn5.size)
      refine .inl ⟨_, rfl, .inl (by kernel_rfl), ?_⟩
      simp only [Act.put, List.setIfInBounds_toArray, List.set_cons_zero, List.set_cons_succ]
      refine wpAnyL_pure (i := 15) (v := .bool true) (by simp only [List.getElem?_toArray, List.getElem?_cons_zero, List.getElem?_cons_succ] <;> rfl) (by kernel_rfl) (by kernel_rfl) (by kernel_rfl) (by exact fun _ _ _ h => h) (by decide) (.inl (by kernel_rfl)) (Or.inl ⟨by rfl, fun w _ => (by simp [execOp, go_sem, Act.eval])⟩) (fun _ => ?_)
      simp only [Act.put, List.setIfInBounds_toArray, List.set_cons_zero, List.set_cons_succ]
      refine wpAnyL_pure (i := 16) (v := .bool true) (by simp only [List.getElem?_toArray, List.getElem?_cons_zero, List.getElem?_cons_succ] <;> rfl) (by kernel_rfl) (by kernel_rfl) (by kernel_rfl) (by exact fun _ _ _ h => h) (by decide) (.inl (by kernel_rfl)) (Or.inl ⟨by rfl, fun w _ => (by simp [execOp, go_sem, Act.eval])⟩) (fun _ => ?_)
      simp only [Act.put, List.setIfInBounds_toArray, List.set_cons_zero, List.set_cons_succ]
      refine wpAnyL_done (by kernel_rfl) ?_ _
      go_wp2_with fail
      go_ret
      exact ⟨rfl, hBn6⟩
end Go.Proofs.YtmlecpapoeodkaaDoor
