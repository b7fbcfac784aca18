/- Walks: the laws' example. -/
import Derived.Test.YtmlecpapoeodkaaDoorWCheck
namespace Go.Proofs.YtmlecpapoeodkaaDoor
open Go.RowKit
attribute [local go_sem ↓] run_eqlS run_neqS run_eqlS0 run_neqS0

def ex4 : List Int := [1, 2, 3, 4]
def exB : List VS := [11#128, 14#128, 12#128, 8#128]
def exU : List Int := [1, 2, 3, -1]
theorem ex_valid : ValidG cyc := validG_iff.1 (by decide +kernel)
theorem ex_ord : IsOrd ex4 (cyc.length - 1) := isOrd_of (by decide) (by decide) (by decide +kernel)
theorem ex_bags : bagsP (gOf cyc) ex4 = exB := by decide +kernel
theorem ex_ups : upsP (gOf cyc) ex4 = exU := by decide +kernel
theorem ex_width : widthT exB = 2 := by decide +kernel
theorem ex_check : checkW cyc exB exU = 0 := by decide +kernel
set_option maxRecDepth 100000 in
set_option maxHeartbeats 8000000 in
theorem works_c (w : World) (hT : TabAt w) : Calls Tryd.prog 21 #[] w (LawPost w) := by
  go_enter Tryd.func21, Tryd.ntmps21
  go_wp2_with fail
  refine (circle_c w).mono ?_
  rintro e w1 ⟨v1, rfl, hs1, hb1⟩
  obtain ⟨pc, cc, rfl, hdrop⟩ := id hs1
  have hb2 : Below w1.heap.size w1 (w1.alloc (.cells #[.int .i64 1, .int .i64 2, .int .i64 3, .int .i64 4] 3)) := (Below.refl _ w1).alloc (Nat.le_refl _) _
  have hB2 := hb1.trans (hb2.mono hb1.size)
  have hl2 : IntsAt (w1.alloc (.cells #[.int .i64 1, .int .i64 2, .int .i64 3, .int .i64 4] 3)) (.slice (some ⟨w1.heap.size, 0, none⟩) 4 4) ex4 := lit_ints w1 [1, 2, 3, 4] 3 (by simp)
  have HO := hid (Of_tree_c _ _ cyc ex4 _ (hs1.below hb2) hl2 (hT.below hT.lt hB2) (by decide) (by decide))
  have HB2 := hid hB2
  clear hdrop hs1 hb1 hb2 hl2 hB2
  go_wp2_with fail
  refine HO.out.mono ?_
  rintro e w3 ⟨hb3, hpost⟩
  have hB3 := HB2.out.trans (hb3.mono HB2.out.size)
  rcases hpost with ⟨h, _⟩ | ⟨_, h, _⟩ | ⟨_, _, vB, vU, rfl, hoB, hoU⟩
  · rw [validG_yes ex_valid] at h; cases h
  · exact absurd ex_ord h
  rw [ex_bags] at hoB
  rw [ex_ups] at hoU
  obtain ⟨pB, cB, eB, _⟩ := hoB.sets
  obtain ⟨pU, cU, eU, _⟩ := hoU.ints
  have hX3 := hid hoB.sets
  have hY3 := hid hoU.ints
  subst eB eU
  clear hb3 hoB hoU HO HB2
  have hbT : Below w3.heap.size w3 ((((w3.alloc (.cells #[.slice pB exB.length cB, .slice pU exU.length cU] 25)).alloc (.cells #[.int .u64 11, .int .u64 0, .int .u64 14, .int .u64 0, .int .u64 12, .int .u64 0, .int .u64 8, .int .u64 0] 32)).alloc (.cells #[.int .i64 1, .int .i64 2, .int .i64 3, .int .i64 (-1)] 3)).alloc (.cells #[.slice (some ⟨w3.heap.size + 1, 0, none⟩) 4 4, .slice (some ⟨w3.heap.size + 1 + 1, 0, none⟩) 4 4] 33)) :=
    ((((Below.refl _ w3).alloc (Nat.le_refl _) _).alloc (by simp) _).alloc (by simp; omega) _).alloc (by simp; omega) _
  have b1 := (((Box2.new w3 25 (.slice pB exB.length cB) (.slice pU exU.length cU)).alloc (.cells #[.int .u64 11, .int .u64 0, .int .u64 14, .int .u64 0, .int .u64 12, .int .u64 0, .int .u64 8, .int .u64 0] 32)).alloc (.cells #[.int .i64 1, .int .i64 2, .int .i64 3, .int .i64 (-1)] 3)).alloc (.cells #[.slice (some ⟨w3.heap.size + 1, 0, none⟩) 4 4, .slice (some ⟨w3.heap.size + 1 + 1, 0, none⟩) 4 4] 33)
  have b2 := Box2.new (((w3.alloc (.cells #[.slice pB exB.length cB, .slice pU exU.length cU] 25)).alloc (.cells #[.int .u64 11, .int .u64 0, .int .u64 14, .int .u64 0, .int .u64 12, .int .u64 0, .int .u64 8, .int .u64 0] 32)).alloc (.cells #[.int .i64 1, .int .i64 2, .int .i64 3, .int .i64 (-1)] 3)) 33 (.slice (some ⟨w3.heap.size + 1, 0, none⟩) 4 4) (.slice (some ⟨w3.heap.size + 1 + 1, 0, none⟩) 4 4)
  have s2 := (lit_sets (w3.alloc (.cells #[.slice pB exB.length cB, .slice pU exU.length cU] 25)) exB #[.int .u64 11, .int .u64 0, .int .u64 14, .int .u64 0, .int .u64 12, .int .u64 0, .int .u64 8, .int .u64 0] (by kernel_rfl)).alloc (.cells #[.int .i64 1, .int .i64 2, .int .i64 3, .int .i64 (-1)] 3) |>.alloc (.cells #[.slice (some ⟨w3.heap.size + 1, 0, none⟩) 4 4, .slice (some ⟨w3.heap.size + 1 + 1, 0, none⟩) 4 4] 33)
  have u2 := (lit_ints ((w3.alloc (.cells #[.slice pB exB.length cB, .slice pU exU.length cU] 25)).alloc (.cells #[.int .u64 11, .int .u64 0, .int .u64 14, .int .u64 0, .int .u64 12, .int .u64 0, .int .u64 8, .int .u64 0] 32)) [1, 2, 3, -1] 3 (by simp)).below ((Below.refl _ _).alloc (Nat.le_refl _) (.cells #[.slice (some ⟨w3.heap.size + 1, 0, none⟩) 4 4, .slice (some ⟨w3.heap.size + 1 + 1, 0, none⟩) 4 4] 33))
  simp only [World.size_alloc] at b2 s2 u2
  have hx := hX3.out.below hbT
  have hy := hY3.out.below hbT
  have hB4 := hB3.trans (hbT.mono hB3.size)
  have S2 := hid (show SetsAt ((((w3.alloc (.cells #[.slice pB exB.length cB, .slice pU exU.length cU] 25)).alloc (.cells #[.int .u64 11, .int .u64 0, .int .u64 14, .int .u64 0, .int .u64 12, .int .u64 0, .int .u64 8, .int .u64 0] 32)).alloc (.cells #[.int .i64 1, .int .i64 2, .int .i64 3, .int .i64 (-1)] 3)).alloc (.cells #[.slice (some ⟨w3.heap.size + 1, 0, none⟩) 4 4, .slice (some ⟨w3.heap.size + 1 + 1, 0, none⟩) 4 4] 33)) (.slice (some ⟨w3.heap.size + 1, 0, none⟩) 4 4) exB from s2.sets 4)
  have U2 := hid (show IntsAt ((((w3.alloc (.cells #[.slice pB exB.length cB, .slice pU exU.length cU] 25)).alloc (.cells #[.int .u64 11, .int .u64 0, .int .u64 14, .int .u64 0, .int .u64 12, .int .u64 0, .int .u64 8, .int .u64 0] 32)).alloc (.cells #[.int .i64 1, .int .i64 2, .int .i64 3, .int .i64 (-1)] 3)).alloc (.cells #[.slice (some ⟨w3.heap.size + 1, 0, none⟩) 4 4, .slice (some ⟨w3.heap.size + 1 + 1, 0, none⟩) 4 4] 33)) (.slice (some ⟨w3.heap.size + 1 + 1, 0, none⟩) 4 4) exU from u2)
  have B1 := hid b1
  have B2 := hid b2
  have HX := hid hx
  have HY := hid hy
  have HB4 := hid hB4
  clear b1 b2 s2 u2 hx hy hB4 hbT hX3 hY3
  go_wp2_with fail
  generalize (((w3.alloc (.cells #[.slice pB exB.length cB, .slice pU exU.length cU] 25)).alloc (.cells #[.int .u64 11, .int .u64 0, .int .u64 14, .int .u64 0, .int .u64 12, .int .u64 0, .int .u64 8, .int .u64 0] 32)).alloc (.cells #[.int .i64 1, .int .i64 2, .int .i64 3, .int .i64 (-1)] 3)).alloc (.cells #[.slice (some ⟨w3.heap.size + 1, 0, none⟩) 4 4, .slice (some ⟨w3.heap.size + 1 + 1, 0, none⟩) 4 4] 33) = w4 at *
  generalize w3.heap.size = n3 at *
  have hbd : Below w4.heap.size w4 w4.drew := (Below.refl _ w4).drew
  have BX1 : Hid (Box2 w4.drew n3 25 (.slice pB exB.length cB) (.slice pU exU.length cU)) := B1.out
  have BX2 : Hid (Box2 w4.drew (n3 + 1 + 1 + 1) 33 (.slice (some ⟨n3 + 1, 0, none⟩) 4 4) (.slice (some ⟨n3 + 1 + 1, 0, none⟩) 4 4)) := B2.out
  have HXD := hid (fun w' (h : Below w4.drew.heap.size w4.drew w') => (HX.out.below hbd).below h)
  have HYD := hid (fun w' (h : Below w4.drew.heap.size w4.drew w') => (HY.out.below hbd).below h)
  have HS2 := hid (fun w' (h : Below w4.drew.heap.size w4.drew w') => (S2.out.below hbd).below h)
  have HU2 := hid (fun w' (h : Below w4.drew.heap.size w4.drew w') => (U2.out.below hbd).below h)
  have HBW := hid (HB4.out.trans (hbd.mono HB4.out.size))
  have HBS := hid (Below.refl w4.drew.heap.size w4.drew)
  clear hbd
  refine Go.Proofs.YtmlecpapoeodkaaDoor.wp_region_L 20 19 (fun w' => Box2 w' (n3) 25 (.slice pB exB.length cB) (.slice pU exU.length cU) ∧ Box2 w' (n3 + 1 + 1 + 1) 33 (.slice (some ⟨n3 + 1, 0, none⟩) 4 4) (.slice (some ⟨n3 + 1 + 1, 0, none⟩) 4 4)) (by kernel_rfl) rfl ⟨BX1.out, BX2.out⟩ (fun _ => ?_)
  refine wpAnyL_pure (i := 0) (v := .int .i64 0) (by simp only [List.getElem?_toArray, List.getElem?_cons_zero] <;> rfl) (by kernel_rfl) (by kernel_rfl) (by kernel_rfl) (by exact fun _ _ _ h => h) (by decide) (.inr ⟨BX1.out, BX2.out⟩) (Or.inl ⟨by rfl, fun w _ => (by simp [execOp, go_sem, Act.eval])⟩) (fun _ => ?_)
  simp only [Act.put, List.setIfInBounds_toArray, List.set_cons_zero, List.set_cons_succ]
  refine wpAnyL_pure (i := 1) (v := .bool true) (by simp only [List.getElem?_toArray, List.getElem?_cons_zero, List.getElem?_cons_succ] <;> rfl) (by kernel_rfl) (by kernel_rfl) (by kernel_rfl) (by exact fun _ _ _ h => h) (by decide) (.inr ⟨BX1.out, BX2.out⟩) (Or.inl ⟨by rfl, fun w _ => (by simp [execOp, go_sem, Act.eval])⟩) (fun _ => ?_)
  simp only [Act.put, List.setIfInBounds_toArray, List.set_cons_zero, List.set_cons_succ]
  refine wpAnyL_pure (i := 2) (v := .bool true) (by simp only [List.getElem?_toArray, List.getElem?_cons_zero, List.getElem?_cons_succ] <;> rfl) (by kernel_rfl) (by kernel_rfl) (by kernel_rfl) (by exact fun _ _ _ h => h) (by decide) (.inr ⟨BX1.out, BX2.out⟩) (Or.inl ⟨by rfl, fun w _ => (by simp [execOp, go_sem, Act.eval])⟩) (fun _ => ?_)
  simp only [Act.put, List.setIfInBounds_toArray, List.set_cons_zero, List.set_cons_succ]
  refine wpAnyL_load2 (i := 3) (v := .agg #[.slice pB exB.length cB, .slice pU exU.length cU]) (by simp only [List.getElem?_toArray, List.getElem?_cons_zero, List.getElem?_cons_succ] <;> rfl) (by kernel_rfl) (by kernel_rfl) (by kernel_rfl) (by exact fun _ _ _ h => h) (by decide) (Waits.one rfl ⟨⟨3, .phase⟩, by simp, rfl, rfl⟩) (by kernel_rfl) (by kernel_rfl) (.inr ⟨BX1.out, BX2.out⟩) (Or.inl ⟨by rfl, fun w hw => (by obtain ⟨x0, _⟩ := hw; simp [execOp, go_sem, Act.eval, x0.cells.1, x0.cells.2.1])⟩) (fun _ => ?_)
  simp only [Act.put, List.setIfInBounds_toArray, List.set_cons_zero, List.set_cons_succ]
  refine wpAnyL_load2 (i := 5) (v := .agg #[.slice (some ⟨n3 + 1, 0, none⟩) 4 4, .slice (some ⟨n3 + 1 + 1, 0, none⟩) 4 4]) (by simp only [List.getElem?_toArray, List.getElem?_cons_zero, List.getElem?_cons_succ] <;> rfl) (by kernel_rfl) (by kernel_rfl) (by kernel_rfl) (by exact fun _ _ _ h => h) (by decide) (Waits.one rfl ⟨⟨5, .phase⟩, by simp, rfl, rfl⟩) (by kernel_rfl) (by kernel_rfl) (.inr ⟨BX1.out, BX2.out⟩) (Or.inl ⟨by rfl, fun w hw => (by obtain ⟨_, x1⟩ := hw; simp [execOp, go_sem, Act.eval, x1.cells.1, x1.cells.2.1])⟩) (fun _ => ?_)
  simp only [Act.put, List.setIfInBounds_toArray, List.set_cons_zero, List.set_cons_succ]
  refine wpAnyL_one (i := 4) (by kernel_rfl) (by simp only [List.getElem?_toArray, List.getElem?_cons_zero, List.getElem?_cons_succ] <;> rfl) (by rfl) ?_
  refine opwp_call (f := 17) (args := #[.agg #[.slice pB exB.length cB, .slice pU exU.length cU]]) (w' := w4.drew) (by simp [go_sem, Act.eval]) ?_
  refine (taken_c pB pU exB.length cB exU.length cU w4.drew).mono ?_
  rintro e w5 ⟨rfl, hb5⟩
  have hc1_0 := hid (BX1.out.below hb5 BX1.out.lt)
  have hc1_1 := hid (BX2.out.below hb5 BX2.out.lt)
  have hB1 := HBS.out.trans (hb5.mono HBS.out.size)
  have HSM := hid (same_c _ _ _ _ exB exB exU exU w5 (HXD.out _ hB1) (HYD.out _ hB1) (HS2.out _ hB1) (HU2.out _ hB1) (by decide) (by decide) (by decide) (by decide))
  rw [decide_eq_true (show exB = exB ∧ exU = exU from ⟨rfl, rfl⟩)] at HSM
  refine .inl ⟨_, rfl, .inr ⟨hc1_0.out, hc1_1.out⟩, ?_⟩
  simp only [Act.put, List.setIfInBounds_toArray, List.set_cons_zero, List.set_cons_succ]
  refine wpAnyL_one (i := 6) (by kernel_rfl) (by simp only [List.getElem?_toArray, List.getElem?_cons_zero, List.getElem?_cons_succ] <;> rfl) (by rfl) ?_
  refine opwp_call (f := 16) (args := #[.agg #[.slice pB exB.length cB, .slice pU exU.length cU], .agg #[.slice (some ⟨n3 + 1, 0, none⟩) 4 4, .slice (some ⟨n3 + 1 + 1, 0, none⟩) 4 4]]) (w' := w5) (by simp [go_sem, Act.eval]) ?_
  refine (HSM.out).mono ?_
  rintro e w6 ⟨rfl, hb6⟩
  have hc2_0 := hid (hc1_0.out.below hb6 hc1_0.out.lt)
  have hc2_1 := hid (hc1_1.out.below hb6 hc1_1.out.lt)
  have hB2 := hB1.trans (hb6.mono hB1.size)
  have HWI := hid (wWidth_c _ (.slice pU exU.length cU) exB w6 (HXD.out _ hB2) (by decide))
  rw [ex_width] at HWI
  refine .inl ⟨_, rfl, .inr ⟨hc2_0.out, hc2_1.out⟩, ?_⟩
  simp only [Act.put, List.setIfInBounds_toArray, List.set_cons_zero, List.set_cons_succ]
  refine wpAnyL_pure (i := 7) (v := .bool true) (by simp only [List.getElem?_toArray, List.getElem?_cons_zero, List.getElem?_cons_succ] <;> rfl) (by kernel_rfl) (by kernel_rfl) (by kernel_rfl) (by exact fun _ _ _ h => h) (by decide) (.inr ⟨hc2_0.out, hc2_1.out⟩) (Or.inl ⟨by rfl, fun w _ => (by simp [execOp, go_sem, Act.eval])⟩) (fun _ => ?_)
  simp only [Act.put, List.setIfInBounds_toArray, List.set_cons_zero, List.set_cons_succ]
  refine wpAnyL_pure (i := 8) (v := .bool true) (by simp only [List.getElem?_toArray, List.getElem?_cons_zero, List.getElem?_cons_succ] <;> rfl) (by kernel_rfl) (by kernel_rfl) (by kernel_rfl) (by exact fun _ _ _ h => h) (by decide) (.inr ⟨hc2_0.out, hc2_1.out⟩) (Or.inl ⟨by rfl, fun w _ => (by simp [execOp, go_sem, Act.eval])⟩) (fun _ => ?_)
  simp only [Act.put, List.setIfInBounds_toArray, List.set_cons_zero, List.set_cons_succ]
  refine wpAnyL_load2 (i := 9) (v := .agg #[.slice pB exB.length cB, .slice pU exU.length cU]) (by simp only [List.getElem?_toArray, List.getElem?_cons_zero, List.getElem?_cons_succ] <;> rfl) (by kernel_rfl) (by kernel_rfl) (by kernel_rfl) (by exact fun _ _ _ h => h) (by decide) (Waits.one rfl ⟨⟨9, .phase⟩, by simp, rfl, rfl⟩) (by kernel_rfl) (by kernel_rfl) (.inr ⟨hc2_0.out, hc2_1.out⟩) (Or.inl ⟨by rfl, fun w hw => (by obtain ⟨x0, _⟩ := hw; simp [execOp, go_sem, Act.eval, x0.cells.1, x0.cells.2.1])⟩) (fun _ => ?_)
  simp only [Act.put, List.setIfInBounds_toArray, List.set_cons_zero, List.set_cons_succ]
  refine wpAnyL_one (i := 10) (by kernel_rfl) (by simp only [List.getElem?_toArray, List.getElem?_cons_zero, List.getElem?_cons_succ] <;> rfl) (by rfl) ?_
  refine opwp_call (f := 19) (args := #[.agg #[.slice pB exB.length cB, .slice pU exU.length cU]]) (w' := w6) (by simp [go_sem, Act.eval]) ?_
  refine (HWI.out).mono ?_
  rintro e w7 ⟨rfl, hb7⟩
  have hc3_0 := hid (hc2_0.out.below hb7 hc2_0.out.lt)
  have hc3_1 := hid (hc2_1.out.below hb7 hc2_1.out.lt)
  have hB3 := hB2.trans (hb7.mono hB2.size)
  refine .inl ⟨_, rfl, .inr ⟨hc3_0.out, hc3_1.out⟩, ?_⟩
  simp only [Act.put, List.setIfInBounds_toArray, List.set_cons_zero, List.set_cons_succ]
  refine wpAnyL_pure (i := 11) (v := .bool true) (by simp only [List.getElem?_toArray, List.getElem?_cons_zero, List.getElem?_cons_succ] <;> rfl) (by kernel_rfl) (by kernel_rfl) (by kernel_rfl) (by exact fun _ _ _ h => h) (by decide) (.inr ⟨hc3_0.out, hc3_1.out⟩) (Or.inl ⟨by rfl, fun w _ => (by simp [execOp, go_sem, Act.eval])⟩) (fun _ => ?_)
  simp only [Act.put, List.setIfInBounds_toArray, List.set_cons_zero, List.set_cons_succ]
  refine wpAnyL_pure (i := 12) (v := .bool true) (by simp only [List.getElem?_toArray, List.getElem?_cons_zero, List.getElem?_cons_succ] <;> rfl) (by kernel_rfl) (by kernel_rfl) (by kernel_rfl) (by exact fun _ _ _ h => h) (by decide) (.inr ⟨hc3_0.out, hc3_1.out⟩) (Or.inl ⟨by rfl, fun w _ => (by simp [execOp, go_sem, Act.eval])⟩) (fun _ => ?_)
  simp only [Act.put, List.setIfInBounds_toArray, List.set_cons_zero, List.set_cons_succ]
  refine wpAnyL_pure (i := 13) (v := .bool true) (by simp only [List.getElem?_toArray, List.getElem?_cons_zero, List.getElem?_cons_succ] <;> rfl) (by kernel_rfl) (by kernel_rfl) (by kernel_rfl) (by exact fun _ _ _ h => h) (by decide) (.inr ⟨hc3_0.out, hc3_1.out⟩) (Or.inl ⟨by rfl, fun w _ => (by simp [execOp, go_sem, Act.eval])⟩) (fun _ => ?_)
  simp only [Act.put, List.setIfInBounds_toArray, List.set_cons_zero, List.set_cons_succ]
  refine wpAnyL_load2 (i := 15) (v := .agg #[.slice pB exB.length cB, .slice pU exU.length cU]) (by simp only [List.getElem?_toArray, List.getElem?_cons_zero, List.getElem?_cons_succ] <;> rfl) (by kernel_rfl) (by kernel_rfl) (by kernel_rfl) (by exact fun _ _ _ h => h) (by decide) (Waits.one rfl ⟨⟨15, .phase⟩, by simp, rfl, rfl⟩) (by kernel_rfl) (by kernel_rfl) (.inr ⟨hc3_0.out, hc3_1.out⟩) (Or.inl ⟨by rfl, fun w hw => (by obtain ⟨x0, _⟩ := hw; simp [execOp, go_sem, Act.eval, x0.cells.1, x0.cells.2.1])⟩) (fun _ => ?_)
  simp only [Act.put, List.setIfInBounds_toArray, List.set_cons_zero, List.set_cons_succ]
  refine wpAnyL_one (i := 14) (by kernel_rfl) (by simp only [List.getElem?_toArray, List.getElem?_cons_zero, List.getElem?_cons_succ] <;> rfl) (by rfl) ?_
  refine opwp_call (f := 14) (args := #[]) (w' := w7) (by simp [go_sem]) ?_
  refine (circle_c w7).mono ?_
  rintro e w8 ⟨v8, rfl, hs8, hb8⟩
  have hc4_0 := hid (hc3_0.out.below hb8 hc3_0.out.lt)
  have hc4_1 := hid (hc3_1.out.below hb8 hc3_1.out.lt)
  have hB4 := hB3.trans (hb8.mono hB3.size)
  have hT8 := hT.below hT.lt (HBW.out.trans (hB4.mono HBW.out.size))
  have HCK := hid (Check_c _ _ _ cyc exB exU w8 hs8 (HXD.out _ hB4) (HYD.out _ hB4) hT8 (by decide) (by decide) (by decide))
  rw [ex_check] at HCK
  refine .inl ⟨_, rfl, .inr ⟨hc4_0.out, hc4_1.out⟩, ?_⟩
  simp only [Act.put, List.setIfInBounds_toArray, List.set_cons_zero, List.set_cons_succ]
  refine wpAnyL_one (i := 16) (by kernel_rfl) (by simp only [List.getElem?_toArray, List.getElem?_cons_zero, List.getElem?_cons_succ] <;> rfl) (by rfl) ?_
  refine opwp_call (f := 20) (args := #[v8, .agg #[.slice pB exB.length cB, .slice pU exU.length cU]]) (w' := w8) (by simp [go_sem, Act.eval]) ?_
  refine (HCK.out).mono ?_
  rintro e w9 ⟨rfl, hb9⟩
  have hc5_0 := hid (hc4_0.out.below hb9 hc4_0.out.lt)
  have hc5_1 := hid (hc4_1.out.below hb9 hc4_1.out.lt)
  have hB5 := hB4.trans (hb9.mono hB4.size)
  refine .inl ⟨_, rfl, .inr ⟨hc5_0.out, hc5_1.out⟩, ?_⟩
  simp only [Act.put, List.setIfInBounds_toArray, List.set_cons_zero, List.set_cons_succ]
  refine wpAnyL_pure (i := 17) (v := .bool true) (by simp only [List.getElem?_toArray, List.getElem?_cons_zero, List.getElem?_cons_succ] <;> rfl) (by kernel_rfl) (by kernel_rfl) (by kernel_rfl) (by exact fun _ _ _ h => h) (by decide) (.inr ⟨hc5_0.out, hc5_1.out⟩) (Or.inl ⟨by rfl, fun w _ => (by simp [execOp, go_sem, Act.eval])⟩) (fun _ => ?_)
  simp only [Act.put, List.setIfInBounds_toArray, List.set_cons_zero, List.set_cons_succ]
  refine wpAnyL_pure (i := 18) (v := .bool true) (by simp only [List.getElem?_toArray, List.getElem?_cons_zero, List.getElem?_cons_succ] <;> rfl) (by kernel_rfl) (by kernel_rfl) (by kernel_rfl) (by exact fun _ _ _ h => h) (by decide) (.inr ⟨hc5_0.out, hc5_1.out⟩) (Or.inl ⟨by rfl, fun w _ => (by simp [execOp, go_sem, Act.eval])⟩) (fun _ => ?_)
  simp only [Act.put, List.setIfInBounds_toArray, List.set_cons_zero, List.set_cons_succ]
  refine wpAnyL_one (i := 19) (by kernel_rfl) (by simp only [List.getElem?_toArray, List.getElem?_cons_zero, List.getElem?_cons_succ] <;> rfl) (by rfl) ?_
  refine opwp_value (v := .bool true) (w' := w9) (by simp [execOp, go_sem, Act.eval]) ⟨.inl (by kernel_rfl), ?_⟩
  simp only [Act.put, List.setIfInBounds_toArray, List.set_cons_zero]
  refine wpAnyL_done (by kernel_rfl) ?_ _
  have hB9 := HBW.out.trans (hB5.mono HBW.out.size)
  go_wp2_with fail
  go_ret
  exact ⟨rfl, hB9⟩
end Go.Proofs.YtmlecpapoeodkaaDoor
