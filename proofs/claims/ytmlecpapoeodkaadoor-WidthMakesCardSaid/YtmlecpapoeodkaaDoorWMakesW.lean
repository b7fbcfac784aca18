/- The walk of the law WidthMakes. -/
import Derived.Test.YtmlecpapoeodkaaDoorWWorks
import Derived.Test.YtmlecpapoeodkaaDoorWOfRW
namespace Go.Proofs.YtmlecpapoeodkaaDoor
open Go.RowKit
attribute [local go_sem ↓] run_eqlS run_neqS run_eqlS0 run_neqS0

/-- What the decomposition of an order is, or the error. -/
def OfTree (L : List VS) (l : List Int) (B : List VS) (U : List Int) (er : Int) : Prop :=
  (validG L = false ∧ B = [] ∧ U = [] ∧ er = 1) ∨ (ValidG L ∧ ¬ IsOrd l (L.length - 1) ∧ B = [] ∧ U = [] ∧ er = 5) ∨ (ValidG L ∧ IsOrd l (L.length - 1) ∧ B = bagsP (gOf L) l ∧ U = upsP (gOf L) l ∧ er = 0)
theorem OfTree.det {L : List VS} {l : List Int} {B B2 : List VS} {U U2 : List Int} {er er2 : Int} (h : OfTree L l B U er) (h2 : OfTree L l B2 U2 er2) : B2 = B ∧ U2 = U ∧ er2 = er := by
  rcases h with ⟨a, rfl, rfl, rfl⟩ | ⟨a, b, rfl, rfl, rfl⟩ | ⟨a, b, rfl, rfl, rfl⟩ <;> rcases h2 with ⟨c, rfl, rfl, rfl⟩ | ⟨c, d, rfl, rfl, rfl⟩ | ⟨c, d, rfl, rfl, rfl⟩
  · exact ⟨rfl, rfl, rfl⟩
  · rw [validG_yes c] at a; cases a
  · rw [validG_yes c] at a; cases a
  · rw [validG_yes a] at c; cases c
  · exact ⟨rfl, rfl, rfl⟩
  · exact absurd d b
  · rw [validG_yes a] at c; cases c
  · exact absurd b d
  · exact ⟨rfl, rfl, rfl⟩
theorem OfTree.len {L : List VS} {l : List Int} {B : List VS} {U : List Int} {er : Int} (h : OfTree L l B U er) : B.length ≤ l.length ∧ U.length ≤ l.length := by
  rcases h with ⟨a, rfl, rfl, rfl⟩ | ⟨a, b, rfl, rfl, rfl⟩ | ⟨a, b, rfl, rfl, rfl⟩
  · simp
  · simp
  · rw [bagsP_length, upsP_length]; exact ⟨Nat.le_refl _, Nat.le_refl _⟩
theorem of_rel {L : List VS} {l : List Int} {w : World} {e : Ending} {w' : World} (h : OfPost L l w e w') :
    ∃ (B : List VS) (U : List Int) (x y : Option Addr) (c d : Nat) (er : Int), e = .returned (.tuple #[.agg #[.slice x B.length c, .slice y U.length d], .int .i64 er]) ∧ OfTree L l B U er ∧ SetsAt w' (.slice x B.length c) B ∧ IntsAt w' (.slice y U.length d) U ∧ Below w.heap.size w w' := by
  obtain ⟨hb, ⟨a, rfl⟩ | ⟨a, b, rfl⟩ | ⟨a, b, vB, vU, rfl, o1, o2⟩⟩ := h
  · exact ⟨[], [], none, none, 0, 0, 1, rfl, .inl ⟨a, rfl, rfl, rfl⟩, ⟨none, 0, rfl, .inl rfl⟩, ⟨none, 0, rfl, .inl rfl⟩, hb⟩
  · exact ⟨[], [], none, none, 0, 0, 5, rfl, .inr (.inl ⟨a, b, rfl, rfl, rfl⟩), ⟨none, 0, rfl, .inl rfl⟩, ⟨none, 0, rfl, .inl rfl⟩, hb⟩
  · have h1 := o1.sets
    have h2 := o2.ints
    obtain ⟨x, c, rfl, _⟩ := o1.sets
    obtain ⟨y, d, rfl, _⟩ := o2.ints
    exact ⟨_, _, x, y, c, d, 0, rfl, .inr (.inr ⟨a, b, rfl, rfl, rfl⟩), h1, h2, hb⟩
set_option maxRecDepth 100000 in
set_option maxHeartbeats 16000000 in
theorem widthMakes_walk (v : Value) (L : List VS) (v2 : Value) (l : List Int) (w : World) (hT : TabAt w) (hI : SetsAt w v L) (hL : L.length ≤ 9223372036854775807) (hJ : IntsAt w v2 l) (hl : l.length ≤ 9223372036854775807) :
    Calls Tryd.prog 4 #[v, v2] w (LawPost w) := by
  have HW := hid (fun w' (h : Below w.heap.size w w') => works_c w' (hT.below hT.lt h))
  have HI := hid (fun w' (h : Below w.heap.size w w') => hI.below h)
  have HJ := hid (fun w' (h : Below w.heap.size w w') => hJ.below h)
  obtain ⟨p, c, rfl, hdrop⟩ := id hI
  obtain ⟨p2, c2, rfl, hdrop2⟩ := id hJ
  clear hdrop hdrop2
  by_cases h1 : 200 < L.length
  · have d1 : decide ((200 : Int) < (L.length : Int)) = true := decide_eq_true (by omega)
    clear hI hJ
    go_enter Tryd.func4, Tryd.ntmps4
    go_wp2_with fail
    refine (HW.out w (Below.refl _ _)).mono ?_
    rintro e w2 ⟨rfl, hb2⟩
    go_wp2_with fail
    go_ret
    exact ⟨rfl, hb2⟩
  · have d1 : decide ((200 : Int) < (L.length : Int)) = false := decide_eq_false (by omega)
    by_cases h2 : (200 : Int) < (l.length : Int)
    · clear hI hJ h1
      go_enter Tryd.func4, Tryd.ntmps4
      go_wp2_with fail
      refine (HW.out w (Below.refl _ _)).mono ?_
      rintro e w2 ⟨rfl, hb2⟩
      go_wp2_with fail
      go_ret
      exact ⟨rfl, hb2⟩
    · have hL2 : L.length ≤ 200 := by omega
      have hl2 : l.length ≤ 200 := by omega
      have hba : Below w.heap.size w (w.alloc (.cells #[] 32)) := (Below.refl _ w).alloc (Nat.le_refl _) _
      have HN1 := hid (own_noneS w (B := w.heap.size) (Nat.le_refl _))
      have HIA := hid (HI.out _ hba)
      have HBA := hid hba
      clear hI hJ h1 hba
      go_enter Tryd.func4, Tryd.ntmps4
      go_wp2_with (first
        | (at_builtin; refine wpList_append_S rfl _ _ rfl w.heap.size (.slice (some ⟨w.heap.size, 0, none⟩) 0 0) [] rfl HN1.out (.slice p L.length c) L rfl HIA.out (by show 0 + _ ≤ 16777216; omega) HBA.out.size ?_; intro v5 w3 ho3 hg3 _; rw [List.nil_append] at ho3; obtain ⟨p5, c5, e5, _⟩ := ho3.sets; subst e5; have hb3 : Below w.heap.size w w3 := below_app HBA.out (Nat.le_refl _) HN1.out hg3; have hba3 := hb3.alloc hb3.size (.cells #[] 3); have HN2 := hid (own_noneI w3 hb3.size); have HS3 := hid (ho3.alloc (.cells #[] 3)); have HJ3 := hid (HJ.out _ hba3); have HB3 := hid hba3; clear hb3 hba3 hg3 ho3)
        | (at_builtin; refine wpList_append_I rfl _ _ rfl w.heap.size (.slice (some ⟨w3.heap.size, 0, none⟩) 0 0) [] rfl HN2.out (.slice p2 l.length c2) l rfl HJ3.out (by show 0 + _ ≤ 16777216; omega) HB3.out.size ?_; intro v6 w4 ho4 hg4 _; rw [List.nil_append] at ho4; obtain ⟨p6, c6, e6, _⟩ := ho4.ints; subst e6))
      have hB4 : Below w.heap.size w w4 := below_app HB3.out (Nat.le_refl _) HN2.out hg4
      have hs4 := OwnSets.sets (HS3.out.kept hg4 (own_apart HS3.out HN2.out (by decide)))
      have hi4 := ho4.ints
      have HO := hid (Of_tree_c _ _ L l w4 hs4 hi4 (hT.below hT.lt hB4) (by omega) (by omega))
      have HS4 := hid (fun w' (h : Below w4.heap.size w4 w') => hs4.below h)
      have HI4 := hid (fun w' (h : Below w4.heap.size w4 w') => hi4.below h)
      clear HN2 HS3 HJ3 HB3 hg4 ho4 hs4 hi4
      go_wp2_with fail
      refine HO.out.mono ?_
      rintro e w5 hpost
      obtain ⟨B, U, x, y, cx, cy, er, rfl, hrel, hX, hY, hb5⟩ := of_rel hpost
      clear hpost HO
      have hba : Below w5.heap.size w5 (w5.alloc (.cells #[.slice x B.length cx, .slice y U.length cy] 25)) := (Below.refl _ w5).alloc (Nat.le_refl _) _
      have hb45 := hb5.trans (hba.mono hb5.size)
      have hB5 := hB4.trans (hb45.mono hB4.size)
      have HRF := hid (rOf_tree_c _ _ L l _ (HI.out _ hB5) (HJ.out _ hB5) (by omega) (by omega))
      have HX5 := hid (hX.below hba)
      have HY5 := hid (hY.below hba)
      have HBX5 := hid (Box2.new w5 25 (.slice x B.length cx) (.slice y U.length cy))
      have HB5 := hid hb45
      have HBW5 := hid hB5
      have HREL := hid hrel
      have hlr := hrel.len
      clear hb5 hX hY hba hb45 hB5 hB4 hrel
      go_wp2_with fail
      generalize w5.alloc (.cells #[.slice x B.length cx, .slice y U.length cy] 25) = w6 at *
      refine HRF.out.mono ?_
      rintro e w7 hpost
      obtain ⟨B2, U2, x2, y2, cx2, cy2, er2, rfl, hrel2, hX2, hY2, hb7⟩ := of_rel hpost
      obtain ⟨q1, q2, q3⟩ := HREL.out.det hrel2
      subst q1; subst q2; subst q3
      have hba : Below w7.heap.size w7 (w7.alloc (.cells #[.slice x2 B2.length cx2, .slice y2 U2.length cy2] 33)) := (Below.refl _ w7).alloc (Nat.le_refl _) _
      have hb67 := hb7.trans (hba.mono hb7.size)
      have HX6 := hid (HX5.out.below hb67)
      have HY6 := hid (HY5.out.below hb67)
      have HXR := hid (hX2.below hba)
      have HYR := hid (hY2.below hba)
      have HBX6 := hid (HBX5.out.below hb67 HBX5.out.lt)
      have HBXR := hid (Box2.new w7 33 (.slice x2 B2.length cx2) (.slice y2 U2.length cy2))
      have HB7 := hid (HB5.out.trans (hb67.mono HB5.out.size))
      have HBW7 := hid (HBW5.out.trans (hb67.mono HBW5.out.size))
      clear hpost HRF HREL hrel2 hX2 hY2 hb7 hba hb67 HX5 HY5 HBX5 HB5 HBW5
      go_wp2_with fail
      generalize w7.alloc (.cells #[.slice x2 B2.length cx2, .slice y2 U2.length cy2] 33) = w8 at *
      generalize w5.heap.size = px at *
      generalize w7.heap.size = pr at *
      have hbd := (Below.refl w8.heap.size w8).drew
      have HX8 := hid (fun w' (h : Below w8.drew.heap.size w8.drew w') => (HX6.out.below hbd).below h)
      have HY8 := hid (fun w' (h : Below w8.drew.heap.size w8.drew w') => (HY6.out.below hbd).below h)
      have HXR8 := hid (fun w' (h : Below w8.drew.heap.size w8.drew w') => (HXR.out.below hbd).below h)
      have HYR8 := hid (fun w' (h : Below w8.drew.heap.size w8.drew w') => (HYR.out.below hbd).below h)
      have HS8 := hid (fun w' (h : Below w8.drew.heap.size w8.drew w') => HS4.out w' (HB7.out.drew.trans (h.mono HB7.out.drew.size)))
      have HI8 := hid (fun w' (h : Below w8.drew.heap.size w8.drew w') => HI4.out w' (HB7.out.drew.trans (h.mono HB7.out.drew.size)))
      have HIE := hid (fun w' (h : Below w8.drew.heap.size w8.drew w') => HI.out w' (HBW7.out.drew.trans (h.mono HBW7.out.drew.size)))
      have HJE := hid (fun w' (h : Below w8.drew.heap.size w8.drew w') => HJ.out w' (HBW7.out.drew.trans (h.mono HBW7.out.drew.size)))
      have HWE := hid (fun w' (h : Below w8.drew.heap.size w8.drew w') => HW.out w' (HBW7.out.drew.trans (h.mono HBW7.out.drew.size)))
      have HBWD := hid HBW7.out.drew
      have BX : Hid (Box2 w8.drew px 25 (.slice x B2.length cx) (.slice y U2.length cy)) := HBX6.out
      have BR : Hid (Box2 w8.drew pr 33 (.slice x2 B2.length cx2) (.slice y2 U2.length cy2)) := HBXR.out
      have HBS := hid (Below.refl w8.drew.heap.size w8.drew)
      clear hbd HX6 HY6 HXR HYR HS4 HI4 HB7 HBW7 HBX6 HBXR HI HJ HW
      refine Go.Proofs.YtmlecpapoeodkaaDoor.wp_region_L 23 7 (fun w' => Box2 w' (px) 25 (.slice x B2.length cx) (.slice y U2.length cy) ∧ Box2 w' (pr) 33 (.slice x2 B2.length cx2) (.slice y2 U2.length cy2)) (by kernel_rfl) rfl ⟨BX.out, BR.out⟩ (fun _ => ?_)
      refine wpAnyL_pure (i := 0) (v := .int .i64 er2) (by simp only [List.getElem?_toArray, List.getElem?_cons_zero] <;> rfl) (by kernel_rfl) (by kernel_rfl) (by kernel_rfl) (by exact fun _ _ _ h => h) (by decide) (.inr ⟨BX.out, BR.out⟩) (Or.inl ⟨by rfl, fun w _ => (by simp [execOp, go_sem, Act.eval])⟩) (fun _ => ?_)
      simp only [Act.put, List.setIfInBounds_toArray, List.set_cons_zero, List.set_cons_succ]
      refine wpAnyL_pure (i := 1) (v := .int .i64 er2) (by simp only [List.getElem?_toArray, List.getElem?_cons_zero, List.getElem?_cons_succ] <;> rfl) (by kernel_rfl) (by kernel_rfl) (by kernel_rfl) (by exact fun _ _ _ h => h) (by decide) (.inr ⟨BX.out, BR.out⟩) (Or.inl ⟨by rfl, fun w _ => (by simp [execOp, go_sem, Act.eval])⟩) (fun _ => ?_)
      simp only [Act.put, List.setIfInBounds_toArray, List.set_cons_zero, List.set_cons_succ]
      refine wpAnyL_pure (i := 2) (v := .bool true) (by simp only [List.getElem?_toArray, List.getElem?_cons_zero, List.getElem?_cons_succ] <;> rfl) (by kernel_rfl) (by kernel_rfl) (by kernel_rfl) (by exact fun _ _ _ h => h) (by decide) (.inr ⟨BX.out, BR.out⟩) (Or.inl ⟨by rfl, fun w _ => (by simp [execOp, go_sem, Act.eval])⟩) (fun _ => ?_)
      simp only [Act.put, List.setIfInBounds_toArray, List.set_cons_zero, List.set_cons_succ]
      refine wpAnyL_pure (i := 3) (v := .bool true) (by simp only [List.getElem?_toArray, List.getElem?_cons_zero, List.getElem?_cons_succ] <;> rfl) (by kernel_rfl) (by kernel_rfl) (by kernel_rfl) (by exact fun _ _ _ h => h) (by decide) (.inr ⟨BX.out, BR.out⟩) (Or.inl ⟨by rfl, fun w _ => (by simp [execOp, go_sem, Act.eval])⟩) (fun _ => ?_)
      simp only [Act.put, List.setIfInBounds_toArray, List.set_cons_zero, List.set_cons_succ]
      refine wpAnyL_load2 (i := 4) (v := .agg #[.slice x B2.length cx, .slice y U2.length cy]) (by simp only [List.getElem?_toArray, List.getElem?_cons_zero, List.getElem?_cons_succ] <;> rfl) (by kernel_rfl) (by kernel_rfl) (by kernel_rfl) (by exact fun _ _ _ h => h) (by decide) (Waits.more (j := 5) rfl ⟨⟨5, .data⟩, by simp, rfl, rfl⟩ (Waits.one rfl ⟨⟨4, .data⟩, by simp, rfl, rfl⟩)) (by kernel_rfl) (by kernel_rfl) (.inr ⟨BX.out, BR.out⟩) (Or.inl ⟨by rfl, fun w hw => (by obtain ⟨x0, _⟩ := hw; simp [execOp, go_sem, Act.eval, x0.cells.1, x0.cells.2.1])⟩) (fun _ => ?_)
      simp only [Act.put, List.setIfInBounds_toArray, List.set_cons_zero, List.set_cons_succ]
      refine wpAnyL_load2 (i := 6) (v := .agg #[.slice x2 B2.length cx2, .slice y2 U2.length cy2]) (by simp only [List.getElem?_toArray, List.getElem?_cons_zero, List.getElem?_cons_succ] <;> rfl) (by kernel_rfl) (by kernel_rfl) (by kernel_rfl) (by exact fun _ _ _ h => h) (by decide) (Waits.one rfl ⟨⟨6, .data⟩, by simp, rfl, rfl⟩) (by kernel_rfl) (by kernel_rfl) (.inr ⟨BX.out, BR.out⟩) (Or.inl ⟨by rfl, fun w hw => (by obtain ⟨_, x1⟩ := hw; simp [execOp, go_sem, Act.eval, x1.cells.1, x1.cells.2.1])⟩) (fun _ => ?_)
      simp only [Act.put, List.setIfInBounds_toArray, List.set_cons_zero, List.set_cons_succ]
      refine wpAnyL_one (i := 5) (by kernel_rfl) (by simp only [List.getElem?_toArray, List.getElem?_cons_zero, List.getElem?_cons_succ] <;> rfl) (by rfl) ?_
      refine opwp_call (f := 17) (args := #[.agg #[.slice x B2.length cx, .slice y U2.length cy]]) (w' := w8.drew) (by simp [go_sem, Act.eval]) ?_
      refine (taken_c x y B2.length cx U2.length cy w8.drew).mono ?_
      rintro e w9 ⟨rfl, hb9⟩
      have hcn1_0 := hid (BX.out.below hb9 BX.out.lt)
      have hcn1_1 := hid (BR.out.below hb9 BR.out.lt)
      have hBn1 := HBS.out.trans (hb9.mono HBS.out.size)
      have HSM := hid (same_c _ _ _ _ B2 B2 U2 U2 w9 (HX8.out _ hBn1) (HY8.out _ hBn1) (HXR8.out _ hBn1) (HYR8.out _ hBn1) (by omega) (by omega) (by omega) (by omega))
      rw [show decide (B2 = B2 ∧ U2 = U2) = true from by simp] at HSM
      refine .inl ⟨_, rfl, .inr ⟨hcn1_0.out, hcn1_1.out⟩, ?_⟩
      simp only [Act.put, List.setIfInBounds_toArray, List.set_cons_zero, List.set_cons_succ]
      refine wpAnyL_one (i := 7) (by kernel_rfl) (by simp only [List.getElem?_toArray, List.getElem?_cons_zero, List.getElem?_cons_succ] <;> rfl) (by rfl) ?_
      refine opwp_call (f := 16) (args := #[.agg #[.slice x B2.length cx, .slice y U2.length cy], .agg #[.slice x2 B2.length cx2, .slice y2 U2.length cy2]]) (w' := w9) (by simp [go_sem, Act.eval]) ?_
      refine (HSM.out).mono ?_
      rintro e w10 ⟨rfl, hb10⟩
      have hBn2 := hBn1.trans (hb10.mono hBn1.size)
      have HEQ := hid (equal_c _ _ L L w10 (HS8.out _ hBn2) (HIE.out _ hBn2) (by omega) (by omega))
      rw [show decide (L = L) = true from by simp] at HEQ
      refine .inl ⟨_, rfl, .inl (by kernel_rfl), ?_⟩
      simp only [Act.put, List.setIfInBounds_toArray, List.set_cons_zero, List.set_cons_succ]
      refine wpAnyL_pure (i := 8) (v := .bool true) (by simp only [List.getElem?_toArray, List.getElem?_cons_zero, List.getElem?_cons_succ] <;> rfl) (by kernel_rfl) (by kernel_rfl) (by kernel_rfl) (by exact fun _ _ _ h => h) (by decide) (.inl (by kernel_rfl)) (Or.inl ⟨by rfl, fun w _ => (by simp [execOp, go_sem, Act.eval])⟩) (fun _ => ?_)
      simp only [Act.put, List.setIfInBounds_toArray, List.set_cons_zero, List.set_cons_succ]
      refine wpAnyL_pure (i := 9) (v := .bool true) (by simp only [List.getElem?_toArray, List.getElem?_cons_zero, List.getElem?_cons_succ] <;> rfl) (by kernel_rfl) (by kernel_rfl) (by kernel_rfl) (by exact fun _ _ _ h => h) (by decide) (.inl (by kernel_rfl)) (Or.inl ⟨by rfl, fun w _ => (by simp [execOp, go_sem, Act.eval])⟩) (fun _ => ?_)
      simp only [Act.put, List.setIfInBounds_toArray, List.set_cons_zero, List.set_cons_succ]
      refine wpAnyL_pure (i := 10) (v := .slice p5 L.length c5) (by simp only [List.getElem?_toArray, List.getElem?_cons_zero, List.getElem?_cons_succ] <;> rfl) (by kernel_rfl) (by kernel_rfl) (by kernel_rfl) (by exact fun _ _ _ h => h) (by decide) (.inl (by kernel_rfl)) (Or.inl ⟨by rfl, fun w _ => (by simp [execOp, go_sem, Act.eval])⟩) (fun _ => ?_)
      simp only [Act.put, List.setIfInBounds_toArray, List.set_cons_zero, List.set_cons_succ]
      refine wpAnyL_pure (i := 11) (v := .slice p L.length c) (by simp only [List.getElem?_toArray, List.getElem?_cons_zero, List.getElem?_cons_succ] <;> rfl) (by kernel_rfl) (by kernel_rfl) (by kernel_rfl) (by exact fun _ _ _ h => h) (by decide) (.inl (by kernel_rfl)) (Or.inl ⟨by rfl, fun w _ => (by simp [execOp, go_sem, Act.eval])⟩) (fun _ => ?_)
      simp only [Act.put, List.setIfInBounds_toArray, List.set_cons_zero, List.set_cons_succ]
      refine wpAnyL_one (i := 12) (by kernel_rfl) (by simp only [List.getElem?_toArray, List.getElem?_cons_zero, List.getElem?_cons_succ] <;> rfl) (by rfl) ?_
      refine opwp_call (f := 23) (args := #[.slice p5 L.length c5, .slice p L.length c]) (w' := w10) (by simp [go_sem, Act.eval]) ?_
      refine (HEQ.out).mono ?_
      rintro e w11 ⟨rfl, hb11⟩
      have hBn3 := hBn2.trans (hb11.mono hBn2.size)
      have HRS := hid (rSame_c _ _ l l w11 (HI8.out _ hBn3) (HJE.out _ hBn3) (by omega) (by omega))
      rw [show decide (l = l) = true from by simp] at HRS
      refine .inl ⟨_, rfl, .inl (by kernel_rfl), ?_⟩
      simp only [Act.put, List.setIfInBounds_toArray, List.set_cons_zero, List.set_cons_succ]
      refine wpAnyL_pure (i := 13) (v := .bool true) (by simp only [List.getElem?_toArray, List.getElem?_cons_zero, List.getElem?_cons_succ] <;> rfl) (by kernel_rfl) (by kernel_rfl) (by kernel_rfl) (by exact fun _ _ _ h => h) (by decide) (.inl (by kernel_rfl)) (Or.inl ⟨by rfl, fun w _ => (by simp [execOp, go_sem, Act.eval])⟩) (fun _ => ?_)
      simp only [Act.put, List.setIfInBounds_toArray, List.set_cons_zero, List.set_cons_succ]
      refine wpAnyL_pure (i := 14) (v := .bool true) (by simp only [List.getElem?_toArray, List.getElem?_cons_zero, List.getElem?_cons_succ] <;> rfl) (by kernel_rfl) (by kernel_rfl) (by kernel_rfl) (by exact fun _ _ _ h => h) (by decide) (.inl (by kernel_rfl)) (Or.inl ⟨by rfl, fun w _ => (by simp [execOp, go_sem, Act.eval])⟩) (fun _ => ?_)
      simp only [Act.put, List.setIfInBounds_toArray, List.set_cons_zero, List.set_cons_succ]
      refine wpAnyL_pure (i := 15) (v := .slice p6 l.length c6) (by simp only [List.getElem?_toArray, List.getElem?_cons_zero, List.getElem?_cons_succ] <;> rfl) (by kernel_rfl) (by kernel_rfl) (by kernel_rfl) (by exact fun _ _ _ h => h) (by decide) (.inl (by kernel_rfl)) (Or.inl ⟨by rfl, fun w _ => (by simp [execOp, go_sem, Act.eval])⟩) (fun _ => ?_)
      simp only [Act.put, List.setIfInBounds_toArray, List.set_cons_zero, List.set_cons_succ]
      refine wpAnyL_pure (i := 16) (v := .slice p2 l.length c2) (by simp only [List.getElem?_toArray, List.getElem?_cons_zero, List.getElem?_cons_succ] <;> rfl) (by kernel_rfl) (by kernel_rfl) (by kernel_rfl) (by exact fun _ _ _ h => h) (by decide) (.inl (by kernel_rfl)) (Or.inl ⟨by rfl, fun w _ => (by simp [execOp, go_sem, Act.eval])⟩) (fun _ => ?_)
      simp only [Act.put, List.setIfInBounds_toArray, List.set_cons_zero, List.set_cons_succ]
      refine wpAnyL_one (i := 17) (by kernel_rfl) (by simp only [List.getElem?_toArray, List.getElem?_cons_zero, List.getElem?_cons_succ] <;> rfl) (by rfl) ?_
      refine opwp_call (f := 24) (args := #[.slice p6 l.length c6, .slice p2 l.length c2]) (w' := w11) (by simp [go_sem, Act.eval]) ?_
      refine (HRS.out).mono ?_
      rintro e w12 ⟨rfl, hb12⟩
      have hBn4 := hBn3.trans (hb12.mono hBn3.size)
      refine .inl ⟨_, rfl, .inl (by kernel_rfl), ?_⟩
      simp only [Act.put, List.setIfInBounds_toArray, List.set_cons_zero, List.set_cons_succ]
      refine wpAnyL_pure (i := 18) (v := .bool true) (by simp only [List.getElem?_toArray, List.getElem?_cons_zero, List.getElem?_cons_succ] <;> rfl) (by kernel_rfl) (by kernel_rfl) (by kernel_rfl) (by exact fun _ _ _ h => h) (by decide) (.inl (by kernel_rfl)) (Or.inl ⟨by rfl, fun w _ => (by simp [execOp, go_sem, Act.eval])⟩) (fun _ => ?_)
      simp only [Act.put, List.setIfInBounds_toArray, List.set_cons_zero, List.set_cons_succ]
      refine wpAnyL_pure (i := 19) (v := .bool true) (by simp only [List.getElem?_toArray, List.getElem?_cons_zero, List.getElem?_cons_succ] <;> rfl) (by kernel_rfl) (by kernel_rfl) (by kernel_rfl) (by exact fun _ _ _ h => h) (by decide) (.inl (by kernel_rfl)) (Or.inl ⟨by rfl, fun w _ => (by simp [execOp, go_sem, Act.eval])⟩) (fun _ => ?_)
      simp only [Act.put, List.setIfInBounds_toArray, List.set_cons_zero, List.set_cons_succ]
      refine wpAnyL_one (i := 20) (by kernel_rfl) (by simp only [List.getElem?_toArray, List.getElem?_cons_zero, List.getElem?_cons_succ] <;> rfl) (by rfl) ?_
      refine opwp_call (f := 21) (args := #[]) (w' := w12) (by simp [go_sem]) ?_
      refine (HWE.out _ hBn4).mono ?_
      rintro e w13 ⟨rfl, hb13⟩
      have hBn5 := hBn4.trans (hb13.mono hBn4.size)
      refine .inl ⟨_, rfl, .inl (by kernel_rfl), ?_⟩
      simp only [Act.put, List.setIfInBounds_toArray, List.set_cons_zero, List.set_cons_succ]
      refine wpAnyL_pure (i := 21) (v := .bool true) (by simp only [List.getElem?_toArray, List.getElem?_cons_zero, List.getElem?_cons_succ] <;> rfl) (by kernel_rfl) (by kernel_rfl) (by kernel_rfl) (by exact fun _ _ _ h => h) (by decide) (.inl (by kernel_rfl)) (Or.inl ⟨by rfl, fun w _ => (by simp [execOp, go_sem, Act.eval])⟩) (fun _ => ?_)
      simp only [Act.put, List.setIfInBounds_toArray, List.set_cons_zero, List.set_cons_succ]
      refine wpAnyL_pure (i := 22) (v := .bool true) (by simp only [List.getElem?_toArray, List.getElem?_cons_zero, List.getElem?_cons_succ] <;> rfl) (by kernel_rfl) (by kernel_rfl) (by kernel_rfl) (by exact fun _ _ _ h => h) (by decide) (.inl (by kernel_rfl)) (Or.inl ⟨by rfl, fun w _ => (by simp [execOp, go_sem, Act.eval])⟩) (fun _ => ?_)
      simp only [Act.put, List.setIfInBounds_toArray, List.set_cons_zero, List.set_cons_succ]
      refine wpAnyL_done (by kernel_rfl) ?_ _
      have hBE := HBWD.out.trans (hBn5.mono HBWD.out.size)
      go_wp2_with fail
      go_ret
      exact ⟨rfl, hBE⟩
end Go.Proofs.YtmlecpapoeodkaaDoor
