/- The walk of the law WidthMerges. -/
import Derived.Test.YtmlecpapoeodkaaDoorWWorks
import Derived.Test.YtmlecpapoeodkaaDoorWRMg
namespace Go.Proofs.YtmlecpapoeodkaaDoor
open Go.RowKit
attribute [local go_sem ↓] run_eqlS run_neqS run_eqlS0 run_neqS0

theorem fewB_yes {B : List VS} {U : List Int} (h : fewB B U = true) : B.length ≤ 100 ∧ U.length ≤ 100 := by
  unfold fewB at h
  rw [Bool.and_eq_true, decide_eq_true_eq, decide_eq_true_eq] at h
  exact h
theorem MRun.le {B B' : List VS} {U U' : List Int} {i : Nat} (h : MRun B U i B' U') : B'.length ≤ B.length ∧ U'.length ≤ U.length := by
  have hB : ∀ (B : List VS) (x : Int), (remB B x).length ≤ B.length := fun B x => by unfold remB; exact List.length_eraseIdx_le _ _
  have hU : ∀ (U : List Int) (x t : Int), (remU U x t).length ≤ U.length := fun U x t => by
    unfold remU
    refine Nat.le_trans (List.length_eraseIdx_le _ _) ?_
    simp
  induction h with
  | done _ => exact ⟨Nat.le_refl _, Nat.le_refl _⟩
  | low _ _ _ _ ih => exact ⟨Nat.le_trans ih.1 (hB _ _), Nat.le_trans ih.2 (hU _ _ _)⟩
  | high _ _ _ _ _ ih => exact ⟨Nat.le_trans ih.1 (hB _ _), Nat.le_trans ih.2 (hU _ _ _)⟩
  | next _ _ _ ih => exact ih
/-- What Merge makes of a tree. -/
def MergedT (B : List VS) (U : List Int) (B2 : List VS) (U2 : List Int) : Prop := (formedB B.length U = false ∧ B2 = B ∧ U2 = U) ∨ (formedB B.length U = true ∧ MRun B U 0 B2 U2)
theorem MergedT.det {B B2 B3 : List VS} {U U2 U3 : List Int} (h : MergedT B U B2 U2) (h2 : MergedT B U B3 U3) : B3 = B2 ∧ U3 = U2 := by
  rcases h with ⟨a, rfl, rfl⟩ | ⟨a, b⟩ <;> rcases h2 with ⟨c, rfl, rfl⟩ | ⟨c, d⟩
  · exact ⟨rfl, rfl⟩
  · rw [a] at c; cases c
  · rw [a] at c; cases c
  · obtain ⟨e1, e2⟩ := b.det d; exact ⟨e1.symm, e2.symm⟩
theorem MergedT.le {B B2 : List VS} {U U2 : List Int} (h : MergedT B U B2 U2) : B2.length ≤ B.length ∧ U2.length ≤ U.length := by
  rcases h with ⟨a, rfl, rfl⟩ | ⟨a, b⟩
  · exact ⟨Nat.le_refl _, Nat.le_refl _⟩
  · exact b.le
/-- The merged tree's rows, which are written over. -/
structure MrM (w5 wr : World) (pm gM gN : Nat) (pM pN : Option Addr) (cM cN : Nat) (n m : Nat) : Prop where
  low : Below w5.heap.size w5 wr
  pmv : Box2 wr pm 25 (.slice pM n cM) (.slice pN m cN)
  rowM : 0 < n → pM = some ⟨gM, 0, none⟩ ∧ ∃ M : List VS, M.length = n ∧ SetRow wr gM M
  rowN : 0 < m → pN = some ⟨gN, 0, none⟩ ∧ ∃ N : List Int, N.length = m ∧ IntRow wr gN N
  ne : gM ≠ gN ∧ pm ≠ gM ∧ pm ≠ gN ∧ w5.heap.size ≤ gM ∧ w5.heap.size ≤ gN
theorem MrM.start {w5 w6 : World} {vB vU : Value} {B : List VS} {U : List Int} (hb : Below w5.heap.size w5 w6) (o1 : OwnSets w6 w5.heap.size vB B) (o2 : OwnInts w6 w5.heap.size vU U) :
    ∃ pM pN cM cN gM gN, vB = .slice pM B.length cM ∧ vU = .slice pN U.length cN ∧ MrM w5 (w6.alloc (.cells #[vB, vU] 25)) w6.heap.size gM gN pM pN cM cN B.length U.length := by
  obtain ⟨pM, cM, e1, _⟩ := o1.sets
  obtain ⟨pN, cN, e2, _⟩ := o2.ints
  have hap := own_apart o1 o2 (by decide)
  have hsz := hb.size
  subst e1; subst e2
  have hlow : Below w5.heap.size w5 (w6.alloc (.cells #[.slice pM B.length cM, .slice pN U.length cN] 25)) := hb.alloc hb.size _
  have hbx := Box2.new w6 25 (.slice pM B.length cM) (.slice pN U.length cN)
  by_cases h1 : 0 < B.length
  · obtain ⟨gM, c1, e1, k1, r1⟩ := OwnSets.row o1 h1
    injection e1 with e1 _ _
    by_cases h2 : 0 < U.length
    · obtain ⟨gN, c2, e2, k2, r2⟩ := OwnInts.row o2 h2
      injection e2 with e2 _ _
      have hne : gM ≠ gN := by
        intro e; subst e1; subst e2; subst e
        rcases hap with h | h
        · cases h
        · exact h rfl
      have l1 := r1.lt
      have l2 := r2.lt
      exact ⟨pM, pN, cM, cN, gM, gN, rfl, rfl, hlow, hbx, fun _ => ⟨e1, B, rfl, r1.alloc _⟩, fun _ => ⟨e2, U, rfl, r2.alloc _⟩, hne, by omega, by omega, k1, k2⟩
    · have l1 := r1.lt
      exact ⟨pM, pN, cM, cN, gM, w6.heap.size + 1, rfl, rfl, hlow, hbx, fun _ => ⟨e1, B, rfl, r1.alloc _⟩, fun h => absurd h h2, by omega, by omega, by omega, k1, by omega⟩
  · by_cases h2 : 0 < U.length
    · obtain ⟨gN, c2, e2, k2, r2⟩ := OwnInts.row o2 h2
      injection e2 with e2 _ _
      have l2 := r2.lt
      exact ⟨pM, pN, cM, cN, w6.heap.size + 1, gN, rfl, rfl, hlow, hbx, fun h => absurd h h1, fun _ => ⟨e2, U, rfl, r2.alloc _⟩, by omega, by omega, by omega, by omega, k2⟩
    · exact ⟨pM, pN, cM, cN, w6.heap.size + 1, w6.heap.size + 2, rfl, rfl, hlow, hbx, fun h => absurd h h1, fun h => absurd h h2, by omega, by omega, by omega, by omega, by omega⟩
section
variable {w5 wr wr' : World} {pm gM gN : Nat} {pM pN : Option Addr} {cM cN n m : Nat} (h : MrM w5 wr pm gM gN pM pN cM cN n m)
include h
theorem MrM.below (hb : Below wr.heap.size wr wr') : MrM w5 wr' pm gM gN pM pN cM cN n m :=
  ⟨h.low.trans (hb.mono h.low.size), h.pmv.below hb h.pmv.lt, fun hn => by obtain ⟨a, M, b, c⟩ := h.rowM hn; exact ⟨a, M, b, c.below hb c.lt⟩, fun hn => by obtain ⟨a, M, b, c⟩ := h.rowN hn; exact ⟨a, M, b, c.below hb c.lt⟩, h.ne⟩
theorem MrM.setM {i : Nat} (hi : i < n) (s : VS) : MrM w5 ((wr.setCell ⟨gM, i * 2, none⟩ (.int .u64 ((lw s).toNat : Int))).setCell ⟨gM, i * 2 + 1, none⟩ (.int .u64 ((hw s).toNat : Int))) pm gM gN pM pN cM cN n m := by
  obtain ⟨n1, n2, n3, n4, n5⟩ := h.ne
  obtain ⟨a, M, b, c⟩ := h.rowM (by omega)
  refine ⟨(h.low.setCell (p := ⟨gM, i * 2, none⟩) n4 _).setCell (p := ⟨gM, i * 2 + 1, none⟩) n4 _, (h.pmv.other (a := ⟨gM, i * 2, none⟩) n2 _).other (a := ⟨gM, i * 2 + 1, none⟩) n2 _, fun _ => ⟨a, M.set i s, by rw [List.length_set]; exact b, c.store i (by omega) s⟩, fun hm => ?_, h.ne⟩
  obtain ⟨a', N, b', c'⟩ := h.rowN hm
  exact ⟨a', N, b', (c'.other (a := ⟨gM, i * 2, none⟩) (Ne.symm n1) _).other (a := ⟨gM, i * 2 + 1, none⟩) (Ne.symm n1) _⟩
theorem MrM.setN {i : Nat} (hi : i < m) (x : Int) : MrM w5 (wr.setCell ⟨gN, i, none⟩ (.int .i64 x)) pm gM gN pM pN cM cN n m := by
  obtain ⟨n1, n2, n3, n4, n5⟩ := h.ne
  obtain ⟨a, N, b, c⟩ := h.rowN (by omega)
  refine ⟨h.low.setCell (p := ⟨gN, i, none⟩) n5 _, h.pmv.other (a := ⟨gN, i, none⟩) n3 _, fun hn => ?_, fun _ => ⟨a, N.set i x, by rw [List.length_set]; exact b, c.store i x⟩, h.ne⟩
  obtain ⟨a', M, b', c'⟩ := h.rowM hn
  exact ⟨a', M, b', c'.other (a := ⟨gN, i, none⟩) n1 _⟩
end
set_option maxRecDepth 100000 in
set_option maxHeartbeats 16000000 in
theorem widthMerges_walk (x y : Value) (B : List VS) (U : List Int) (w : World) (hT : TabAt w)
    (hx : SetsAt w x B) (hy : IntsAt w y U) (hB : B.length ≤ 9223372036854775807) (hU : U.length ≤ 9223372036854775807) :
    Calls Tryd.prog 11 #[.agg #[x, y]] w (LawPost w) := by
  have HW := hid (fun w' (h : Below w.heap.size w w') => works_c w' (hT.below hT.lt h))
  have HX := hid (fun w' (h : Below w.heap.size w w') => hx.below h)
  have HY := hid (fun w' (h : Below w.heap.size w w') => hy.below h)
  obtain ⟨p3, c3, rfl, hdrop3⟩ := id hx
  obtain ⟨p4, c4, rfl, hdrop4⟩ := id hy
  clear hdrop3 hdrop4 hx hy
  have hB0 : Below w.heap.size w (w.alloc (.cells #[.slice p3 B.length c3, .slice p4 U.length c4] 33)) := (Below.refl _ w).alloc (Nat.le_refl _) _
  have b0 := Box2.new w 33 (.slice p3 B.length c3) (.slice p4 U.length c4)
  obtain ⟨d0, d1, _, _⟩ := b0.cells
  have HF := hid (few_c _ _ B U _ (HX.out _ hB0) (HY.out _ hB0))
  go_enter Tryd.func11, Tryd.ntmps11
  go_wp2_with fail
  refine HF.out.mono ?_
  rintro e w2 ⟨rfl, hb2⟩
  have hB2 := hB0.trans (hb2.mono hB0.size)
  have b2 := b0.below hb2 b0.lt
  clear d0 d1 b0 hb2 hB0 HF
  cases hf : fewB B U
  · clear hf
    go_wp2_with fail
    refine (HW.out _ hB2).mono ?_
    rintro e w3 ⟨rfl, hb3⟩
    have hB3 := hB2.trans (hb3.mono hB2.size)
    go_wp2_with fail
    go_ret
    exact ⟨rfl, hB3⟩
  · obtain ⟨hb100, hu100⟩ := fewB_yes hf
    clear hf
    have HGV := hid (given_c _ _ B U w2 (HX.out _ hB2) (HY.out _ hB2) (by omega) (by omega))
    obtain ⟨d0, d1, _, _⟩ := b2.cells
    go_wp2_with fail
    refine HGV.out.mono ?_
    rintro e w4 ⟨x2, y2, rfl, ho1, ho2, hb4⟩
    have hX4 := ho1.sets
    have hY4 := ho2.ints
    obtain ⟨q3, g3, rfl, _⟩ := ho1.sets
    obtain ⟨q4, g4, rfl, _⟩ := ho2.ints
    have hba : Below w4.heap.size w4 (w4.alloc (.cells #[.slice q3 B.length g3, .slice q4 U.length g4] 25)) := (Below.refl _ w4).alloc (Nat.le_refl _) _
    have hb5 := hb4.trans (hba.mono hb4.size)
    have HB5 := hid (hB2.trans (hb5.mono hB2.size))
    have HBD5 := hid (b2.below hb5 b2.lt)
    have HBX5 := hid (Box2.new w4 25 (.slice q3 B.length g3) (.slice q4 U.length g4))
    have HX5 := hid (hX4.below hba)
    have HY5 := hid (hY4.below hba)
    obtain ⟨k0, k1, _, _⟩ := HBX5.out.cells
    have HMG := hid (Merge_c _ _ B U _ HX5.out HY5.out (by omega) (by omega))
    clear d0 d1 ho1 ho2 hX4 hY4 hba hb4 hb5 b2 hB2 HGV
    go_wp2_with fail
    generalize w4.alloc (.cells #[.slice q3 B.length g3, .slice q4 U.length g4] 25) = w5 at *
    generalize w4.heap.size = px at *
    refine HMG.out.mono ?_
    rintro e w6 ⟨vB, vU, B2, U2, rfl, o1, o2, hb6, hmt⟩
    have hmt2 : MergedT B U B2 U2 := hmt
    have hle := hmt2.le
    have HMT := hid hmt2
    obtain ⟨pM, pN, cM, cN, gM, gN, e1, e2, hmr⟩ := MrM.start hb6 o1 o2
    have hal : Below w6.heap.size w6 (w6.alloc (.cells #[vB, vU] 25)) := (Below.refl _ w6).alloc (Nat.le_refl _) _
    have HS7 := hid (o1.sets.below hal)
    have HI7 := hid (o2.ints.below hal)
    subst e1; subst e2
    have HMR := hid hmr
    have HB67 := hid (hb6.trans (hal.mono hb6.size))
    clear k0 k1 o1 o2 hb6 hmt hmt2 hmr hal HMG
    go_wp2_with fail
    generalize w6.alloc (.cells #[.slice pM B2.length cM, .slice pN U2.length cN] 25) = w7 at *
    generalize w6.heap.size = pm at *
    have hbd := (Below.refl w7.heap.size w7).drew
    have HX7 := hid (fun w' (h : Below w7.drew.heap.size w7.drew w') => HX.out w' (HB5.out.trans (((HB67.out.trans (hbd.mono HB67.out.size)).trans (h.mono HB67.out.size)).mono HB5.out.size)))
    have HY7 := hid (fun w' (h : Below w7.drew.heap.size w7.drew w') => HY.out w' (HB5.out.trans (((HB67.out.trans (hbd.mono HB67.out.size)).trans (h.mono HB67.out.size)).mono HB5.out.size)))
    have HS7d := hid (fun w' (h : Below w7.drew.heap.size w7.drew w') => (HS7.out.below hbd).below h)
    have HI7d := hid (fun w' (h : Below w7.drew.heap.size w7.drew w') => (HI7.out.below hbd).below h)
    have BM : Hid (Box2 w7.drew pm 25 (.slice pM B2.length cM) (.slice pN U2.length cN)) := HMR.out.pmv
    have BD : Hid (Box2 w7.drew w.heap.size 33 (.slice p3 B.length c3) (.slice p4 U.length c4)) := HBD5.out.below (HB67.out.trans (hbd.mono HB67.out.size)) HBD5.out.lt
    have HBS := hid (Below.refl w7.drew.heap.size w7.drew)
    have HMRd := hid (HMR.out.below hbd)
    clear hbd HS7 HI7 HMR
    refine Go.Proofs.YtmlecpapoeodkaaDoor.wp_region_L 6 4 (fun w' => Box2 w' (pm) 25 (.slice pM B2.length cM) (.slice pN U2.length cN) ∧ Box2 w' (w.heap.size) 33 (.slice p3 B.length c3) (.slice p4 U.length c4)) (by kernel_rfl) rfl ⟨BM.out, BD.out⟩ (fun _ => ?_)
    refine wpAnyL_load2 (i := 0) (v := .agg #[.slice pM B2.length cM, .slice pN U2.length cN]) (by simp only [List.getElem?_toArray, List.getElem?_cons_zero] <;> rfl) (by kernel_rfl) (by kernel_rfl) (by kernel_rfl) (by exact fun _ _ _ h => h) (by decide) (Waits.more (j := 1) rfl ⟨⟨1, .data⟩, by simp, rfl, rfl⟩ (Waits.one rfl ⟨⟨0, .data⟩, by simp, rfl, rfl⟩)) (by kernel_rfl) (by kernel_rfl) (.inr ⟨BM.out, BD.out⟩) (Or.inl ⟨by rfl, fun w hw => (by obtain ⟨x0, _⟩ := hw; simp [execOp, go_sem, Act.eval, x0.cells.1, x0.cells.2.1])⟩) (fun _ => ?_)
    simp only [Act.put, List.setIfInBounds_toArray, List.set_cons_zero, List.set_cons_succ]
    refine wpAnyL_load2 (i := 2) (v := .agg #[.slice p3 B.length c3, .slice p4 U.length c4]) (by simp only [List.getElem?_toArray, List.getElem?_cons_zero, List.getElem?_cons_succ] <;> rfl) (by kernel_rfl) (by kernel_rfl) (by kernel_rfl) (by exact fun _ _ _ h => h) (by decide) (Waits.more (j := 3) rfl ⟨⟨3, .data⟩, by simp, rfl, rfl⟩ (Waits.one rfl ⟨⟨2, .data⟩, by simp, rfl, rfl⟩)) (by kernel_rfl) (by kernel_rfl) (.inr ⟨BM.out, BD.out⟩) (Or.inl ⟨by rfl, fun w hw => (by obtain ⟨_, x1⟩ := hw; simp [execOp, go_sem, Act.eval, x1.cells.1, x1.cells.2.1])⟩) (fun _ => ?_)
    simp only [Act.put, List.setIfInBounds_toArray, List.set_cons_zero, List.set_cons_succ]
    refine wpAnyL_one (i := 1) (by kernel_rfl) (by simp only [List.getElem?_toArray, List.getElem?_cons_zero, List.getElem?_cons_succ] <;> rfl) (by rfl) ?_
    refine opwp_call (f := 17) (args := #[.agg #[.slice pM B2.length cM, .slice pN U2.length cN]]) (w' := w7.drew) (by simp [go_sem, Act.eval]) ?_
    refine (taken_c pM pN B2.length cM U2.length cN w7.drew).mono ?_
    rintro e w8 ⟨rfl, hb8⟩
    have hcn1_0 := hid (BM.out.below hb8 BM.out.lt)
    have hcn1_1 := hid (BD.out.below hb8 BD.out.lt)
    have hBn1 := HBS.out.trans (hb8.mono HBS.out.size)
    refine .inl ⟨_, rfl, .inr ⟨hcn1_0.out, hcn1_1.out⟩, ?_⟩
    simp only [Act.put, List.setIfInBounds_toArray, List.set_cons_zero, List.set_cons_succ]
    refine wpAnyL_one (i := 3) (by kernel_rfl) (by simp only [List.getElem?_toArray, List.getElem?_cons_zero, List.getElem?_cons_succ] <;> rfl) (by rfl) ?_
    refine opwp_call (f := 37) (args := #[.agg #[.slice p3 B.length c3, .slice p4 U.length c4]]) (w' := w8) (by simp [go_sem, Act.eval]) ?_
    refine (rMerge_c _ _ B U w8 (HX7.out _ hBn1) (HY7.out _ hBn1) (by omega) (by omega)).mono ?_
    rintro e w9 ⟨vB3, vU3, B3, U3, rfl, o1, o2, hb9, hmt3⟩
    have hcn2_0 := hid (hcn1_0.out.below hb9 hcn1_0.out.lt)
    have hcn2_1 := hid (hcn1_1.out.below hb9 hcn1_1.out.lt)
    have hBn2 := hBn1.trans (hb9.mono hBn1.size)
    obtain ⟨e1, e2⟩ := HMT.out.det hmt3
    subst B3; subst U3
    have HSM := hid (same_c _ _ _ _ B2 B2 U2 U2 w9 (HS7d.out _ hBn2) (HI7d.out _ hBn2) o1.sets o2.ints (by omega) (by omega) (by omega) (by omega))
    rw [show decide (B2 = B2 ∧ U2 = U2) = true from by simp] at HSM
    refine .inl ⟨_, rfl, .inr ⟨hcn2_0.out, hcn2_1.out⟩, ?_⟩
    simp only [Act.put, List.setIfInBounds_toArray, List.set_cons_zero, List.set_cons_succ]
    refine wpAnyL_one (i := 4) (by kernel_rfl) (by simp only [List.getElem?_toArray, List.getElem?_cons_zero, List.getElem?_cons_succ] <;> rfl) (by rfl) ?_
    refine opwp_call (f := 16) (args := #[.agg #[.slice pM B2.length cM, .slice pN U2.length cN], .agg #[vB3, vU3]]) (w' := w9) (by simp [go_sem, Act.eval]) ?_
    refine (HSM.out).mono ?_
    rintro e w10 ⟨rfl, hb10⟩
    have hBn3 := hBn2.trans (hb10.mono hBn2.size)
    refine .inl ⟨_, rfl, .inl (by kernel_rfl), ?_⟩
    simp only [Act.put, List.setIfInBounds_toArray, List.set_cons_zero, List.set_cons_succ]
    refine wpAnyL_pure (i := 5) (v := .bool false) (by simp only [List.getElem?_toArray, List.getElem?_cons_zero, List.getElem?_cons_succ] <;> rfl) (by kernel_rfl) (by kernel_rfl) (by kernel_rfl) (by exact fun _ _ _ h => h) (by decide) (.inl (by kernel_rfl)) (Or.inl ⟨by rfl, fun w _ => (by simp [execOp, go_sem, Act.eval])⟩) (fun _ => ?_)
    simp only [Act.put, List.setIfInBounds_toArray, List.set_cons_zero, List.set_cons_succ]
    refine wpAnyL_done (by kernel_rfl) ?_ _
    have HMR10 := hid (HMRd.out.below hBn3)
    obtain ⟨f0, f1, _, _⟩ := HMR10.out.pmv.cells
    have hl1 : B2.length ≤ 100 := by omega
    have hl2 : U2.length ≤ 100 := by omega
    clear HMRd HMT hle HS7d HI7d HX7 HY7 BM BD HBS hb8 hb9 hb10 hBn1 hBn2 hBn3 o1 o2 HSM hmt3
    go_wp2_with fail
    go_loopw [24] (fun z wr => ∃ (k : Nat), k ≤ B2.length ∧ z = .int .i64 k ∧ Hid (MrM w5 wr pm gM gN pM pN cM cN B2.length U2.length)) (fun z _ => B2.length - (intOf z).toNat)
    case atStart => exact ⟨0, Nat.zero_le _, rfl, HMR10.out⟩
    case round =>
      clear HMR10 f0 f1
      obtain ⟨k, hk, rfl, hm⟩ := hrel
      obtain ⟨f0, f1, _, _⟩ := hm.out.pmv.cells
      by_cases hkl : k < B2.length
      · obtain ⟨hp, M, hM, hrow⟩ := hm.out.rowM (by omega)
        subst hp
        obtain ⟨t, _, q0, q1, q2, q3⟩ := hrow.get k (by omega)
        have zk : (0 : Int) ≤ (k : Int) ∧ (k : Int) < (B2.length : Int) := by omega
        have hs7 := hm.out.setM hkl (7#128)
        rw [show ((lw (7#128)).toNat : Int) = 7 from rfl, show ((hw (7#128)).toNat : Int) = 0 from rfl] at hs7
        have HS := hid hs7
        clear hs7 hM hrow
        go_wp2_with fail
        go_roundw
        case rel => exact ⟨k + 1, by omega, by go_num, HS.out⟩
        case measure => simp [intOf]; omega
      · obtain rfl : k = B2.length := by omega
        go_wp2_with fail
        go_loopw [36] (fun z wq => ∃ (k : Nat), k ≤ U2.length ∧ z = .int .i64 k ∧ Hid (MrM w5 wq pm gM gN pM pN cM cN B2.length U2.length)) (fun z _ => U2.length - (intOf z).toNat)
        case atStart => exact ⟨0, Nat.zero_le _, rfl, hm.out⟩
        case round =>
          clear hm f0 f1
          obtain ⟨k, hk, rfl, hm⟩ := hrel
          obtain ⟨f0, f1, _, _⟩ := hm.out.pmv.cells
          by_cases hkl : k < U2.length
          · obtain ⟨hp, N, hN, hrow⟩ := hm.out.rowN (by omega)
            subst hp
            have hkn : k < N.length := by omega
            obtain ⟨q0, q1⟩ := hrow.at k hkn
            generalize N[k] = nk at q0
            have zk : (0 : Int) ≤ (k : Int) ∧ (k : Int) < (U2.length : Int) := by omega
            have HS := hid (hm.out.setN hkl (-9))
            clear hkn hN hrow
            go_wp2_with fail
            go_roundw
            case rel => exact ⟨k + 1, by omega, by go_num, HS.out⟩
            case measure => simp [intOf]; omega
          · obtain rfl : k = U2.length := by omega
            have hlow := hm.out.low.drew
            have HLW := hid hlow
            have HXE := hid (fun w' (h : Below wr.drew.heap.size wr.drew w') => HX5.out.below (HLW.out.trans (h.mono HLW.out.size)))
            have HYE := hid (fun w' (h : Below wr.drew.heap.size wr.drew w') => HY5.out.below (HLW.out.trans (h.mono HLW.out.size)))
            have hbw := HB5.out.trans (hlow.mono HB5.out.size)
            have HBWE := hid hbw
            have HXD := hid (fun w' (h : Below wr.drew.heap.size wr.drew w') => HX.out w' (HBWE.out.trans (h.mono HBWE.out.size)))
            have HYD := hid (fun w' (h : Below wr.drew.heap.size wr.drew w') => HY.out w' (HBWE.out.trans (h.mono HBWE.out.size)))
            have HWE := hid (fun w' (h : Below wr.drew.heap.size wr.drew w') => HW.out w' (HBWE.out.trans (h.mono HBWE.out.size)))
            have BX : Hid (Box2 wr.drew px 25 (.slice q3 B.length g3) (.slice q4 U.length g4)) := HBX5.out.below hlow HBX5.out.lt
            have BD : Hid (Box2 wr.drew w.heap.size 33 (.slice p3 B.length c3) (.slice p4 U.length c4)) := HBD5.out.below hlow HBD5.out.lt
            have HBS := hid (Below.refl wr.drew.heap.size wr.drew)
            clear hlow hbw f0 f1 hm
            go_wp2_with fail
            refine Go.Proofs.YtmlecpapoeodkaaDoor.wp_region_L 8 3 (fun w' => Box2 w' (px) 25 (.slice q3 B.length g3) (.slice q4 U.length g4) ∧ Box2 w' (w.heap.size) 33 (.slice p3 B.length c3) (.slice p4 U.length c4)) (by kernel_rfl) rfl ⟨BX.out, BD.out⟩ (fun _ => ?_)
            refine wpAnyL_load2 (i := 0) (v := .agg #[.slice q3 B.length g3, .slice q4 U.length g4]) (by simp only [List.getElem?_toArray, List.getElem?_cons_zero] <;> rfl) (by kernel_rfl) (by kernel_rfl) (by kernel_rfl) (by exact fun _ _ _ h => h) (by decide) (Waits.more (j := 1) rfl ⟨⟨1, .data⟩, by simp, rfl, rfl⟩ (Waits.one rfl ⟨⟨0, .data⟩, by simp, rfl, rfl⟩)) (by kernel_rfl) (by kernel_rfl) (.inr ⟨BX.out, BD.out⟩) (Or.inl ⟨by rfl, fun w hw => (by obtain ⟨x0, _⟩ := hw; simp [execOp, go_sem, Act.eval, x0.cells.1, x0.cells.2.1])⟩) (fun _ => ?_)
            simp only [Act.put, List.setIfInBounds_toArray, List.set_cons_zero, List.set_cons_succ]
            refine wpAnyL_load2 (i := 2) (v := .agg #[.slice p3 B.length c3, .slice p4 U.length c4]) (by simp only [List.getElem?_toArray, List.getElem?_cons_zero, List.getElem?_cons_succ] <;> rfl) (by kernel_rfl) (by kernel_rfl) (by kernel_rfl) (by exact fun _ _ _ h => h) (by decide) (Waits.one rfl ⟨⟨2, .data⟩, by simp, rfl, rfl⟩) (by kernel_rfl) (by kernel_rfl) (.inr ⟨BX.out, BD.out⟩) (Or.inl ⟨by rfl, fun w hw => (by obtain ⟨_, x1⟩ := hw; simp [execOp, go_sem, Act.eval, x1.cells.1, x1.cells.2.1])⟩) (fun _ => ?_)
            simp only [Act.put, List.setIfInBounds_toArray, List.set_cons_zero, List.set_cons_succ]
            refine wpAnyL_one (i := 1) (by kernel_rfl) (by simp only [List.getElem?_toArray, List.getElem?_cons_zero, List.getElem?_cons_succ] <;> rfl) (by rfl) ?_
            refine opwp_call (f := 17) (args := #[.agg #[.slice q3 B.length g3, .slice q4 U.length g4]]) (w' := wr.drew) (by simp [go_sem, Act.eval]) ?_
            refine (taken_c q3 q4 B.length g3 U.length g4 wr.drew).mono ?_
            rintro e w18 ⟨rfl, hb8⟩
            have hcm1_0 := hid (BX.out.below hb8 BX.out.lt)
            have hcm1_1 := hid (BD.out.below hb8 BD.out.lt)
            have hBm1 := HBS.out.trans (hb8.mono HBS.out.size)
            have HSM := hid (same_c _ _ _ _ B B U U w18 (HXE.out _ hBm1) (HYE.out _ hBm1) (HXD.out _ hBm1) (HYD.out _ hBm1) (by omega) (by omega) (by omega) (by omega))
            rw [show decide (B = B ∧ U = U) = true from by simp] at HSM
            refine .inl ⟨_, rfl, .inr ⟨hcm1_0.out, hcm1_1.out⟩, ?_⟩
            simp only [Act.put, List.setIfInBounds_toArray, List.set_cons_zero, List.set_cons_succ]
            refine wpAnyL_one (i := 3) (by kernel_rfl) (by simp only [List.getElem?_toArray, List.getElem?_cons_zero, List.getElem?_cons_succ] <;> rfl) (by rfl) ?_
            refine opwp_call (f := 16) (args := #[.agg #[.slice q3 B.length g3, .slice q4 U.length g4], .agg #[.slice p3 B.length c3, .slice p4 U.length c4]]) (w' := w18) (by simp [go_sem, Act.eval]) ?_
            refine (HSM.out).mono ?_
            rintro e w19 ⟨rfl, hb9⟩
            have hBm2 := hBm1.trans (hb9.mono hBm1.size)
            refine .inl ⟨_, rfl, .inl (by kernel_rfl), ?_⟩
            simp only [Act.put, List.setIfInBounds_toArray, List.set_cons_zero, List.set_cons_succ]
            refine wpAnyL_pure (i := 4) (v := .bool true) (by simp only [List.getElem?_toArray, List.getElem?_cons_zero, List.getElem?_cons_succ] <;> rfl) (by kernel_rfl) (by kernel_rfl) (by kernel_rfl) (by exact fun _ _ _ h => h) (by decide) (.inl (by kernel_rfl)) (Or.inl ⟨by rfl, fun w _ => (by simp [execOp, go_sem, Act.eval])⟩) (fun _ => ?_)
            simp only [Act.put, List.setIfInBounds_toArray, List.set_cons_zero, List.set_cons_succ]
            refine wpAnyL_one (i := 5) (by kernel_rfl) (by simp only [List.getElem?_toArray, List.getElem?_cons_zero, List.getElem?_cons_succ] <;> rfl) (by rfl) ?_
            refine opwp_call (f := 21) (args := #[]) (w' := w19) (by simp [go_sem]) ?_
            refine (HWE.out _ hBm2).mono ?_
            rintro e w20 ⟨rfl, hb10⟩
            have hBm3 := hBm2.trans (hb10.mono hBm2.size)
            refine .inl ⟨_, rfl, .inl (by kernel_rfl), ?_⟩
            simp only [Act.put, List.setIfInBounds_toArray, List.set_cons_zero, List.set_cons_succ]
            refine wpAnyL_pure (i := 6) (v := .bool true) (by simp only [List.getElem?_toArray, List.getElem?_cons_zero, List.getElem?_cons_succ] <;> rfl) (by kernel_rfl) (by kernel_rfl) (by kernel_rfl) (by exact fun _ _ _ h => h) (by decide) (.inl (by kernel_rfl)) (Or.inl ⟨by rfl, fun w _ => (by simp [execOp, go_sem, Act.eval])⟩) (fun _ => ?_)
            simp only [Act.put, List.setIfInBounds_toArray, List.set_cons_zero, List.set_cons_succ]
            refine wpAnyL_pure (i := 7) (v := .bool true) (by simp only [List.getElem?_toArray, List.getElem?_cons_zero, List.getElem?_cons_succ] <;> rfl) (by kernel_rfl) (by kernel_rfl) (by kernel_rfl) (by exact fun _ _ _ h => h) (by decide) (.inl (by kernel_rfl)) (Or.inl ⟨by rfl, fun w _ => (by simp [execOp, go_sem, Act.eval])⟩) (fun _ => ?_)
            simp only [Act.put, List.setIfInBounds_toArray, List.set_cons_zero, List.set_cons_succ]
            refine wpAnyL_done (by kernel_rfl) ?_ _
            have hend := HBWE.out.trans (hBm3.mono HBWE.out.size)
            go_wp2_with fail
            go_ret
            exact ⟨rfl, hend⟩
end Go.Proofs.YtmlecpapoeodkaaDoor
