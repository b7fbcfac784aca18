/- Walks: the lower bound. -/
import Derived.Test.YtmlecpapoeodkaaDoorWOfW
import Derived.Laws.EntriesVeiled
namespace Go.Proofs.YtmlecpapoeodkaaDoor
open Go.RowKit
attribute [local go_sem ↓] run_eqlS run_neqS run_eqlS0 run_neqS0

theorem SetVar.uniq {w : World} {b : Nat} {s t : VS} (h1 : SetVar w b s) (h2 : SetVar w b t) : s = t := by
  obtain ⟨a0, a1, _, _⟩ := h1.cells
  obtain ⟨b0, b1, _, _⟩ := h2.cells
  rw [a0] at b0
  rw [a1] at b1
  have e0 := Option.some.inj b0
  have e1 := Option.some.inj b1
  injection e0 with _ e0
  injection e1 with _ e1
  exact ext_lo_hi (BitVec.eq_of_toNat_eq (by omega)) (BitVec.eq_of_toNat_eq (by omega))
open Classical in
/-- How many are in the set of a variable. -/
noncomputable def lenAt (w : World) (b : Nat) : Nat := if h : ∃ s, SetVar w b s then (len h.choose).toNat else 0
theorem lenAt_of {w : World} {b : Nat} {s : VS} (h : SetVar w b s) : lenAt w b = (len s).toNat := by
  unfold lenAt
  rw [dif_pos ⟨s, h⟩]
  rw [SetVar.uniq (Exists.choose_spec (⟨s, h⟩ : ∃ s, SetVar w b s)) h]
set_option maxRecDepth 100000 in
set_option maxHeartbeats 2000000 in
/-- The degree. -/
theorem low1_c (un : Nat) (v : Value) (L : List VS) (pe pl : Nat) (s : VS) (w : World) (he : Box1 w pe 22 v) (hI : SetsAt w v L) (hs : SetVar w pl s) (hu : un < L.length) :
    Calls Tryd.prog 44 #[.int .i64 (un : Int), .pointer (some ⟨pe, 0, none⟩), .pointer (some ⟨pl, 0, none⟩)] w fun e w' => e = .returned (.int .i64 (degIn (gOf L) s (un : Int))) ∧ Below w.heap.size w w' := by
  obtain ⟨b, off, c, rfl, lb⟩ := hI.form (by omega)
  obtain ⟨t, ht, q0, q1⟩ := hI.get un hu
  have zu : (0 : Int) ≤ (un : Int) ∧ (un : Int) < (L.length : Int) := by omega
  have PE : Hid (w.drew.cell? ⟨pe, 0, none⟩ = some (.slice (some ⟨b, off, none⟩) L.length c)) := he.cell
  have QT : Hid (w.drew.cell? ⟨b, off + un * 2, none⟩ = some (.int .u64 ((lw t).toNat : Int)) ∧ w.drew.cell? ⟨b, off + un * 2 + 1, none⟩ = some (.int .u64 ((hw t).toNat : Int))) := ⟨q0, q1⟩
  have SV : Hid (SetVar w.drew pl s) := hs
  have HD := hid (show degIn (gOf L) s (un : Int) = len (t &&& s) from by unfold degIn; rw [gOf_nat L un hu, ht])
  have HBD := hid ((Below.refl w.heap.size w).drew)
  clear he hI hs ht q0 q1 lb
  go_enter Tryd.func44, Tryd.ntmps44
  go_wp2_with fail
  refine Go.Proofs.YtmlecpapoeodkaaDoor.wp_region_L 8 7 (fun w' => w'.cell? ⟨pe, 0, none⟩ = some (.slice (some ⟨b, off, none⟩) L.length c) ∧ (w'.cell? ⟨b, off + un * 2, none⟩ = some (.int .u64 ((lw (t)).toNat : Int)) ∧ w'.cell? ⟨b, off + un * 2 + 1, none⟩ = some (.int .u64 ((hw (t)).toNat : Int))) ∧ SetVar w' (pl) (s)) (by kernel_rfl) rfl ⟨PE.out, QT.out, SV.out⟩ (fun _ => ?_)
  refine wpAnyL_load2 (i := 0) (v := .slice (some ⟨b, off, none⟩) L.length c) (by simp only [List.getElem?_toArray, List.getElem?_cons_zero] <;> rfl) (by kernel_rfl) (by kernel_rfl) (by kernel_rfl) (by exact fun _ _ _ h => h) (by decide) (Waits.one rfl ⟨⟨0, .phase⟩, by simp, rfl, rfl⟩) (by kernel_rfl) (by kernel_rfl) (.inr ⟨PE.out, QT.out, SV.out⟩) (Or.inl ⟨by rfl, fun w hw => (by obtain ⟨x0, _, _⟩ := hw; simp [execOp, go_sem, Act.eval, x0])⟩) (fun _ => ?_)
  simp only [Act.put, List.setIfInBounds_toArray, List.set_cons_zero, List.set_cons_succ]
  refine wpAnyL_pure (i := 1) (v := .int .i64 (un : Int)) (by simp only [List.getElem?_toArray, List.getElem?_cons_zero, List.getElem?_cons_succ] <;> rfl) (by kernel_rfl) (by kernel_rfl) (by kernel_rfl) (by exact fun _ _ _ h => h) (by decide) (.inr ⟨PE.out, QT.out, SV.out⟩) (Or.inl ⟨by rfl, fun w _ => (by simp [execOp, go_sem, Act.eval])⟩) (fun _ => ?_)
  simp only [Act.put, List.setIfInBounds_toArray, List.set_cons_zero, List.set_cons_succ]
  refine wpAnyL_pure (i := 2) (v := .pointer (some ⟨b, off + un * 2, none⟩)) (by simp only [List.getElem?_toArray, List.getElem?_cons_zero, List.getElem?_cons_succ] <;> rfl) (by kernel_rfl) (by kernel_rfl) (by kernel_rfl) (by exact fun _ _ _ h => h) (by decide) (.inr ⟨PE.out, QT.out, SV.out⟩) (Or.inl ⟨by rfl, fun w _ => (by simp [execOp, go_sem, Act.eval, zu])⟩) (fun _ => ?_)
  simp only [Act.put, List.setIfInBounds_toArray, List.set_cons_zero, List.set_cons_succ]
  refine wpAnyL_load2 (i := 3) (v := encS (t)) (by simp only [List.getElem?_toArray, List.getElem?_cons_zero, List.getElem?_cons_succ] <;> rfl) (by kernel_rfl) (by kernel_rfl) (by kernel_rfl) (by exact fun _ _ _ h => h) (by decide) (Waits.one rfl ⟨⟨3, .phase⟩, by simp, rfl, rfl⟩) (by kernel_rfl) (by kernel_rfl) (.inr ⟨PE.out, QT.out, SV.out⟩) (Or.inl ⟨by rfl, fun w hw => (by obtain ⟨_, ⟨y1, z1⟩, _⟩ := hw; simp [execOp, go_sem, Act.eval, y1, z1])⟩) (fun _ => ?_)
  simp only [Act.put, List.setIfInBounds_toArray, List.set_cons_zero, List.set_cons_succ]
  refine wpAnyL_load2 (i := 4) (v := encS s) (by simp only [List.getElem?_toArray, List.getElem?_cons_zero, List.getElem?_cons_succ] <;> rfl) (by kernel_rfl) (by kernel_rfl) (by kernel_rfl) (by exact fun _ _ _ h => h) (by decide) (Waits.one rfl ⟨⟨4, .phase⟩, by simp, rfl, rfl⟩) (by kernel_rfl) (by kernel_rfl) (.inr ⟨PE.out, QT.out, SV.out⟩) (Or.inl ⟨by rfl, fun w hw => (by obtain ⟨_, _, x2⟩ := hw; simp [execOp, go_sem, Act.eval, x2.cells.1, x2.cells.2.1])⟩) (fun _ => ?_)
  simp only [Act.put, List.setIfInBounds_toArray, List.set_cons_zero, List.set_cons_succ]
  refine wpAnyL_one (i := 5) (by kernel_rfl) (by simp only [List.getElem?_toArray, List.getElem?_cons_zero, List.getElem?_cons_succ] <;> rfl) (by rfl) ?_
  refine opwp_call (f := 29) (args := #[encS (t), encS s]) (w' := w.drew) (by simp [go_sem, Act.eval]) ?_
  refine (Cut_c t s w.drew).mono ?_
  rintro e w2 ⟨rfl, hb2⟩
  have hc1_0 := hid ((hb2.cell (cell_lt PE.out)).trans PE.out)
  have hc1_1 := hid (show (w2.cell? ⟨b, off + un * 2, none⟩ = some (.int .u64 ((lw (t)).toNat : Int)) ∧ w2.cell? ⟨b, off + un * 2 + 1, none⟩ = some (.int .u64 ((hw (t)).toNat : Int))) from ⟨(hb2.cell (cell_lt QT.out.1)).trans QT.out.1, (hb2.cell (cell_lt QT.out.2)).trans QT.out.2⟩)
  have hc1_2 := hid (SV.out.below hb2 SV.out.lt)
  refine .inl ⟨_, rfl, .inr ⟨hc1_0.out, hc1_1.out, hc1_2.out⟩, ?_⟩
  simp only [Act.put, List.setIfInBounds_toArray, List.set_cons_zero, List.set_cons_succ]
  refine wpAnyL_one (i := 6) (by kernel_rfl) (by simp only [List.getElem?_toArray, List.getElem?_cons_zero, List.getElem?_cons_succ] <;> rfl) (by rfl) ?_
  refine opwp_call (f := 45) (args := #[encS (t &&& s)]) (w' := w2) (by simp [go_sem, Act.eval]) ?_
  refine (Len_c (t &&& s) w2).mono ?_
  rintro e w3 ⟨rfl, hb3⟩
  have hc2_0 := hid ((hb3.cell (cell_lt hc1_0.out)).trans hc1_0.out)
  have hc2_1 := hid (show (w3.cell? ⟨b, off + un * 2, none⟩ = some (.int .u64 ((lw (t)).toNat : Int)) ∧ w3.cell? ⟨b, off + un * 2 + 1, none⟩ = some (.int .u64 ((hw (t)).toNat : Int))) from ⟨(hb3.cell (cell_lt hc1_1.out.1)).trans hc1_1.out.1, (hb3.cell (cell_lt hc1_1.out.2)).trans hc1_1.out.2⟩)
  have hc2_2 := hid (hc1_2.out.below hb3 hc1_2.out.lt)
  refine .inl ⟨_, rfl, .inr ⟨hc2_0.out, hc2_1.out, hc2_2.out⟩, ?_⟩
  simp only [Act.put, List.setIfInBounds_toArray, List.set_cons_zero, List.set_cons_succ]
  refine wpAnyL_one (i := 7) (by kernel_rfl) (by simp only [List.getElem?_toArray, List.getElem?_cons_zero, List.getElem?_cons_succ] <;> rfl) (by rfl) ?_
  refine opwp_value (v := .int .i64 (len (t &&& s))) (w' := w3) (by simp [execOp, go_sem, Act.eval]) ⟨.inl (by kernel_rfl), ?_⟩
  simp only [Act.put, List.setIfInBounds_toArray, List.set_cons_zero, List.set_cons_succ]
  refine wpAnyL_done (by kernel_rfl) ?_ _
  have hB := HBD.out.trans ((hb2.trans (hb3.mono hb2.size)).mono HBD.out.size)
  go_wp2_with fail
  go_ret
  exact ⟨by rw [HD.out]; rfl, hB⟩
def degV (pe pl : Nat) : Value := .func (.func 44) #[] #[.pointer (some ⟨pe, 0, none⟩), .pointer (some ⟨pl, 0, none⟩)]
set_option maxRecDepth 100000 in
set_option maxHeartbeats 2000000 in
/-- The comparison of degrees. -/
theorem low2_c (an bn : Nat) (v : Value) (L : List VS) (pe pl pd : Nat) (s : VS) (T : TypeId) (w : World) (he : Box1 w pe 22 v) (hI : SetsAt w v L) (hs : SetVar w pl s) (hd : Box1 w pd T (degV pe pl)) (ha : an < L.length) (hb : bn < L.length) :
    Calls Tryd.prog 46 #[.int .i64 (an : Int), .int .i64 (bn : Int), .pointer (some ⟨pd, 0, none⟩)] w fun e w' => e = .returned (.int .i64 (degIn (gOf L) s (an : Int) - degIn (gOf L) s (bn : Int))) ∧ Below w.heap.size w w' := by
  have hbd := (Below.refl w.heap.size w).drew
  have HA := hid (low1_c an v L pe pl s w.drew he (hI.below hbd) hs ha)
  have HB := hid (fun w' (h : Below w.heap.size w w') => low1_c bn v L pe pl s w' (he.same (h.block _ he.lt)) (hI.below h) (hs.below h hs.lt) hb)
  have PD : Hid (w.drew.cell? ⟨pd, 0, none⟩ = some (.func (.func 44) #[] #[.pointer (some ⟨pe, 0, none⟩), .pointer (some ⟨pl, 0, none⟩)])) := hd.cell
  have HBD := hid hbd
  have r1 : 0 ≤ degIn (gOf L) s (an : Int) ∧ degIn (gOf L) s (an : Int) ≤ 128 := ⟨len_pos, len_le _⟩
  have r2 : 0 ≤ degIn (gOf L) s (bn : Int) ∧ degIn (gOf L) s (bn : Int) ≤ 128 := ⟨len_pos, len_le _⟩
  generalize degIn (gOf L) s (an : Int) = x at *
  generalize degIn (gOf L) s (bn : Int) = y at *
  have z1 : IntKind.i64.wrap (x - y) = x - y := IntWalk.i64_in _ (by omega)
  clear he hI hs hd hbd
  go_enter Tryd.func46, Tryd.ntmps46
  go_wp2_with fail
  refine Go.Proofs.YtmlecpapoeodkaaDoor.wp_region_L 8 7 (fun w' => w'.cell? ⟨pd, 0, none⟩ = some (.func (.func 44) #[] #[.pointer (some ⟨pe, 0, none⟩), .pointer (some ⟨pl, 0, none⟩)])) (by kernel_rfl) rfl PD.out (fun _ => ?_)
  refine wpAnyL_load2 (i := 0) (v := .func (.func 44) #[] #[.pointer (some ⟨pe, 0, none⟩), .pointer (some ⟨pl, 0, none⟩)]) (by simp only [List.getElem?_toArray, List.getElem?_cons_zero] <;> rfl) (by kernel_rfl) (by kernel_rfl) (by kernel_rfl) (by exact fun _ _ _ h => h) (by decide) (Waits.one rfl ⟨⟨0, .phase⟩, by simp, rfl, rfl⟩) (by kernel_rfl) (by kernel_rfl) (.inr PD.out) (Or.inl ⟨by rfl, fun w hw => (by have x0 := hw; simp [execOp, go_sem, Act.eval, x0])⟩) (fun _ => ?_)
  simp only [Act.put, List.setIfInBounds_toArray, List.set_cons_zero, List.set_cons_succ]
  refine wpAnyL_pure (i := 1) (v := .int .i64 (an : Int)) (by simp only [List.getElem?_toArray, List.getElem?_cons_zero, List.getElem?_cons_succ] <;> rfl) (by kernel_rfl) (by kernel_rfl) (by kernel_rfl) (by exact fun _ _ _ h => h) (by decide) (.inr PD.out) (Or.inl ⟨by rfl, fun w _ => (by simp [execOp, go_sem, Act.eval])⟩) (fun _ => ?_)
  simp only [Act.put, List.setIfInBounds_toArray, List.set_cons_zero, List.set_cons_succ]
  refine wpAnyL_load2 (i := 3) (v := .func (.func 44) #[] #[.pointer (some ⟨pe, 0, none⟩), .pointer (some ⟨pl, 0, none⟩)]) (by simp only [List.getElem?_toArray, List.getElem?_cons_zero, List.getElem?_cons_succ] <;> rfl) (by kernel_rfl) (by kernel_rfl) (by kernel_rfl) (by exact fun _ _ _ h => h) (by decide) (Waits.one rfl ⟨⟨3, .phase⟩, by simp, rfl, rfl⟩) (by kernel_rfl) (by kernel_rfl) (.inr PD.out) (Or.inl ⟨by rfl, fun w hw => (by have x0 := hw; simp [execOp, go_sem, Act.eval, x0])⟩) (fun _ => ?_)
  simp only [Act.put, List.setIfInBounds_toArray, List.set_cons_zero, List.set_cons_succ]
  refine wpAnyL_pure (i := 4) (v := .int .i64 (bn : Int)) (by simp only [List.getElem?_toArray, List.getElem?_cons_zero, List.getElem?_cons_succ] <;> rfl) (by kernel_rfl) (by kernel_rfl) (by kernel_rfl) (by exact fun _ _ _ h => h) (by decide) (.inr PD.out) (Or.inl ⟨by rfl, fun w _ => (by simp [execOp, go_sem, Act.eval])⟩) (fun _ => ?_)
  simp only [Act.put, List.setIfInBounds_toArray, List.set_cons_zero, List.set_cons_succ]
  refine wpAnyL_one (i := 2) (by kernel_rfl) (by simp only [List.getElem?_toArray, List.getElem?_cons_zero, List.getElem?_cons_succ] <;> rfl) (by rfl) ?_
  refine opwp_call (f := 44) (args := #[.int .i64 (an : Int), .pointer (some ⟨pe, 0, none⟩), .pointer (some ⟨pl, 0, none⟩)]) (w' := w.drew) (by simp [go_sem, Act.eval]) ?_
  refine (HA.out).mono ?_
  rintro e w2 ⟨rfl, hb2⟩
  have hc1_0 := hid ((hb2.cell (cell_lt PD.out)).trans PD.out)
  have hbw2 := HBD.out.trans (hb2.mono HBD.out.size)
  refine .inl ⟨_, rfl, .inr hc1_0.out, ?_⟩
  simp only [Act.put, List.setIfInBounds_toArray, List.set_cons_zero, List.set_cons_succ]
  refine wpAnyL_one (i := 5) (by kernel_rfl) (by simp only [List.getElem?_toArray, List.getElem?_cons_zero, List.getElem?_cons_succ] <;> rfl) (by rfl) ?_
  refine opwp_call (f := 44) (args := #[.int .i64 (bn : Int), .pointer (some ⟨pe, 0, none⟩), .pointer (some ⟨pl, 0, none⟩)]) (w' := w2) (by simp [go_sem, Act.eval]) ?_
  refine (HB.out w2 hbw2).mono ?_
  rintro e w3 ⟨rfl, hb3⟩
  have hc2_0 := hid ((hb3.cell (cell_lt hc1_0.out)).trans hc1_0.out)
  refine .inl ⟨_, rfl, .inr hc2_0.out, ?_⟩
  simp only [Act.put, List.setIfInBounds_toArray, List.set_cons_zero, List.set_cons_succ]
  refine wpAnyL_pure (i := 6) (v := .int .i64 (x - y)) (by simp only [List.getElem?_toArray, List.getElem?_cons_zero, List.getElem?_cons_succ] <;> rfl) (by kernel_rfl) (by kernel_rfl) (by kernel_rfl) (by exact fun _ _ _ h => h) (by decide) (.inr hc2_0.out) (Or.inl ⟨by rfl, fun w _ => (by simp [execOp, go_sem, Act.eval, z1])⟩) (fun _ => ?_)
  simp only [Act.put, List.setIfInBounds_toArray, List.set_cons_zero, List.set_cons_succ]
  refine wpAnyL_one (i := 7) (by kernel_rfl) (by simp only [List.getElem?_toArray, List.getElem?_cons_zero, List.getElem?_cons_succ] <;> rfl) (by rfl) ?_
  refine opwp_value (v := .int .i64 (x - y)) (w' := w3) (by simp [execOp, go_sem, Act.eval]) ⟨.inl (by kernel_rfl), ?_⟩
  simp only [Act.put, List.setIfInBounds_toArray, List.set_cons_zero, List.set_cons_succ]
  refine wpAnyL_done (by kernel_rfl) ?_ _
  have hB := hbw2.trans (hb3.mono hbw2.size)
  go_wp2_with fail
  go_ret
  exact ⟨rfl, hB⟩
theorem lowF_end (g : Gr) (j : Nat) (m : Int) : lowF g j 0 m = m := by cases j <;> simp [lowF]
theorem lowF_step {g : Gr} {j : Nat} {s : VS} {m : Int} (h : s ≠ 0) : lowF g (j + 1) s m = lowF g j (withoutV s (pick (degIn g s) (mems s)).1) (max m (degIn g s (pick (degIn g s) (mems s)).1)) := by rw [lowF, if_neg h]
set_option maxRecDepth 100000 in
set_option maxHeartbeats 8000000 in
theorem Lower_c (v : Value) (L : List VS) (w : World) (hI : SetsAt w v L) (hT : TabAt w) (hL : L.length ≤ 140737488355328) :
    Calls Tryd.prog 15 #[v] w fun e w' => e = .returned (.int .i64 (lowerP L)) ∧ Below w.heap.size w w' := by
  have HI := hid (fun w' (h : Below w.heap.size w w') => hI.below h)
  obtain ⟨p, c, rfl, hdrop⟩ := id hI
  clear hdrop hI
  have hB0 : Below w.heap.size w (w.alloc (.cells #[.slice p L.length c] 22)) := (Below.refl _ w).alloc (Nat.le_refl _) _
  have b0 := Box1.new w 22 (.slice p L.length c)
  have HV := hid (wvalid_c _ L _ (HI.out _ hB0) (hT.below hT.lt hB0) hL)
  have c0 := b0.cell
  go_enter Tryd.func15, Tryd.ntmps15
  go_wp2_with fail
  refine HV.out.mono ?_
  rintro e w2 ⟨rfl, hb2⟩
  have hB2 := hB0.trans (hb2.mono hB0.size)
  have b2 := b0.same (hb2.block _ b0.lt)
  clear c0 b0 hb2 hB0 HV
  cases hv : validG L
  · have HW := hid (show lowerP L = -1 from by unfold lowerP; rw [if_neg (by rw [hv]; simp)])
    clear hv
    go_wp2_with fail
    go_ret
    exact ⟨by rw [HW.out]; rfl, hB2⟩
  · have HVL := hid (validG_iff.1 hv)
    have hle := HVL.out.le
    have c2 := b2.cell
    have HLP := hid (show lowerP L = lowF (gOf L) 129 (allV ((L.length : Int) - 1)) (-1) from by unfold lowerP; rw [if_pos hv])
    clear hv
    go_wp2_with fail
    refine (All_c ((L.length : Int) - 1) w2).mono ?_
    rintro e w4 ⟨rfl, hb4⟩
    have hB4 := hB2.trans (hb4.mono hB2.size)
    have b4 := b2.same (hb4.block _ b2.lt)
    have hla : len (allV ((L.length : Int) - 1)) ≤ 129 := by have := len_allL HVL.out; omega
    have hra : ∀ x, has (allV ((L.length : Int) - 1)) x = true → x < (L.length : Int) := fun x hx => by rw [has_allV] at hx; simp at hx; omega
    generalize allV ((L.length : Int) - 1) = s0 at *
    have hs5 := SetVar.new w4 s0 32
    have hb5 : Below w4.heap.size w4 (w4.alloc (.cells #[.int .u64 ((lw s0).toNat : Int), .int .u64 ((hw s0).toNat : Int)] 32)) := (Below.refl _ w4).alloc (Nat.le_refl _) _
    have hB5 := hB4.trans (hb5.mono hB4.size)
    have b5 := b4.same (hb5.block _ b4.lt)
    have hlt : w.heap.size < w4.heap.size := b4.lt
    have HRA := hid hra
    have HB5 := hid hB5
    have HS5 := hid hs5
    have HBX5 := hid b5
    clear c2 b2 b4 hb4 hB4 hB2 hs5 hb5 hB5 b5 hra
    go_wp2_with fail
    generalize w4.alloc (.cells #[.int .u64 ((lw s0).toNat : Int), .int .u64 ((hw s0).toNat : Int)] 32) = w5 at *
    generalize w4.heap.size = pl at *
    go_loopw [4] (fun mv wr => ∃ (s : VS) (m : Int) (j : Nat), mv = .int .i64 m ∧ Hid (lowerP L = lowF (gOf L) j s m) ∧ Hid (len s ≤ (j : Int)) ∧ (-1 ≤ m ∧ m ≤ 128) ∧ Hid (∀ x, has s x = true → x < (L.length : Int)) ∧ SetVar wr pl s ∧ Box1 wr w.heap.size 22 (.slice p L.length c) ∧ Below w.heap.size w wr) (fun _ wr => lenAt wr pl)
    case atStart => exact ⟨s0, -1, 129, rfl, HLP.out, hla, by omega, HRA.out, HS5.out, HBX5.out, HB5.out⟩
    case round =>
      clear HLP hla HRA HS5 HBX5 HB5
      obtain ⟨s, m, j, rfl, hlp, hlj, hm, hra, hsv, hbx, hBw⟩ := hrel
      have hmeas := lenAt_of hsv
      obtain ⟨n0, n1, _, _⟩ := hsv.cells
      cases hz : (s == 0#128)
      · have hz3 : ¬ s = 0#128 := by simpa using hz
        have hs0 : s ≠ 0 := hz3
        obtain ⟨hp1, hp2⟩ := pick_in (f := degIn (gOf L) s) hs0
        have hlpos := len_without hp1
        have hl0 := len_pos (s := withoutV s (pick (degIn (gOf L) s) (mems s)).1)
        obtain ⟨j', rfl⟩ : ∃ j', j = j' + 1 := ⟨j - 1, by have := hlj.out; omega⟩
        have HST := hid (hlp.out.trans (lowF_step hs0))
        have HLJ := hid (show len (withoutV s (pick (degIn (gOf L) s) (mems s)).1) ≤ (j' : Int) from by have := hlj.out; omega)
        have HRA2 := hid (show ∀ x, has (withoutV s (pick (degIn (gOf L) s) (mems s)).1) x = true → x < (L.length : Int) from fun x hx => by
          rw [has_withoutV, Bool.and_eq_true] at hx; exact hra.out x hx.1)
        have HLS := hid (List_c s wr (hT.below hT.lt hBw))
        have hne := mems_ne hs0
        have hxr := has_range hp1
        have hxl := hra.out _ hp1
        obtain ⟨xn, hxn⟩ : ∃ xn : Nat, (pick (degIn (gOf L) s) (mems s)).1 = (xn : Int) := ⟨((pick (degIn (gOf L) s) (mems s)).1).toNat, by omega⟩
        have HXN := hid hxn
        rw [hxn] at HST HLJ HRA2 hxr hxl hlpos hl0
        have HSV := hid hsv
        have HBX := hid hbx
        have HBW := hid hBw
        have HMEAS := hid hmeas
        have HNE := hid hne
        have hpl := hsv.lt
        clear hp1 hp2 hlp hlj hs0 hz3 hxn hsv hbx hBw hmeas hne
        go_wp2_with fail
        refine HLS.out.mono ?_
        rintro e w6 ⟨v6, rfl, hn6, hb6⟩
        have hi6 := hn6.ints
        obtain ⟨pm, cm, e4, hdrop⟩ := hn6.ints
        subst e4
        have hmlen := mems_length s
        have hb7 : Below w6.heap.size w6 (w6.alloc (.cells #[degV w.heap.size pl] 68)) := (Below.refl _ w6).alloc (Nat.le_refl _) _
        have hb67 := hb6.trans (hb7.mono hb6.size)
        have SV7 := hid (HSV.out.below hb67 HSV.out.lt)
        have BX7 := hid (HBX.out.same (hb67.block _ HBX.out.lt))
        have BW7 := hid (HBW.out.trans (hb67.mono HBW.out.size))
        have D7 := hid (Box1.new w6 68 (degV w.heap.size pl))
        have I7 := hid (hi6.below hb7)
        have hpl6 : pl < w6.heap.size := by have := hb6.size; omega
        clear hdrop hn6 hi6 hb6 hb7 hb67 n0 n1 HLS
        have HMF := hid (minLow_c _ (mems s) (degIn (gOf L) s) w6.heap.size _ I7.out HNE.out (mems_pos s) (by omega) (fun a ha b hb w' hbw => by
          have ra := has_range ((mem_mems _ _).1 ha)
          have rb := has_range ((mem_mems _ _).1 hb)
          have la := hra.out _ ((mem_mems _ _).1 ha)
          have lb := hra.out _ ((mem_mems _ _).1 hb)
          obtain ⟨an, rfl⟩ : ∃ an : Nat, a = (an : Int) := ⟨a.toNat, by omega⟩
          obtain ⟨bn, rfl⟩ : ∃ bn : Nat, b = (bn : Int) := ⟨b.toNat, by omega⟩
          exact low2_c an bn _ L w.heap.size pl w6.heap.size s _ w' (BX7.out.same (hbw.block _ BX7.out.lt)) ((HI.out _ BW7.out).below hbw) (SV7.out.below hbw SV7.out.lt) (D7.out.same (hbw.block _ D7.out.lt)) (by omega) (by omega)))
        rw [HXN.out] at HMF
        go_wp2_with fail
        unfold degV at *
        generalize w6.alloc (.cells #[.func (.func 44) #[] #[.pointer (some ⟨w.heap.size, 0, none⟩), .pointer (some ⟨pl, 0, none⟩)]] 68) = w7 at *
        refine HMF.out.mono ?_
        rintro e w8 ⟨rfl, hb8⟩
        have SV8 := hid (SV7.out.below hb8 SV7.out.lt)
        have BX8 := hid (BX7.out.same (hb8.block _ BX7.out.lt))
        have BW8 := hid (BW7.out.trans (hb8.mono BW7.out.size))
        have d8 := (D7.out.same (hb8.block _ D7.out.lt)).cell
        have HDG := hid (low1_c xn _ L w.heap.size pl s w8 BX8.out (HI.out _ BW8.out) SV8.out (by omega))
        have hd1 : 0 ≤ degIn (gOf L) s (xn : Int) ∧ degIn (gOf L) s (xn : Int) ≤ 128 := ⟨len_pos, len_le _⟩
        generalize degIn (gOf L) s (xn : Int) = dg at *
        clear HMF SV7 BX7 BW7 D7 I7 hb8
        go_wp2_with fail
        refine HDG.out.mono ?_
        rintro e w9 ⟨rfl, hb9⟩
        have SV9 := hid (SV8.out.below hb9 SV8.out.lt)
        have BX9 := hid (BX8.out.same (hb9.block _ BX8.out.lt))
        have BW9 := hid (BW8.out.trans (hb9.mono BW8.out.size))
        clear SV8 BX8 BW8 hb9 d8 HDG
        by_cases hmd : m < dg
        · have hmx : max m dg = dg := by omega
          rw [hmx] at HST
          obtain ⟨n0, n1, _, _⟩ := SV9.out.cells
          have HWO := hid (Without_c s (xn : Int) w9)
          clear hmx
          go_wp2_with fail
          refine HWO.out.mono ?_
          rintro e w10 ⟨rfl, hb10⟩
          have sv10 := SV9.out.below hb10 SV9.out.lt
          obtain ⟨y0, y1, y2, y3⟩ := sv10.cells
          have SV11 := hid (sv10.store (withoutV s (xn : Int)))
          have bx10 := BX9.out.same (hb10.block _ BX9.out.lt)
          have BX11 := hid ((bx10.same (Below.heap_setCell w10 ⟨pl, 0, none⟩ (.int .u64 ((lw (withoutV s (xn : Int))).toNat : Int)) w.heap.size (by show w.heap.size ≠ pl; omega))).same (Below.heap_setCell _ ⟨pl, 1, none⟩ (.int .u64 ((hw (withoutV s (xn : Int))).toNat : Int)) w.heap.size (by show w.heap.size ≠ pl; omega)))
          have BW11 := hid (below_01 (BW9.out.trans (hb10.mono BW9.out.size)) (b := pl) (by omega) (.int .u64 ((lw (withoutV s (xn : Int))).toNat : Int)) (.int .u64 ((hw (withoutV s (xn : Int))).toNat : Int)))
          have hm11 := lenAt_of SV11.out
          have HM11 := hid hm11
          clear n0 n1 sv10 bx10 hb10 HWO hm11
          go_wp2_with fail
          go_roundw
          case rel => exact ⟨withoutV s (xn : Int), dg, j', rfl, HST.out, HLJ.out, by omega, HRA2.out, SV11.out, BX11.out, BW11.out⟩
          case measure => rw [HM11.out, HMEAS.out]; omega
        · have hmx : max m dg = m := by omega
          rw [hmx] at HST
          obtain ⟨n0, n1, _, _⟩ := SV9.out.cells
          have HWO := hid (Without_c s (xn : Int) w9)
          clear hmx
          go_wp2_with fail
          refine HWO.out.mono ?_
          rintro e w10 ⟨rfl, hb10⟩
          have sv10 := SV9.out.below hb10 SV9.out.lt
          obtain ⟨y0, y1, y2, y3⟩ := sv10.cells
          have SV11 := hid (sv10.store (withoutV s (xn : Int)))
          have bx10 := BX9.out.same (hb10.block _ BX9.out.lt)
          have BX11 := hid ((bx10.same (Below.heap_setCell w10 ⟨pl, 0, none⟩ (.int .u64 ((lw (withoutV s (xn : Int))).toNat : Int)) w.heap.size (by show w.heap.size ≠ pl; omega))).same (Below.heap_setCell _ ⟨pl, 1, none⟩ (.int .u64 ((hw (withoutV s (xn : Int))).toNat : Int)) w.heap.size (by show w.heap.size ≠ pl; omega)))
          have BW11 := hid (below_01 (BW9.out.trans (hb10.mono BW9.out.size)) (b := pl) (by omega) (.int .u64 ((lw (withoutV s (xn : Int))).toNat : Int)) (.int .u64 ((hw (withoutV s (xn : Int))).toNat : Int)))
          have hm11 := lenAt_of SV11.out
          have HM11 := hid hm11
          clear n0 n1 sv10 bx10 hb10 HWO hm11
          go_wp2_with fail
          go_roundw
          case rel => exact ⟨withoutV s (xn : Int), m, j', rfl, HST.out, HLJ.out, by omega, HRA2.out, SV11.out, BX11.out, BW11.out⟩
          case measure => rw [HM11.out, HMEAS.out]; omega
      · have hs0 : s = 0 := by simpa using hz
        have HF := hid (show lowerP L = m from by rw [hlp.out, hs0]; exact lowF_end _ _ _)
        clear hs0
        go_wp2_with fail
        go_ret
        exact ⟨by rw [HF.out]; rfl, hBw⟩
end Go.Proofs.YtmlecpapoeodkaaDoor
