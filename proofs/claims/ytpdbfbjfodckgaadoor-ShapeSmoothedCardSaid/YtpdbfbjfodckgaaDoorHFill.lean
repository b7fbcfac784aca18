/- Walks: a conjunction of a node and the choices of the variables that it lacks. -/
import Derived.Test.YtpdbfbjfodckgaaDoorHFillM
namespace Go.Proofs.YtpdbfbjfodckgaaDoor
open Go.RowKit Go.Shelf Go.Maps
attribute [local go_sem] Oper.semAt_some

theorem alloc4 (w : World) (o1 o2 o3 o4 : Obj) : Below w.heap.size w ((((w.alloc o1).alloc o2).alloc o3).alloc o4) ∧ ((((w.alloc o1).alloc o2).alloc o3).alloc o4).heap[w.heap.size]? = some o1 ∧ ((((w.alloc o1).alloc o2).alloc o3).alloc o4).heap[w.heap.size + 1]? = some o2 ∧
    ((((w.alloc o1).alloc o2).alloc o3).alloc o4).heap[w.heap.size + 1 + 1]? = some o3 ∧ ((((w.alloc o1).alloc o2).alloc o3).alloc o4).heap[w.heap.size + 1 + 1 + 1]? = some o4 := by
  have e2 : ((w.alloc o1).alloc o2).heap[w.heap.size + 1]? = some o2 := by rw [← World.size_alloc w o1]; exact heap_alloc_new _ _
  have e3 : (((w.alloc o1).alloc o2).alloc o3).heap[w.heap.size + 1 + 1]? = some o3 := by rw [← World.size_alloc w o1, ← World.size_alloc (w.alloc o1) o2]; exact heap_alloc_new _ _
  have e4 : ((((w.alloc o1).alloc o2).alloc o3).alloc o4).heap[w.heap.size + 1 + 1 + 1]? = some o4 := by rw [← World.size_alloc w o1, ← World.size_alloc (w.alloc o1) o2, ← World.size_alloc ((w.alloc o1).alloc o2) o3]; exact heap_alloc_new _ _
  have e1 : (w.alloc o1).heap[w.heap.size]? = some o1 := heap_alloc_new _ _
  have s1 := World.size_alloc w o1
  have s2 := World.size_alloc (w.alloc o1) o2
  have s3 := World.size_alloc ((w.alloc o1).alloc o2) o3
  refine ⟨((((Below.refl _ w).alloc (Nat.le_refl _) _).alloc (by simp) _).alloc (by simp; omega) _).alloc (by simp; omega) _, ?_, ?_, ?_, e4⟩
  · exact (Below.heap_alloc _ _ _ (by omega)).trans ((Below.heap_alloc _ _ _ (by omega)).trans ((Below.heap_alloc _ _ _ (by omega)).trans e1))
  · exact (Below.heap_alloc _ _ _ (by omega)).trans ((Below.heap_alloc _ _ _ (by omega)).trans e2)
  · exact (Below.heap_alloc _ _ _ (by omega)).trans e3
theorem fillV_bound (l : List Int) : ∀ s : FS, (fillV s l).out.length ≤ s.out.length + 3 * l.length := by
  induction l with
  | nil => exact fun s => Nat.le_refl _
  | cons v l ih =>
    intro s
    have h1 := ih (stepV s v)
    have h2 : (stepV s v).out.length ≤ s.out.length + 3 := by unfold stepV; split <;> simp [choice]
    show (fillV (stepV s v) l).out.length ≤ _
    rw [List.length_cons]; omega
theorem lacking_b (a b : VS) (w : World) :
    Calls Tryd.prog 70 #[encS a, encS b] w fun e w' => e = .returned (.func (.func 80) #[] #[.pointer (some ⟨w.heap.size, 0, none⟩), .pointer (some ⟨w.heap.size + 1, 0, none⟩)]) ∧
      SetVar w' w.heap.size a ∧ SetVar w' (w.heap.size + 1) b ∧ Below w.heap.size w w' :=
  (lacking_c a b w).mono fun e w' h => by
    obtain ⟨h1, rfl⟩ := h
    refine ⟨h1, (SetVar.new w a _).alloc _, ?_, ((Below.refl _ w).alloc (Nat.le_refl _) _).alloc (by simp) _⟩
    have := SetVar.new (w.alloc (.cells #[.int .u64 ((lw a).toNat : Int), .int .u64 ((hw a).toNat : Int)] 42 (0, 0))) b 42
    rwa [World.size_alloc] at this
set_option maxRecDepth 100000 in
set_option maxHeartbeats 8000000 in
theorem filled_c (w : World) (B sb mb gB cB : Nat) (n : Int) (vL vOut vAt : Value) (L out : List NodeT) (vs : List Value) (M : List VS) (A : List Int) (ch : Int → Option Int) (k : Nat) (old : Nat) (all : VS)
    (h : SmAt w B sb mb n vL (.slice (some ⟨gB, 0, none⟩) L.length cB) vOut vAt out vs A ch k) (hk : k ≤ out.length) (hBw : B ≤ w.heap.size) (hN : NodesAt w vL L) (hR : SetRow w gB M) (hML : M.length = L.length) (hT : TabAt w)
    (hol : old < A.length) (hAL : A.length ≤ L.length) (_hLL : L.length ≤ 65536) (hins : ∀ x ∈ (nOf L (old : Int)).ins, 0 ≤ x ∧ x < (A.length : Int)) (hil : (nOf L (old : Int)).ins.length ≤ 65536) (_hgO : vOut.ownBlock ≠ some gB)
    (hlen : (fillO L M A out ch (old : Int) all).out.length ≤ 65536) :
    Calls Tryd.prog 39 #[.pointer (some ⟨sb, 0, none⟩), .int .i64 old, encS all] w (fun e w' => e = .returned (.int .i64 ((fillO L M A out ch (old : Int) all).out.length : Int)) ∧
      (∃ vOut' vs' k', SmAt w' B sb mb n vL (.slice (some ⟨gB, 0, none⟩) L.length cB) vOut' vAt ((fillO L M A out ch (old : Int) all).out ++ [⟨3, 0, (fillO L M A out ch (old : Int) all).inn⟩]) (vs ++ vs') A (fillO L M A out ch (old : Int) all).ch k' ∧ k' ≤ (fillO L M A out ch (old : Int) all).out.length ∧ ∀ u ∈ vs', ∀ j, u.ownBlock = some j → w.heap.size ≤ j) ∧ Fr sb mb w w') := by
  have hob : out.length ≤ 65536 := by
    obtain ⟨tt, htt⟩ := fillO_out L M A out ch (old : Int) all
    rw [htt, List.length_append] at hlen; omega
  obtain ⟨rr, hrr⟩ : ∃ rr, rr = fillO L M A out ch (old : Int) all := ⟨_, rfl⟩
  rw [← hrr] at hlen ⊢
  have HRR := hid hrr
  clear hrr
  have hat : ∀ j, vAt.ownBlock = some j → j < w.heap.size := fun j e => (own_ge h.ats e).2
  have hvs : ∀ u ∈ vs, ∀ j, u.ownBlock = some j → j < w.heap.size := fun u hu j e => (h.outs.in_lt hu e).2.1
  refine (callsIn_wide (n := 5)).1 ?_
  obtain ⟨i0, hi0, hz0, hz1, hz2⟩ := info_parts info_int
  obtain ⟨vAs, ca, eA, hA⟩ := h.ats.ints
  obtain ⟨ga, cA, eA2, _, hal, hac⟩ := h.ats.cells (by omega)
  obtain ⟨pL, cL, rfl, hN0⟩ := hN
  obtain ⟨bL, oL, rfl, hNL⟩ := hN0.resolve_left (by intro e; have := congrArg List.length e; simp only [List.length_nil] at this; omega)
  have hold : old < L.length := by omega
  obtain ⟨un, hun⟩ := hNL old hold
  have HS := hid h
  subst eA2
  clear hA eA
  obtain ⟨s0, s1, s2, s3, s4, s5, s6⟩ := h.box.get
  have hsl := h.box.lt
  obtain ⟨a0, _⟩ := hac old hol
  have hnk := hun.kind
  have hni := hun.ins
  have HUN := hid hun
  have zo : (0 : Int) ≤ (old : Int) ∧ (old : Int) < (A.length : Int) := by omega
  have zl : (0 : Int) ≤ (old : Int) ∧ (old : Int) < (L.length : Int) := by omega
  have HNO := hid (nOf_nat L old hold)
  have HIO := hid (iOf_nat A old hol)
  generalize A[old] = ao at *
  have hbl : bL < w.heap.size := cell_lt hnk
  have hsl1 : sb < w.heap.size + 1 := by omega
  have hsl2 : sb < w.heap.size + 1 + 1 := by omega
  have hsl3 : sb < w.heap.size + 1 + 1 + 1 := by omega
  have hbl1 : bL < w.heap.size + 1 := by omega
  have hbl2 : bL < w.heap.size + 1 + 1 := by omega
  have hbl3 : bL < w.heap.size + 1 + 1 + 1 := by omega
  clear h hun hac hNL hN0
  refine callsIn_of_wp_marks Tryd.func39 rfl trivial ?_ rfl
  simp only [Tryd.ntmps39, List.size_toArray, List.length_cons, List.length_nil, Nat.reduceAdd, Nat.reduceSub, Array.replicate_succ, Array.replicate_zero, List.push_toArray, List.append_toArray, List.nil_append, List.cons_append]
  have hal4 := alloc4 w (.cells #[.pointer (some ⟨sb, 0, none⟩)] 54) (.cells #[.int .u64 ((lw all).toNat : Int), .int .u64 ((hw all).toNat : Int)] 42) (.cells #[.int .i64 ao] 3) (.cells #[.slice (some ⟨w.heap.size + 1 + 1, 0, none⟩) 1 1] 33)
  obtain ⟨hb4, hP4, hA4, hR4, hV4⟩ := hal4
  have HB4 := hid hb4
  have HP4 := hid hP4
  have HA4 := hid (show SetVar _ _ all from ⟨_, hA4⟩)
  have HR4 := hid hR4
  have HV4 := hid hV4
  have HI4 := hid (show OwnInts _ w.heap.size (.slice (some ⟨w.heap.size + 1 + 1, 0, none⟩) 1 1) [ao] from ⟨rfl, .inr ⟨w.heap.size + 1 + 1, 1, _, rfl, by omega, hR4, Nat.le_refl _, by unfold maxLen; omega, rfl, rfl⟩⟩)
  clear hb4 hP4 hA4 hR4 hV4
  have HST : Hid (∀ (kk : Int), L[old].kind = kk → inn0 L A (old : Int) = if kk = 3 then L[old].ins.map (iOf A) else [ao]) := fun kk hkk => by unfold inn0; rw [HNO.out, hkk, HIO.out]
  rw [HNO.out] at hins hil
  have HINS := hid hins
  clear hins
  generalize hxx : L[old] = x at *
  obtain ⟨xk, xl, xi⟩ := x
  obtain ⟨pu, cu, eu, hdrop⟩ := HUN.out.ints
  subst eu
  clear hdrop hxx
  simp only at hnk hni hil
  have HX := hid (show inn0 L A (old : Int) = if xk = 3 then xi.map (iOf A) else [ao] from HST.out xk rfl)
  clear HST
  have hin0 : (inn0 L A (old : Int)).length ≤ 65537 := by
    rw [HX.out]
    split
    · rw [List.length_map]; omega
    · show 1 ≤ _; omega
  by_cases hk3 : xk = 3
  subst hk3
  gi_wp2_with fail
  generalize (((w.alloc (.cells #[.pointer (some ⟨sb, 0, none⟩)] 54)).alloc (.cells #[.int .u64 ((lw all).toNat : Int), .int .u64 ((hw all).toNat : Int)] 42)).alloc (.cells #[.int .i64 ao] 3)).alloc (.cells #[.slice (some ⟨w.heap.size + 1 + 1, 0, none⟩) 1 1] 33) = w4 at *
  refine wpIn_wide.2 (wp_PN ?_)
  have HS4 := hid (HS.out.below HB4.out)
  have HU4 := hid (HUN.out.below HB4.out)
  have CP : Hid (w4.drew.cell? ⟨w.heap.size, 0, none⟩ = some (.pointer (some ⟨sb, 0, none⟩))) := by show w4.cell? _ = _; simp [World.cell?, HP4.out]
  have CL : Hid (w4.drew.cell? ⟨sb, 1, none⟩ = some (.slice (some ⟨bL, oL, none⟩) L.length cL)) := HS4.out.box.get.2.1
  have CI : Hid (w4.drew.cell? ⟨bL, oL + old * 3 + 2, none⟩ = some (.slice pu xi.length cu)) := HU4.out.ins
  refine Go.Proofs.YtpdbfbjfodckgaaDoor.wp_region_L 12 10 (fun w' => w'.cell? ⟨w.heap.size, 0, none⟩ = some (.pointer (some ⟨sb, 0, none⟩)) ∧ w'.cell? ⟨sb, 1, none⟩ = some (.slice (some ⟨bL, oL, none⟩) L.length cL) ∧ w'.cell? ⟨bL, oL + old * 3 + 2, none⟩ = some (.slice pu xi.length cu)) (by kernel_rfl) rfl ⟨CP.out, CL.out, CI.out⟩ (fun _ => ?_)
  refine wpAnyL_load2 (i := 0) (v := .pointer (some ⟨sb, 0, none⟩)) (by simp only [List.getElem?_toArray, List.getElem?_cons_zero] <;> rfl) (by kernel_rfl) (by kernel_rfl) (by kernel_rfl) (by exact fun _ _ _ h => h) (by decide) (Waits.one rfl ⟨⟨0, .data⟩, by simp, rfl, rfl⟩) (by kernel_rfl) (by kernel_rfl) (.inr ⟨CP.out, CL.out, CI.out⟩) (Or.inl ⟨by rfl, fun w hw => (by obtain ⟨x0, _, _⟩ := hw; simp [execOp, go_sem, Act.eval, x0])⟩) (fun _ => ?_)
  simp only [Act.put, List.setIfInBounds_toArray, List.set_cons_zero, List.set_cons_succ]
  refine wpAnyL_load2 (i := 1) (v := .pointer (some ⟨sb, 0, none⟩)) (by simp only [List.getElem?_toArray, List.getElem?_cons_zero, List.getElem?_cons_succ] <;> rfl) (by kernel_rfl) (by kernel_rfl) (by kernel_rfl) (by exact fun _ _ _ h => h) (by decide) (Waits.more (j := 9) rfl ⟨⟨9, .data⟩, by simp, rfl, rfl⟩ (Waits.more (j := 8) rfl ⟨⟨8, .data⟩, by simp, rfl, rfl⟩ (Waits.more (j := 7) rfl ⟨⟨7, .data⟩, by simp, rfl, rfl⟩ (Waits.more (j := 5) rfl ⟨⟨5, .data⟩, by simp, rfl, rfl⟩ (Waits.more (j := 4) rfl ⟨⟨4, .data⟩, by simp, rfl, rfl⟩ (Waits.more (j := 3) rfl ⟨⟨3, .data⟩, by simp, rfl, rfl⟩ (Waits.more (j := 2) rfl ⟨⟨2, .data⟩, by simp, rfl, rfl⟩ (Waits.one rfl ⟨⟨1, .data⟩, by simp, rfl, rfl⟩)))))))) (by kernel_rfl) (by kernel_rfl) (.inr ⟨CP.out, CL.out, CI.out⟩) (Or.inl ⟨by rfl, fun w hw => (by obtain ⟨x0, _, _⟩ := hw; simp [execOp, go_sem, Act.eval, x0])⟩) (fun _ => ?_)
  simp only [Act.put, List.setIfInBounds_toArray, List.set_cons_zero, List.set_cons_succ]
  refine wpAnyL_pure (i := 2) (v := .pointer (some ⟨sb, 0, none⟩)) (by simp only [List.getElem?_toArray, List.getElem?_cons_zero, List.getElem?_cons_succ] <;> rfl) (by kernel_rfl) (by kernel_rfl) (by kernel_rfl) (by exact fun _ _ _ h => h) (by decide) (.inr ⟨CP.out, CL.out, CI.out⟩) (Or.inl ⟨by rfl, fun w _ => (by simp [execOp, go_sem, Act.eval])⟩) (fun _ => ?_)
  simp only [Act.put, List.setIfInBounds_toArray, List.set_cons_zero, List.set_cons_succ]
  refine wpAnyL_pure (i := 3) (v := .pointer (some ⟨sb, 0, none⟩)) (by simp only [List.getElem?_toArray, List.getElem?_cons_zero, List.getElem?_cons_succ] <;> rfl) (by kernel_rfl) (by kernel_rfl) (by kernel_rfl) (by exact fun _ _ _ h => h) (by decide) (.inr ⟨CP.out, CL.out, CI.out⟩) (Or.inl ⟨by rfl, fun w _ => (by simp [execOp, go_sem, Act.eval])⟩) (fun _ => ?_)
  simp only [Act.put, List.setIfInBounds_toArray, List.set_cons_zero, List.set_cons_succ]
  refine wpAnyL_pure (i := 4) (v := .pointer (some ⟨sb, 1, none⟩)) (by simp only [List.getElem?_toArray, List.getElem?_cons_zero, List.getElem?_cons_succ] <;> rfl) (by kernel_rfl) (by kernel_rfl) (by kernel_rfl) (by exact fun _ _ _ h => h) (by decide) (.inr ⟨CP.out, CL.out, CI.out⟩) (Or.inl ⟨by rfl, fun w _ => (by simp [execOp, go_sem, Act.eval])⟩) (fun _ => ?_)
  simp only [Act.put, List.setIfInBounds_toArray, List.set_cons_zero, List.set_cons_succ]
  refine wpAnyL_load2 (i := 5) (v := .slice (some ⟨bL, oL, none⟩) L.length cL) (by simp only [List.getElem?_toArray, List.getElem?_cons_zero, List.getElem?_cons_succ] <;> rfl) (by kernel_rfl) (by kernel_rfl) (by kernel_rfl) (by exact fun _ _ _ h => h) (by decide) (Waits.more (j := 9) rfl ⟨⟨9, .data⟩, by simp, rfl, rfl⟩ (Waits.more (j := 8) rfl ⟨⟨8, .data⟩, by simp, rfl, rfl⟩ (Waits.more (j := 7) rfl ⟨⟨7, .data⟩, by simp, rfl, rfl⟩ (Waits.one rfl ⟨⟨5, .data⟩, by simp, rfl, rfl⟩)))) (by kernel_rfl) (by kernel_rfl) (.inr ⟨CP.out, CL.out, CI.out⟩) (Or.inl ⟨by rfl, fun w hw => (by obtain ⟨_, x1, _⟩ := hw; simp [execOp, go_sem, Act.eval, x1])⟩) (fun _ => ?_)
  simp only [Act.put, List.setIfInBounds_toArray, List.set_cons_zero, List.set_cons_succ]
  refine wpAnyL_pure (i := 6) (v := .int .i64 (old : Int)) (by simp only [List.getElem?_toArray, List.getElem?_cons_zero, List.getElem?_cons_succ] <;> rfl) (by kernel_rfl) (by kernel_rfl) (by kernel_rfl) (by exact fun _ _ _ h => h) (by decide) (.inr ⟨CP.out, CL.out, CI.out⟩) (Or.inl ⟨by rfl, fun w _ => (by simp [execOp, go_sem, Act.eval])⟩) (fun _ => ?_)
  simp only [Act.put, List.setIfInBounds_toArray, List.set_cons_zero, List.set_cons_succ]
  refine wpAnyL_pure (i := 7) (v := .pointer (some ⟨bL, oL + old * 3, none⟩)) (by simp only [List.getElem?_toArray, List.getElem?_cons_zero, List.getElem?_cons_succ] <;> rfl) (by kernel_rfl) (by kernel_rfl) (by kernel_rfl) (by exact fun _ _ _ h => h) (by decide) (.inr ⟨CP.out, CL.out, CI.out⟩) (Or.inl ⟨by rfl, fun w _ => (by simp [execOp, go_sem, Act.eval, zl])⟩) (fun _ => ?_)
  simp only [Act.put, List.setIfInBounds_toArray, List.set_cons_zero, List.set_cons_succ]
  refine wpAnyL_pure (i := 8) (v := .pointer (some ⟨bL, oL + old * 3 + 2, none⟩)) (by simp only [List.getElem?_toArray, List.getElem?_cons_zero, List.getElem?_cons_succ] <;> rfl) (by kernel_rfl) (by kernel_rfl) (by kernel_rfl) (by exact fun _ _ _ h => h) (by decide) (.inr ⟨CP.out, CL.out, CI.out⟩) (Or.inl ⟨by rfl, fun w _ => (by simp [execOp, go_sem, Act.eval])⟩) (fun _ => ?_)
  simp only [Act.put, List.setIfInBounds_toArray, List.set_cons_zero, List.set_cons_succ]
  refine wpAnyL_load2 (i := 9) (v := .slice pu xi.length cu) (by simp only [List.getElem?_toArray, List.getElem?_cons_zero, List.getElem?_cons_succ] <;> rfl) (by kernel_rfl) (by kernel_rfl) (by kernel_rfl) (by exact fun _ _ _ h => h) (by decide) (Waits.one rfl ⟨⟨9, .data⟩, by simp, rfl, rfl⟩) (by kernel_rfl) (by kernel_rfl) (.inr ⟨CP.out, CL.out, CI.out⟩) (Or.inl ⟨by rfl, fun w hw => (by obtain ⟨_, _, x2⟩ := hw; simp [execOp, go_sem, Act.eval, x2])⟩) (fun _ => ?_)
  simp only [Act.put, List.setIfInBounds_toArray, List.set_cons_zero, List.set_cons_succ]
  refine wpAnyL_one (i := 10) (by kernel_rfl) (by simp only [List.getElem?_toArray, List.getElem?_cons_zero, List.getElem?_cons_succ] <;> rfl) (by rfl) ?_
  refine opwp_call (f := 38) (args := #[.pointer (some ⟨sb, 0, none⟩), .slice pu xi.length cu]) (w' := w4.drew) (by simp [go_sem, Act.eval]) ?_
  refine (moved_c w4.drew sb mb n _ _ vOut _ _ A xi HS4.out.box HS4.out.ats.ints HU4.out.ints HINS.out hil).mono ?_
  rintro e w6 ⟨gm, rfl, hgm, hom, hb6⟩
  refine .inl ⟨_, rfl, .inl (by kernel_rfl), ?_⟩
  simp only [Act.put, List.setIfInBounds_toArray, List.set_cons_zero, List.set_cons_succ]
  have hv6 : w6.heap[w.heap.size + 1 + 1 + 1]? = some (.cells #[.slice (some ⟨w.heap.size + 1 + 1, 0, none⟩) 1 1] 33 (0, 0)) := (hb6.block _ (Array.getElem?_eq_some_iff.1 HV4.out).1).trans HV4.out
  have y7 : w6.cell? ⟨w.heap.size + 1 + 1 + 1, 0, none⟩ = some (.slice (some ⟨w.heap.size + 1 + 1, 0, none⟩) 1 1) := by simp [World.cell?, hv6]
  have f7 : w6.frozen? ⟨w.heap.size + 1 + 1 + 1, 0, none⟩ = false := by simp [World.frozen?, hv6]
  refine wpAnyL_one (i := 11) (by kernel_rfl) (by simp only [List.getElem?_toArray, List.getElem?_cons_zero, List.getElem?_cons_succ] <;> rfl) (by rfl) ?_
  refine opwp_skip (w' := (w6.setCell ⟨w.heap.size + 1 + 1 + 1, 0, none⟩ (.slice (some ⟨gm, 0, none⟩) xi.length xi.length))) (by simp [execOp, go_sem, Act.eval, y7, f7]) ⟨.inl (by kernel_rfl), ?_⟩
  simp only [Act.put]
  refine wpAnyL_done (by kernel_rfl) ?_ _
  refine PN_normal ?_
  have hb46 : Below w.heap.size w w6 := HB4.out.drew.trans (hb6.mono HB4.out.size)
  have HB5 := hid (hb46.setCell (p := ⟨w.heap.size + 1 + 1 + 1, 0, none⟩) (by show w.heap.size ≤ w.heap.size + 1 + 1 + 1; omega) (.slice (some ⟨gm, 0, none⟩) xi.length xi.length))
  have lib4 := (Array.getElem?_eq_some_iff.1 HV4.out).1
  have HV5 := hid (show (w6.setCell ⟨w.heap.size + 1 + 1 + 1, 0, none⟩ (.slice (some ⟨gm, 0, none⟩) xi.length xi.length)).heap[w.heap.size + 1 + 1 + 1]? = some (.cells #[.slice (some ⟨gm, 0, none⟩) xi.length xi.length] 33 (0, 0)) from by simp [World.setCell, Array.getElem?_modify, hv6])
  have HP5 := hid (show (w6.setCell ⟨w.heap.size + 1 + 1 + 1, 0, none⟩ (.slice (some ⟨gm, 0, none⟩) xi.length xi.length)).heap[w.heap.size]? = some (.cells #[.pointer (some ⟨sb, 0, none⟩)] 54 (0, 0)) from by
    rw [Below.heap_setCell _ _ _ _ (by show w.heap.size ≠ w.heap.size + 1 + 1 + 1; omega)]
    exact (hb6.block _ (show w.heap.size < w4.heap.size by omega)).trans HP4.out)
  have HA5 := hid (((show SetVar w6 (w.heap.size + 1) all from SetVar.below (w := w4.drew) HA4.out hb6 HA4.out.lt).other (a := ⟨w.heap.size + 1 + 1 + 1, 0, none⟩) (by show w.heap.size + 1 ≠ w.heap.size + 1 + 1 + 1; omega) (.slice (some ⟨gm, 0, none⟩) xi.length xi.length)))
  have HI5 := hid (show OwnInts (w6.setCell ⟨w.heap.size + 1 + 1 + 1, 0, none⟩ (.slice (some ⟨gm, 0, none⟩) xi.length xi.length)) w.heap.size (.slice (some ⟨gm, 0, none⟩) xi.length xi.length) (inn0 L A (old : Int)) from by
    rw [HX.out, if_pos trivial]
    have h1 : OwnInts w6 w.heap.size (.slice (some ⟨gm, 0, none⟩) xi.length xi.length) (xi.map (iOf A)) := own_lower hom (show w.heap.size ≤ w4.heap.size by omega)
    refine own_same h1 fun j e => Below.heap_setCell _ _ _ _ (fun e2 => ?_)
    subst e2
    obtain ⟨cs, h⟩ := own_type h1 e
    rw [hv6] at h; injection h with h; injection h with _ e _; cases e)
  generalize w6.setCell ⟨w.heap.size + 1 + 1 + 1, 0, none⟩ (.slice (some ⟨gm, 0, none⟩) xi.length xi.length) = w5 at *
  generalize (Value.slice (some ⟨gm, 0, none⟩) xi.length xi.length) = vi5 at HV5 HI5
  clear hb46 lib4 hv6 y7 f7 hgm hom hb6 HS4 HU4 CP CL CI HB4 HP4 HA4 HR4 HV4 HI4 s0 s1 s2 s3 s4 s5 s6 a0 hnk hni
  gi_wp2_with fail
  rotate_left
  gi_wp2_with fail
  have HP5 := HP4
  have HA5 := HA4
  have HV5 := HV4
  have HB5 := HB4
  have HI5 := hid (show OwnInts ((((w.alloc (.cells #[.pointer (some ⟨sb, 0, none⟩)] 54)).alloc (.cells #[.int .u64 ((lw all).toNat : Int), .int .u64 ((hw all).toNat : Int)] 42)).alloc (.cells #[.int .i64 ao] 3)).alloc (.cells #[.slice (some ⟨w.heap.size + 1 + 1, 0, none⟩) 1 1] 33)) w.heap.size (.slice (some ⟨w.heap.size + 1 + 1, 0, none⟩) 1 1) (inn0 L A (old : Int)) from by rw [HX.out, if_neg hk3]; exact HI4.out)
  generalize (((w.alloc (.cells #[.pointer (some ⟨sb, 0, none⟩)] 54)).alloc (.cells #[.int .u64 ((lw all).toNat : Int), .int .u64 ((hw all).toNat : Int)] 42)).alloc (.cells #[.int .i64 ao] 3)).alloc (.cells #[.slice (some ⟨w.heap.size + 1 + 1, 0, none⟩) 1 1] 33) = w5 at *
  generalize (Value.slice (some ⟨w.heap.size + 1 + 1, 0, none⟩) 1 1) = vi5 at HV5 HI5
  clear HB4 HP4 HA4 HR4 HV4 HI4 s0 s1 s2 s3 s4 s5 s6 a0 hnk hni
  all_goals
    refine wpIn_wide.2 (wp_PN ?_)
    have HS5 := hid (HS.out.below HB5.out)
    obtain ⟨t, ht, y0, y1, _, _⟩ := (hR.below HB5.out hR.lt).getS old (by omega)
    have HTT := hid ht
    have CP : Hid (w5.drew.cell? ⟨w.heap.size, 0, none⟩ = some (.pointer (some ⟨sb, 0, none⟩))) := by show w5.cell? _ = _; simp [World.cell?, HP5.out]
    have CB : Hid (w5.drew.cell? ⟨sb, 2, none⟩ = some (.slice (some ⟨gB, 0, none⟩) L.length cB)) := HS5.out.box.get.2.2.1
    have CT : Hid (w5.drew.cell? ⟨gB, old * 2, none⟩ = some (.int .u64 ((lw t).toNat : Int)) ∧ w5.drew.cell? ⟨gB, old * 2 + 1, none⟩ = some (.int .u64 ((hw t).toNat : Int))) := ⟨y0, y1⟩
    have CA : Hid (SetVar w5.drew (w.heap.size + 1) all) := HA5.out
    clear ht y0 y1
    refine Go.Proofs.YtpdbfbjfodckgaaDoor.wp_region_L 9 8 (fun w' => SetVar w' (w.heap.size + 1) (all) ∧ w'.cell? ⟨w.heap.size, 0, none⟩ = some (.pointer (some ⟨sb, 0, none⟩)) ∧ w'.cell? ⟨sb, 2, none⟩ = some (.slice (some ⟨gB, 0, none⟩) L.length cB) ∧ (w'.cell? ⟨gB, old * 2, none⟩ = some (.int .u64 ((lw (t)).toNat : Int)) ∧ w'.cell? ⟨gB, old * 2 + 1, none⟩ = some (.int .u64 ((hw (t)).toNat : Int)))) (by kernel_rfl) rfl ⟨CA.out, CP.out, CB.out, CT.out⟩ (fun _ => ?_)
    refine wpAnyL_load2 (i := 0) (v := encS all) (by simp only [List.getElem?_toArray, List.getElem?_cons_zero] <;> rfl) (by kernel_rfl) (by kernel_rfl) (by kernel_rfl) (by exact fun _ _ _ h => h) (by decide) (Waits.one rfl ⟨⟨0, .data⟩, by simp, rfl, rfl⟩) (by kernel_rfl) (by kernel_rfl) (.inr ⟨CA.out, CP.out, CB.out, CT.out⟩) (Or.inl ⟨by rfl, fun w hw => (by obtain ⟨x0, _, _, _⟩ := hw; simp [execOp, go_sem, Act.eval, x0.cells.1, x0.cells.2.1])⟩) (fun _ => ?_)
    simp only [Act.put, List.setIfInBounds_toArray, List.set_cons_zero, List.set_cons_succ]
    refine wpAnyL_load2 (i := 1) (v := .pointer (some ⟨sb, 0, none⟩)) (by simp only [List.getElem?_toArray, List.getElem?_cons_zero, List.getElem?_cons_succ] <;> rfl) (by kernel_rfl) (by kernel_rfl) (by kernel_rfl) (by exact fun _ _ _ h => h) (by decide) (Waits.more (j := 7) rfl ⟨⟨7, .data⟩, by simp, rfl, rfl⟩ (Waits.more (j := 6) rfl ⟨⟨6, .data⟩, by simp, rfl, rfl⟩ (Waits.more (j := 4) rfl ⟨⟨4, .data⟩, by simp, rfl, rfl⟩ (Waits.more (j := 3) rfl ⟨⟨3, .data⟩, by simp, rfl, rfl⟩ (Waits.more (j := 2) rfl ⟨⟨2, .data⟩, by simp, rfl, rfl⟩ (Waits.one rfl ⟨⟨1, .data⟩, by simp, rfl, rfl⟩)))))) (by kernel_rfl) (by kernel_rfl) (.inr ⟨CA.out, CP.out, CB.out, CT.out⟩) (Or.inl ⟨by rfl, fun w hw => (by obtain ⟨_, x1, _, _⟩ := hw; simp [execOp, go_sem, Act.eval, x1])⟩) (fun _ => ?_)
    simp only [Act.put, List.setIfInBounds_toArray, List.set_cons_zero, List.set_cons_succ]
    refine wpAnyL_pure (i := 2) (v := .pointer (some ⟨sb, 0, none⟩)) (by simp only [List.getElem?_toArray, List.getElem?_cons_zero, List.getElem?_cons_succ] <;> rfl) (by kernel_rfl) (by kernel_rfl) (by kernel_rfl) (by exact fun _ _ _ h => h) (by decide) (.inr ⟨CA.out, CP.out, CB.out, CT.out⟩) (Or.inl ⟨by rfl, fun w _ => (by simp [execOp, go_sem, Act.eval])⟩) (fun _ => ?_)
    simp only [Act.put, List.setIfInBounds_toArray, List.set_cons_zero, List.set_cons_succ]
    refine wpAnyL_pure (i := 3) (v := .pointer (some ⟨sb, 2, none⟩)) (by simp only [List.getElem?_toArray, List.getElem?_cons_zero, List.getElem?_cons_succ] <;> rfl) (by kernel_rfl) (by kernel_rfl) (by kernel_rfl) (by exact fun _ _ _ h => h) (by decide) (.inr ⟨CA.out, CP.out, CB.out, CT.out⟩) (Or.inl ⟨by rfl, fun w _ => (by simp [execOp, go_sem, Act.eval])⟩) (fun _ => ?_)
    simp only [Act.put, List.setIfInBounds_toArray, List.set_cons_zero, List.set_cons_succ]
    refine wpAnyL_load2 (i := 4) (v := .slice (some ⟨gB, 0, none⟩) L.length cB) (by simp only [List.getElem?_toArray, List.getElem?_cons_zero, List.getElem?_cons_succ] <;> rfl) (by kernel_rfl) (by kernel_rfl) (by kernel_rfl) (by exact fun _ _ _ h => h) (by decide) (Waits.more (j := 7) rfl ⟨⟨7, .data⟩, by simp, rfl, rfl⟩ (Waits.more (j := 6) rfl ⟨⟨6, .data⟩, by simp, rfl, rfl⟩ (Waits.one rfl ⟨⟨4, .data⟩, by simp, rfl, rfl⟩))) (by kernel_rfl) (by kernel_rfl) (.inr ⟨CA.out, CP.out, CB.out, CT.out⟩) (Or.inl ⟨by rfl, fun w hw => (by obtain ⟨_, _, x2, _⟩ := hw; simp [execOp, go_sem, Act.eval, x2])⟩) (fun _ => ?_)
    simp only [Act.put, List.setIfInBounds_toArray, List.set_cons_zero, List.set_cons_succ]
    refine wpAnyL_pure (i := 5) (v := .int .i64 (old : Int)) (by simp only [List.getElem?_toArray, List.getElem?_cons_zero, List.getElem?_cons_succ] <;> rfl) (by kernel_rfl) (by kernel_rfl) (by kernel_rfl) (by exact fun _ _ _ h => h) (by decide) (.inr ⟨CA.out, CP.out, CB.out, CT.out⟩) (Or.inl ⟨by rfl, fun w _ => (by simp [execOp, go_sem, Act.eval])⟩) (fun _ => ?_)
    simp only [Act.put, List.setIfInBounds_toArray, List.set_cons_zero, List.set_cons_succ]
    refine wpAnyL_pure (i := 6) (v := .pointer (some ⟨gB, old * 2, none⟩)) (by simp only [List.getElem?_toArray, List.getElem?_cons_zero, List.getElem?_cons_succ] <;> rfl) (by kernel_rfl) (by kernel_rfl) (by kernel_rfl) (by exact fun _ _ _ h => h) (by decide) (.inr ⟨CA.out, CP.out, CB.out, CT.out⟩) (Or.inl ⟨by rfl, fun w _ => (by simp [execOp, go_sem, Act.eval, zl])⟩) (fun _ => ?_)
    simp only [Act.put, List.setIfInBounds_toArray, List.set_cons_zero, List.set_cons_succ]
    refine wpAnyL_load2 (i := 7) (v := encS (t)) (by simp only [List.getElem?_toArray, List.getElem?_cons_zero, List.getElem?_cons_succ] <;> rfl) (by kernel_rfl) (by kernel_rfl) (by kernel_rfl) (by exact fun _ _ _ h => h) (by decide) (Waits.one rfl ⟨⟨7, .data⟩, by simp, rfl, rfl⟩) (by kernel_rfl) (by kernel_rfl) (.inr ⟨CA.out, CP.out, CB.out, CT.out⟩) (Or.inl ⟨by rfl, fun w hw => (by obtain ⟨_, _, _, ⟨y3, z3⟩⟩ := hw; simp [execOp, go_sem, Act.eval, y3, z3])⟩) (fun _ => ?_)
    simp only [Act.put, List.setIfInBounds_toArray, List.set_cons_zero, List.set_cons_succ]
    refine wpAnyL_one (i := 8) (by kernel_rfl) (by simp only [List.getElem?_toArray, List.getElem?_cons_zero, List.getElem?_cons_succ] <;> rfl) (by rfl) ?_
    refine opwp_call (f := 70) (args := #[encS all, encS (t)]) (w' := w5.drew) (by simp [go_sem, Act.eval]) ?_
    refine (lacking_b all t w5.drew).mono ?_
    rintro e w7 ⟨rfl, hsa, hsb, hb7⟩
    refine .inl ⟨_, rfl, .inl (by kernel_rfl), ?_⟩
    simp only [Act.put, List.setIfInBounds_toArray, List.set_cons_zero, List.set_cons_succ]
    refine wpAnyL_done (by kernel_rfl) ?_ _
    refine PN_normal ?_
    gi_wp2_with fail
    have hb57 : Below w.heap.size w w7 := HB5.out.drew.trans (hb7.mono HB5.out.size)
    have hbd : Below w5.heap.size w5 w7 := (Below.refl _ w5).drew.trans hb7
    have hV7 : w7.heap[w.heap.size + 1 + 1 + 1]? = some (.cells #[vi5] 33 (0, 0)) := (hbd.block _ (Array.getElem?_eq_some_iff.1 HV5.out).1).trans HV5.out
    have hri : rowI w7 (w.heap.size + 1 + 1 + 1) = vi5.ownBlock := by unfold rowI; simp [World.cell?, hV7]
    have hi7 := HI5.out.below hbd
    have HS7 := hid (HS5.out.below hbd)
    have hmb := HS7.out.map.lt
    refine wpIn_rangeFunc_ownG rfl (by omega) (gf := 80) (lb := #[.pointer (some ⟨w5.heap.size, 0, none⟩), .pointer (some ⟨w5.heap.size + 1, 0, none⟩)]) rfl trivial (enters_of Tryd.func80 (by kernel_rfl) rfl)
      (lacking_stops 4 (by omega) w5.heap.size (w5.heap.size + 1) (w.heap.size + 1 + 1 + 1) all t w7 hsa hsb (hT.below hT.lt hb57) (Array.getElem?_eq_some_iff.1 hV7).1 (fun r e => (own_ge hi7 (by rw [← hri]; exact e)).2)) (fun h k => h.trans k) (KeepI.book (Array.getElem?_eq_some_iff.1 hV7).1) (Below.refl _ _) (fun _ => rfl)
      (fun pre W => FillI w W B sb mb w.heap.size (w.heap.size + 1 + 1 + 1) n (.slice (some ⟨bL, oL, none⟩) L.length cL) (.slice (some ⟨gB, 0, none⟩) L.length cB) (.slice (some ⟨ga, 0, none⟩) A.length cA) vs A (fillV ⟨out, ch, inn0 L A (old : Int)⟩ (pre.map Subtype.val)))
      (fun _ _ _ => False)
      (FillI.own hmb hb57.size)
      (fun _ _ _ _ _ hs _ _ => hs)
      ⟨vOut, [], vi5, k, by rw [List.append_nil]; exact HS7.out, hk, by simp, by simp, hV7, hi7, (hbd.block _ (Array.getElem?_eq_some_iff.1 HP5.out).1).trans HP5.out, Fr.of_below hb57 HS.out.box.lt⟩
      ?_ ?_ ?_ ?_ ?_
    rotate_left
    · intro l x W K hK
      gi_wp2
      exact hK
    · rintro l pre ⟨xv, hx1, hx2⟩ W ⟨vO, vs1, vi, kk, S1, K1, G1, V1, IB, OI, PB, FR⟩ hlt
      have hbo := fillV_bound (pre.map Subtype.val) ⟨out, ch, inn0 L A (old : Int)⟩
      have hbi := fillV_inn (pre.map Subtype.val) ⟨out, ch, inn0 L A (old : Int)⟩
      have hsn := fillV_snoc ⟨out, ch, inn0 L A (old : Int)⟩ (pre.map Subtype.val) xv
      rw [List.length_map] at hbo hbi
      refine wpIn_mono ?_ (FillRnd.post (s := stepV (fillV ⟨out, ch, inn0 L A (old : Int)⟩ (pre.map Subtype.val)) xv) (by show fillV _ ((pre ++ [(⟨xv, hx1, hx2⟩ : VarI)]).map Subtype.val) = _; rw [List.map_append, List.map_singleton]; exact hsn))
      obtain ⟨sf, hsf⟩ : ∃ sf, sf = fillV ⟨out, ch, inn0 L A (old : Int)⟩ (pre.map Subtype.val) := ⟨_, rfl⟩
      rw [← hsf] at S1 K1 OI hbo hbi ⊢
      clear hsf hsn
      have hsl2 : sf.out.length ≤ 70000 := by
        have : sf.out.length ≤ out.length + 3 * pre.length := hbo
        omega
      have hil2 : sf.inn.length ≤ 70000 := by
        have : sf.inn.length = (inn0 L A (old : Int)).length + pre.length := hbi
        omega
      obtain ⟨pb1, _⟩ := ptr_cell PB
      have c6 := S1.box.get.2.2.2.2.2.2
      obtain ⟨D, hown, hDm, hAg⟩ := S1.map
      obtain ⟨g1, g2⟩ := hAg xv
      have hwf : (Lit.int .i64 xv).wf = true := WalkArith.wf_i64 (by omega)
      have HOWN := hid hown
      obtain ⟨pv, cv, rfl, hdrop⟩ := OI.ints
      obtain ⟨ib1, ib2⟩ := ptr_cell IB
      have HIB := hid IB
      have HPB := hid PB
      have hBW : B ≤ W.heap.size := Nat.le_trans hBw FR.size
      have hsW : w.heap.size ≤ W.heap.size := FR.size
      have hmb7 : mb < w7.heap.size := hmb
      clear hown hbo hbi hAg hdrop IB PB
      cases hch : sf.ch xv with
      | some c0 =>
        have hh : Maps.has D (.int .i64 xv) = true := by rw [g1, hch]; rfl
        have hc0 := g2 c0 hch
        have HSV := hid (show stepV sf xv = ⟨sf.out, sf.ch, sf.inn ++ [c0]⟩ from by unfold stepV; rw [hch])
        clear g1 g2 hch
        gi_wp2_with (first | (gi_at_lookup; refine wpListIn_lookup_own_ok_int _ rfl _ _ 55 rfl 3 3 .i64 law_int Tryd.underlying55 Tryd.underlying3 (zero_int _) mb kk D rfl HOWN.out _ _ rfl (keyOf_int_mk Tryd.underlying3 hwf) ?_; intro c hat hwc; rw [hc0] at hat; injection hat with hat; injection hat with _ hat; subst hat) | (gi_at_builtin; refine wpListIn_append_own_at _ rfl _ _ 33 rfl w.heap.size 3 i0 (.int .i64 0) 1 8 Tryd.underlying33 hi0 hz0 hz1 hz2 rfl (by decide) _ _ _ rfl (OI.alloc _) ⟨W.heap.size, 0, none⟩ 1 1 [.int .i64 c0] rfl rfl (cell_one_new _ _ _) (by simp [Value.oneCell']) (by unfold maxLen; omega) (by omega) (by rw [World.size_alloc]; omega) ?_; intro v' w8 hown' hgrow hnil hloc; obtain ⟨g', cap', rfl⟩ := ownsRow_succ hown'; obtain ⟨k1, k2⟩ := fill_cell HIB.out OI hgrow))
        rw [HSV.out]
        have hloc2 : (Value.slice (some ⟨g', 0, none⟩) (sf.inn.length + 1) cap').ownBlock = none ∨ (Value.slice (some ⟨g', 0, none⟩) (sf.inn.length + 1) cap').ownBlock = (Value.slice pv sf.inn.length cv).ownBlock ∨ (Value.slice (some ⟨g', 0, none⟩) (sf.inn.length + 1) cap').ownBlock = some (W.alloc (.cells #[.int .i64 c0] 3)).heap.size := .inr hloc
        obtain ⟨q1, q2, q3, q4⟩ := fill_put S1 K1 G1 V1 HIB.out OI HPB.out FR hvs hat (show w.heap.size ≤ w.heap.size + 1 + 1 + 1 by omega) (own_snoc hown') hgrow hloc2
        obtain ⟨r1, r2⟩ := fill_keeps S1 (Fr.refl sb mb W) HIB.out OI hmb7 q2 q3 q4 (loc_of rfl hloc2)
        exact ⟨r1, r2, q1⟩
      | none =>
        have hh : Maps.has D (.int .i64 xv) = false := by rw [g1, hch]; rfl
        have HSV := hid (show stepV sf xv = ⟨sf.out ++ choice xv sf.out.length, fun u => if u = xv then some ((sf.out.length : Int) + 2) else sf.ch u, sf.inn ++ [(sf.out.length : Int) + 2]⟩ from by unfold stepV; rw [hch])
        clear g1 g2 hch
        gi_wp2_with (gi_at_lookup; refine wpListIn_lookup_own_ok_int _ rfl _ _ 55 rfl 3 3 .i64 law_int Tryd.underlying55 Tryd.underlying3 (zero_int _) mb kk D rfl HOWN.out _ _ rfl (keyOf_int_mk Tryd.underlying3 hwf) ?_; intro c hat hwc; clear hat hwc)
        have S1d := hid (show SmAt W.drew B sb mb n _ _ vO _ sf.out (vs ++ vs1) A sf.ch kk from S1.below (Below.refl _ W).drew)
        have PBd := hid (show W.drew.heap[w.heap.size]? = some (.cells #[.pointer (some ⟨sb, 0, none⟩)] 54 (0, 0)) from HPB.out)
        have CQ : Hid (W.drew.cell? ⟨w.heap.size, 0, none⟩ = some (.pointer (some ⟨sb, 0, none⟩))) := pb1
        have hng : IntKind.i64.wrap (-xv) = -xv := by rw [IntKind.wrap_i64]; omega
        refine wpIn_PN ?_
        refine Go.Proofs.YtpdbfbjfodckgaaDoor.wpIn_region_L 11 8 (fun w' => w'.cell? ⟨w.heap.size, 0, none⟩ = some (.pointer (some ⟨sb, 0, none⟩))) (by kernel_rfl) rfl (by kernel_rfl) PN_out CQ.out (fun _ => ?_)
        refine wpAnyL_load2 (i := 0) (v := .pointer (some ⟨sb, 0, none⟩)) (by simp only [List.getElem?_toArray, List.getElem?_cons_zero] <;> rfl) (by kernel_rfl) (by kernel_rfl) (by kernel_rfl) (by exact fun _ _ _ h => h) (by decide) (Waits.more (j := 4) rfl ⟨⟨4, .chain⟩, by simp, rfl, rfl⟩ (Waits.one rfl ⟨⟨0, .data⟩, by simp, rfl, rfl⟩)) (by kernel_rfl) (by kernel_rfl) (.inr CQ.out) (Or.inl ⟨by rfl, fun w hw => (by have x0 := hw; simp [execOp, go_sem, Act.eval, x0])⟩) (fun _ => ?_)
        simp only [Act.put, List.setIfInBounds_toArray, List.set_cons_zero, List.set_cons_succ]
        refine wpAnyL_pure (i := 1) (v := .int .i64 xv) (by simp only [List.getElem?_toArray, List.getElem?_cons_zero, List.getElem?_cons_succ] <;> rfl) (by kernel_rfl) (by kernel_rfl) (by kernel_rfl) (by exact fun _ _ _ h => h) (by decide) (.inr CQ.out) (Or.inl ⟨by rfl, fun w _ => (by simp [execOp, go_sem, Act.eval])⟩) (fun _ => ?_)
        simp only [Act.put, List.setIfInBounds_toArray, List.set_cons_zero, List.set_cons_succ]
        refine wpAnyL_pure (i := 2) (v := .int .i64 (-xv)) (by simp only [List.getElem?_toArray, List.getElem?_cons_zero, List.getElem?_cons_succ] <;> rfl) (by kernel_rfl) (by kernel_rfl) (by kernel_rfl) (by exact fun _ _ _ h => h) (by decide) (.inr CQ.out) (Or.inl ⟨by rfl, fun w _ => (by simp [execOp, go_sem, Act.eval, hng])⟩) (fun _ => ?_)
        simp only [Act.put, List.setIfInBounds_toArray, List.set_cons_zero, List.set_cons_succ]
        refine wpAnyL_pure (i := 3) (v := .agg #[.int .i64 2, .int .i64 (-xv), .slice none 0 0]) (by simp only [List.getElem?_toArray, List.getElem?_cons_zero, List.getElem?_cons_succ] <;> rfl) (by kernel_rfl) (by kernel_rfl) (by kernel_rfl) (by exact fun _ _ _ h => h) (by decide) (.inr CQ.out) (Or.inl ⟨by rfl, fun w _ => (by simp [execOp, go_sem, Act.eval])⟩) (fun _ => ?_)
        simp only [Act.put, List.setIfInBounds_toArray, List.set_cons_zero, List.set_cons_succ]
        refine wpAnyL_load2 (i := 5) (v := .pointer (some ⟨sb, 0, none⟩)) (by simp only [List.getElem?_toArray, List.getElem?_cons_zero, List.getElem?_cons_succ] <;> rfl) (by kernel_rfl) (by kernel_rfl) (by kernel_rfl) (by exact fun _ _ _ h => h) (by decide) (Waits.one rfl ⟨⟨5, .data⟩, by simp, rfl, rfl⟩) (by kernel_rfl) (by kernel_rfl) (.inr CQ.out) (Or.inl ⟨by rfl, fun w hw => (by have x0 := hw; simp [execOp, go_sem, Act.eval, x0])⟩) (fun _ => ?_)
        simp only [Act.put, List.setIfInBounds_toArray, List.set_cons_zero, List.set_cons_succ]
        refine wpAnyL_pure (i := 6) (v := .int .i64 xv) (by simp only [List.getElem?_toArray, List.getElem?_cons_zero, List.getElem?_cons_succ] <;> rfl) (by kernel_rfl) (by kernel_rfl) (by kernel_rfl) (by exact fun _ _ _ h => h) (by decide) (.inr CQ.out) (Or.inl ⟨by rfl, fun w _ => (by simp [execOp, go_sem, Act.eval])⟩) (fun _ => ?_)
        simp only [Act.put, List.setIfInBounds_toArray, List.set_cons_zero, List.set_cons_succ]
        refine wpAnyL_pure (i := 7) (v := .agg #[.int .i64 2, .int .i64 xv, .slice none 0 0]) (by simp only [List.getElem?_toArray, List.getElem?_cons_zero, List.getElem?_cons_succ] <;> rfl) (by kernel_rfl) (by kernel_rfl) (by kernel_rfl) (by exact fun _ _ _ h => h) (by decide) (.inr CQ.out) (Or.inl ⟨by rfl, fun w _ => (by simp [execOp, go_sem, Act.eval])⟩) (fun _ => ?_)
        simp only [Act.put, List.setIfInBounds_toArray, List.set_cons_zero, List.set_cons_succ]
        refine wpAnyL_one (i := 4) (by kernel_rfl) (by simp only [List.getElem?_toArray, List.getElem?_cons_zero, List.getElem?_cons_succ] <;> rfl) (by rfl) ?_
        refine opwp_call (f := 40) (args := #[.pointer (some ⟨sb, 0, none⟩), .agg #[.int .i64 2, .int .i64 (-xv), .slice none 0 0]]) (w' := W.drew) (by simp [go_sem, Act.eval]) ?_
        refine ((S1d.out.add (xk := 2) (xl := -xv) (xi := []) (u := .slice none 0 0) hBW (OwnInts.nil _ _) (Nat.zero_le _) (fun j e => by cases e) (by omega) (m := (sf.out.length : Int)) rfl)).mono ?_
        rintro e W2 ⟨rfl, ⟨vO2, S2⟩, F2⟩
        have hcc1_0 := hid (S1d.out.ptr PBd.out F2)
        refine .inl ⟨_, rfl, .inr hcc1_0.out, ?_⟩
        simp only [Act.put, List.setIfInBounds_toArray, List.set_cons_zero, List.set_cons_succ]
        refine wpAnyL_one (i := 8) (by kernel_rfl) (by simp only [List.getElem?_toArray, List.getElem?_cons_zero, List.getElem?_cons_succ] <;> rfl) (by rfl) ?_
        refine opwp_call (f := 40) (args := #[.pointer (some ⟨sb, 0, none⟩), .agg #[.int .i64 2, .int .i64 xv, .slice none 0 0]]) (w' := W2) (by simp [go_sem, Act.eval]) ?_
        refine ((S2.add (xk := 2) (xl := xv) (xi := []) (u := .slice none 0 0) (Nat.le_trans hBW F2.size) (OwnInts.nil _ _) (Nat.zero_le _) (fun j e => by cases e) (by rw [List.length_append]; show _ + 1 ≤ _; omega) (m := (sf.out.length : Int) + 1) (by rw [List.length_append]; show ((_ + 1 : Nat) : Int) = _; omega))).mono ?_
        rintro e W3 ⟨rfl, ⟨vO3, S3⟩, F3⟩
        refine .inl ⟨_, rfl, .inl (by kernel_rfl), ?_⟩
        simp only [Act.put, List.setIfInBounds_toArray, List.set_cons_zero, List.set_cons_succ]
        refine wpAnyL_pure (i := 9) (v := .int .i64 (sf.out.length : Int)) (by simp only [List.getElem?_toArray, List.getElem?_cons_zero, List.getElem?_cons_succ] <;> rfl) (by kernel_rfl) (by kernel_rfl) (by kernel_rfl) (by exact fun _ _ _ h => h) (by decide) (.inl (by kernel_rfl)) (Or.inl ⟨by rfl, fun w _ => (by simp [execOp, go_sem, Act.eval])⟩) (fun _ => ?_)
        simp only [Act.put, List.setIfInBounds_toArray, List.set_cons_zero, List.set_cons_succ]
        refine wpAnyL_pure (i := 10) (v := .int .i64 ((sf.out.length : Int) + 1)) (by simp only [List.getElem?_toArray, List.getElem?_cons_zero, List.getElem?_cons_succ] <;> rfl) (by kernel_rfl) (by kernel_rfl) (by kernel_rfl) (by exact fun _ _ _ h => h) (by decide) (.inl (by kernel_rfl)) (Or.inl ⟨by rfl, fun w _ => (by simp [execOp, go_sem, Act.eval])⟩) (fun _ => ?_)
        simp only [Act.put, List.setIfInBounds_toArray, List.set_cons_zero, List.set_cons_succ]
        refine wpAnyL_done (by kernel_rfl) ?_ _
        refine PN_normal ?_
        have PB2 := S1d.out.kept_ptr PBd.out F2
        have PB3 := S2.kept_ptr PB2 F3
        obtain ⟨p3, _⟩ := ptr_cell PB3
        have lp3 : w.heap.size < W3.heap.size := (Array.getElem?_eq_some_iff.1 PB3).1
        have HPB3 := hid PB3
        clear PB2 PB3
        have hb34 : Below W3.heap.size W3 (W3.alloc (.cells #[.int .i64 (sf.out.length : Int), .int .i64 ((sf.out.length : Int) + 1)] 3)) := (Below.refl _ W3).alloc (Nat.le_refl _) _
        have hB3 : B ≤ W3.heap.size := Nat.le_trans hBW (Nat.le_trans F2.size F3.size)
        have hw3 : W.heap.size ≤ W3.heap.size := Nat.le_trans F2.size F3.size
        have S4 := hid (S3.below hb34)
        have U4 := hid (own_pair W3 hB3 (sf.out.length : Int) ((sf.out.length : Int) + 1))
        have HPB4 := hid ((hb34.block _ lp3).trans HPB3.out)
        have F4 := hid ((Fr.refl sb mb W).drew.trans (F2.trans (F3.trans (Fr.of_below hb34 S3.box.lt))))
        have hfar4 : ∀ j, (Value.slice (some ⟨W3.heap.size, 0, none⟩) 2 2).ownBlock = some j → (Value.slice (some ⟨ga, 0, none⟩) A.length cA).ownBlock ≠ some j := fun j e e2 => by
          injection e with e
          have := hat j e2
          have e3 : W3.heap.size = j := e
          omega
        have HF4 := hid hfar4
        clear hfar4
        gi_wp2_with fail
        generalize W3.alloc (.cells #[.int .i64 (sf.out.length : Int), .int .i64 ((sf.out.length : Int) + 1)] 3) = W4 at *
        refine ⟨trivial, ?_⟩
        refine (CallsIn.inRound l (callsIn_wide.2 (S4.out.add (xk := 4) (xl := 0) (Nat.le_trans hB3 hb34.size) U4.out (by show 2 ≤ _; omega) HF4.out (by rw [List.length_append, List.length_append]; show _ + 1 + 1 ≤ _; omega) (m := (sf.out.length : Int) + 2) (by rw [List.length_append, List.length_append]; show ((_ + 1 + 1 : Nat) : Int) = _; omega)))).mono ?_
        rintro e W5 ⟨rfl, ⟨vO5, S5⟩, F5⟩
        have PB5 := S4.out.kept_ptr HPB4.out F5
        have b6 := S5.box.get.2.2.2.2.2.2
        obtain ⟨p5, _⟩ := ptr_cell PB5
        obtain ⟨D5, hown5, hD5, hAg5⟩ := S5.map
        have HAG5 := hid hAg5
        have HOWN5 := hid hown5
        have hwf2 : (Lit.int .i64 ((sf.out.length : Int) + 2)).wf = true := WalkArith.wf_i64 (by omega)
        have HPB5 := hid PB5
        clear hAg5 hown5 PB5 p3
        gi_wp2_with (first | (gi_at_mapUpdate; refine wpListIn_mapUpdate_own _ rfl _ _ _ 55 rfl 3 3 law_int Tryd.underlying55 _ mb kk D5 rfl HOWN5.out (by unfold maxLen; omega) _ _ _ rfl rfl (keyOf_int_mk Tryd.underlying3 hwf) _ [] (plainElem_int Tryd.underlying3 hwf2) ?_; intro W6 hown6 hgrow6; obtain ⟨S6, F6⟩ := S5.put ⟨_, hown6, hD5.put _ _, put_agrees hD5 HAG5.out⟩ hgrow6; have FF := F4.out.trans (F5.trans F6); have IB6 := S1.kept_var HIB.out FF; have OI6 := S1.keepInts FF OI; obtain ⟨jb1, jb2⟩ := ptr_cell IB6; clear hown6 hgrow6) | (gi_at_builtin; refine wpListIn_append_own_at _ rfl _ _ 33 rfl w.heap.size 3 i0 (.int .i64 0) 1 8 Tryd.underlying33 hi0 hz0 hz1 hz2 rfl (by decide) _ _ _ rfl (OI6.alloc _) ⟨W6.heap.size, 0, none⟩ 1 1 [.int .i64 ((sf.out.length : Int) + 2)] rfl rfl (cell_one_new _ _ _) (by simp [Value.oneCell']) (by unfold maxLen; omega) (by omega) (by rw [World.size_alloc]; exact Nat.le_succ_of_le (Nat.le_trans hsW FF.size)) ?_; intro v' w8 hown' hgrow hnil hloc; obtain ⟨g', cap', rfl⟩ := ownsRow_succ hown'; obtain ⟨k1, k2⟩ := fill_cell IB6 OI6 hgrow))
        rw [HSV.out]
        have hloc2 : (Value.slice (some ⟨g', 0, none⟩) (sf.inn.length + 1) cap').ownBlock = none ∨ (Value.slice (some ⟨g', 0, none⟩) (sf.inn.length + 1) cap').ownBlock = (Value.slice pv sf.inn.length cv).ownBlock ∨ (Value.slice (some ⟨g', 0, none⟩) (sf.inn.length + 1) cap').ownBlock = some (W6.alloc (.cells #[.int .i64 ((sf.out.length : Int) + 2)] 3)).heap.size := .inr hloc
        have eo : sf.out ++ [⟨2, -xv, []⟩] ++ [⟨2, xv, []⟩] ++ [⟨4, 0, [(sf.out.length : Int), (sf.out.length : Int) + 1]⟩] = sf.out ++ choice xv sf.out.length := by simp [choice]
        have ev : vs ++ vs1 ++ [.slice none 0 0] ++ [.slice none 0 0] ++ [.slice (some ⟨W3.heap.size, 0, none⟩) 2 2] = vs ++ (vs1 ++ [.slice none 0 0, .slice none 0 0, .slice (some ⟨W3.heap.size, 0, none⟩) 2 2]) := by simp
        rw [eo, ev] at S6
        obtain ⟨q1, q2, q3, q4⟩ := fill_put S6 (by rw [List.length_append]; show kk + 1 ≤ _ + 3; omega) (fun u hu j e => by
            rcases List.mem_append.1 hu with h1 | h1
            · exact G1 u h1 j e
            · simp only [List.mem_cons, List.not_mem_nil, or_false] at h1
              rcases h1 with h1 | h1 | h1
              · subst h1; cases e
              · subst h1; cases e
              · subst h1
                injection e with e
                have e3 : W3.heap.size = j := e
                omega) (fun u hu j e e2 => by
            rcases List.mem_append.1 hu with h1 | h1
            · exact V1 u h1 j e e2
            · simp only [List.mem_cons, List.not_mem_nil, or_false] at h1
              rcases h1 with h1 | h1 | h1
              · subst h1; cases e
              · subst h1; cases e
              · subst h1
                injection e with e
                have e3 : W3.heap.size = j := e
                have := (own_ge OI e2).2
                omega) IB6 OI6 (S5.kept_ptr HPB5.out F6) (FR.trans FF) hvs hat (show w.heap.size ≤ w.heap.size + 1 + 1 + 1 by omega) (own_snoc hown') hgrow hloc2
        obtain ⟨r1, r2⟩ := fill_keeps S1 FF HIB.out OI hmb7 q2 q3 q4 (loc_of rfl hloc2)
        exact ⟨r1, r2, q1⟩
    · rintro D ys W hD hys ⟨vO, vs1, vi, kk, S1, K1, G1, V1, IB, OI, PB, FR⟩ hK
      have hfo : fillV ⟨out, ch, inn0 L A (old : Int)⟩ (ys.map Subtype.val) = rr := by rw [HRR.out]; unfold fillO; rw [hys, HTT.out]
      have hbi := fillV_inn (ys.map Subtype.val) ⟨out, ch, inn0 L A (old : Int)⟩
      rw [hys] at hbi
      rw [hfo] at S1 K1 OI
      have hil2 : rr.inn.length ≤ 70000 := by
        have h1 : rr.inn.length = (inn0 L A (old : Int)).length + (mems (minus all t)).length := by rw [← hfo, hys]; exact hbi
        have := mems_length (minus all t)
        omega
      obtain ⟨pb1, _⟩ := ptr_cell PB
      obtain ⟨pv, cv, rfl, hdrop⟩ := OI.ints
      obtain ⟨ib1, ib2⟩ := ptr_cell IB
      have hfar : ∀ j, (Value.slice pv rr.inn.length cv).ownBlock = some j → (Value.slice (some ⟨ga, 0, none⟩) A.length cA).ownBlock ≠ some j := fun j e e2 => by
        have := hat j e2
        have := (own_ge OI e).1
        omega
      have HFAR := hid hfar
      have HIBW := hid IB
      clear hfo hdrop hfar IB V1 hbi
      gi_wp2_with fail
      refine ⟨trivial, ?_⟩
      refine (callsIn_wide.2 (S1.add (xk := 3) (xl := 0) (Nat.le_trans hBw FR.size) (own_lower OI hBw) (by omega) HFAR.out (by omega) rfl)).mono ?_
      rintro e W9 ⟨rfl, ⟨vO9, S9⟩, F9⟩
      have hDm : D ≠ mb := fun e => by
        obtain ⟨D1, ⟨es, clock, hm, _⟩, _⟩ := S1.map
        rw [← e, hK] at hm; cases hm
      have hDs : D ≠ sb := fun e => by
        have := S1.box
        unfold SmBox at this
        rw [← e, hK] at this; cases this
      have hK9 : W9.heap[D]? = some (.deferred (some [])) := (F9.block D (Array.getElem?_eq_some_iff.1 hK).1 hDs hDm (fun e => by
        rw [S1.box.row] at e
        obtain ⟨cs, h⟩ := own_type S1.outs.row e
        rw [hK] at h; cases h)).trans hK
      have hwD : w.heap.size ≤ D := Nat.le_trans hb57.size hD
      have S10 := hid (S9.putObj (o' := .deferred none) hK9 rfl hDm)
      have F10 := hid ((FR.trans F9).putObj (o := .deferred none) hwD hDs)
      have G10 := hid (show ∀ u ∈ vs1 ++ [Value.slice pv rr.inn.length cv], ∀ j, u.ownBlock = some j → w.heap.size ≤ j from fun u hu j e => by
        rcases List.mem_append.1 hu with h1 | h1
        · exact G1 u h1 j e
        · rw [List.mem_singleton] at h1
          subst h1
          exact (own_ge OI e).1)
      clear S9 F9 S1 OI G1 FR hDm hDs hwD
      gi_wp2_with fail
      refine ⟨by simp, .inl ⟨_, _, rfl, run_takeDeferred hK9, ?_⟩⟩
      refine ⟨_, results_tmp rfl _ _ _, rfl, ⟨vO9, vs1 ++ [.slice pv rr.inn.length cv], kk, ?_, K1, G10.out⟩, F10.out⟩
      rw [← List.append_assoc]
      exact S10.out
    · rintro D c pre W _ _ h _
      exact h.elim
end Go.Proofs.YtpdbfbjfodckgaaDoor
