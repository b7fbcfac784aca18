/- Walk of the reference censusref21.Vars. -/
import Derived.Test.YtpdbfbjfodckgaaDoorHRefV
namespace Go.Proofs.YtpdbfbjfodckgaaDoor
open Go.RowKit

theorem max_abs {l : Int} (h1 : 1 ≤ litVar l) : max l (-l) = litVar l ∧ -128 ≤ l ∧ l ≤ 128 := by
  unfold litVar at h1 ⊢
  split at h1
  · rw [if_pos (by assumption)]; omega
  · rw [if_neg (by assumption)]
    split at h1
    · rw [if_pos (by assumption)]; omega
    · omega
theorem max_if {l v : Int} (h : max l (-l) = v) : (if l < -l then -l else l) = v := by rw [← h]; split <;> omega
theorem wrap_neg {l : Int} (h1 : -128 ≤ l) (h2 : l ≤ 128) : IntKind.i64.wrap (-l) = -l := by rw [IntKind.wrap_i64]; omega
theorem litVar_no {n k : Int} {x : NodeT} (h : formed x n k = true) (h2 : x.kind ≠ 2) : litVar x.lit = 0 := by
  have h0 : x.lit = 0 := by
    apply Classical.byContradiction; intro e
    rw [formed_lit h2 e] at h; cases h
  rw [h0]; rfl
theorem litVar_yes {n k : Int} {x : NodeT} (h : formed x n k = true) (h2 : x.kind = 2) : 1 ≤ litVar x.lit ∧ litVar x.lit ≤ 128 := by
  have := litVar_range x.lit
  refine ⟨?_, this.2⟩
  have hl : litValid x.lit n = true := by
    cases e : litValid x.lit n with
    | true => rfl
    | false => rw [formed_two h2 e] at h; cases h
  unfold litValid at hl
  simp only [Bool.and_eq_true, decide_eq_true_eq] at hl
  omega
set_option maxRecDepth 100000 in
set_option maxHeartbeats 8000000 in
theorem vars21_c (n : Int) (L : List NodeT) (v : Value) (w : World) (hN : NodesAt w v L) (hv : validNet ⟨n, L⟩ = true) :
    Calls Tryd.prog 47 #[.agg #[.int .i64 n, v]] w (VarsPost L w) := by
  obtain ⟨⟨r1, r2, r3, r4⟩, hft⟩ := (validNet_iff _).1 hv
  simp only at r1 r2 r3 r4 hft
  have hB1 : Below w.heap.size w (w.alloc (.cells #[.int .i64 n, v] 24)) := (Below.refl _ w).alloc (Nat.le_refl _) _
  obtain ⟨p, c, rfl, h⟩ := hN
  obtain ⟨b, off, rfl, hN⟩ := h.resolve_left (by intro e; rw [e] at r3; simp at r3)
  have hx := NetVar.new w n (.slice (some ⟨b, off, none⟩) L.length c) 24
  obtain ⟨x0, x1⟩ := hx
  have HN := hid hN
  have HFT := hid hft
  have HX := hid (NetVar.new w n (.slice (some ⟨b, off, none⟩) L.length c) 24)
  have HB1 := hid hB1
  have hmk := fun w' => make_sets w' L.length (by omega) (L.length : Int) (L.length : Int) rfl rfl
  clear hN h hv hft
  have hrow := SetRow.made (w.alloc (.cells #[.int .i64 n, .slice (some ⟨b, off, none⟩) L.length c] 24)) L.length
  have hal : Below (w.alloc (.cells #[.int .i64 n, .slice (some ⟨b, off, none⟩) L.length c] 24)).heap.size (w.alloc (.cells #[.int .i64 n, .slice (some ⟨b, off, none⟩) L.length c] 24)) ((w.alloc (.cells #[.int .i64 n, .slice (some ⟨b, off, none⟩) L.length c] 24)).alloc (.cells (madeCells #[.int .u64 ((lw 0#128).toNat : Int), .int .u64 ((hw 0#128).toNat : Int)] (L.length * 2)) 42)) := (Below.refl _ _).alloc (Nat.le_refl _) _
  have HX3 := hid (HX.out.below hal)
  have HR0 := hid (show SetRow ((w.alloc (.cells #[.int .i64 n, .slice (some ⟨b, off, none⟩) L.length c] 24)).alloc (.cells (madeCells #[.int .u64 ((lw 0#128).toNat : Int), .int .u64 ((hw 0#128).toNat : Int)] (L.length * 2)) 42)) (w.heap.size + 1) (vsOf (L.take 0) ++ List.replicate (L.length - 0) 0) from by rw [World.size_alloc] at hrow; exact hrow)
  have HAL := hid (hB1.trans (hal.mono hB1.size))
  clear hrow hal hB1
  go_enter Tryd.func47, Tryd.ntmps47
  go_wp2_with fail
  have hsz2 : (w.alloc (.cells #[.int .i64 n, .slice (some ⟨b, off, none⟩) L.length c] 24)).heap.size = w.heap.size + 1 := World.size_alloc _ _
  have hB2 : Below w.heap.size w (w.alloc (.cells #[.int .i64 n, .slice (some ⟨b, off, none⟩) L.length c] 24)) := (Below.refl _ w).alloc (Nat.le_refl _) _
  have hAL2 : Below (w.alloc (.cells #[.int .i64 n, .slice (some ⟨b, off, none⟩) L.length c] 24)).heap.size (w.alloc (.cells #[.int .i64 n, .slice (some ⟨b, off, none⟩) L.length c] 24)) ((w.alloc (.cells #[.int .i64 n, .slice (some ⟨b, off, none⟩) L.length c] 24)).alloc (.cells (madeCells #[.int .u64 ((lw 0#128).toNat : Int), .int .u64 ((hw 0#128).toNat : Int)] (L.length * 2)) 42)) := (Below.refl _ _).alloc (Nat.le_refl _) _
  clear HX3 HAL x0 x1 hmk
  generalize w.alloc (.cells #[.int .i64 n, .slice (some ⟨b, off, none⟩) L.length c] 24) = w2 at *
  generalize w2.alloc (.cells (madeCells #[.int .u64 ((lw 0#128).toNat : Int), .int .u64 ((hw 0#128).toNat : Int)] (L.length * 2)) 42) = w3 at *
  obtain ⟨g, hg⟩ : ∃ g, g = w.heap.size + 1 := ⟨_, rfl⟩
  rw [← hg] at HR0 ⊢
  have HG := hid hg
  have HSZ := hid hsz2
  have HB2 := hid hB2
  have HAL := hid hAL2
  clear hg hsz2 hB2 hAL2 HB1
  go_loopw [4] (fun z wr => ∃ (k : Nat), k ≤ L.length ∧ z = .int .i64 k ∧ Hid (SetRow wr g (vsOf (L.take k) ++ List.replicate (L.length - k) 0)) ∧ Hid (Below w2.heap.size w2 wr)) (fun z _ => L.length - (intOf z).toNat)
  case atStart => exact ⟨0, Nat.zero_le _, rfl, HR0.out, HAL.out⟩
  case round =>
    clear HR0 HAL
    obtain ⟨k, hk, rfl, hrow, hbr⟩ := hrel
    obtain ⟨x0, x1⟩ := HX.out.below hbr.out
    by_cases hkl : k < L.length
    · obtain ⟨u, hu⟩ := HN.out k hkl
      have hbb : b < w.heap.size := cell_lt hu.kind
      have hu2 := hu.below HB2.out
      have hur := hu2.below hbr.out
      have d0 := hur.kind
      have d1 := hur.lit
      have d2 := hur.ins
      have HU := hid hu2
      have HIN := hid (ins_lt HFT.out hkl)
      have HFK := hid (HFT.out k hkl hkl)
      have hle := hur.len
      have HRV := hid (show SetRow wr g (rowV L k 0) from by rw [← rowV_start hkl]; exact hrow.out)
      have HNX := hid (fun s hs => rowV_next hkl (s := s) hs)
      have zk : (0 : Int) ≤ (k : Int) ∧ (k : Int) < (L.length : Int) := by omega
      have hlg := hrow.out.lt
      have HLW := hid (show w2.heap.size ≤ g from by rw [HG.out, HSZ.out]; exact Nat.le_refl _)
      clear hu hu2 hur hrow
      generalize hxx : L[k] = x at *
      obtain ⟨xk, xl, xi⟩ := x
      obtain ⟨p2, c2, e2, hdrop⟩ := HU.out.ints
      subst e2
      clear hdrop hxx
      have HBR := hid hbr.out
      clear hbr
      by_cases h2 : xk = 2
      · subst h2
        obtain ⟨hl1, hl2⟩ := litVar_yes HFK.out rfl
        obtain ⟨hmx0, hm1, hm2⟩ := max_abs hl1
        have hmx := max_if hmx0
        have hwn := wrap_neg hm1 hm2
        have hxi : xi = [] := by
          apply Classical.byContradiction; intro e
          have h1 := formed_ins (x := ⟨2, xl, xi⟩) (n := n) (k := k) (show (2 : Int) < 3 by decide) e
          have h3 : formed ⟨2, xl, xi⟩ n k = true := HFK.out
          rw [h1] at h3; cases h3
        subst hxi
        obtain ⟨t, ht, y0, y1, y2, y3⟩ := HRV.out.getS k (by rw [rowV_length _ hkl]; exact hkl)
        rw [rowV_at _ hkl] at ht
        obtain ⟨s1, hs1⟩ : ∃ s1 : VS, s1 = 0 := ⟨_, rfl⟩
        rw [← hs1] at ht
        subst ht
        have RK : Hid (wr.drew.cell? ⟨g, k * 2, none⟩ = some (.int .u64 ((lw s1).toNat : Int)) ∧ wr.drew.cell? ⟨g, k * 2 + 1, none⟩ = some (.int .u64 ((hw s1).toNat : Int))) := ⟨y0, y1⟩
        have XN : Hid (wr.drew.cell? ⟨w.heap.size, 1, none⟩ = some (.slice (some ⟨b, off, none⟩) L.length c)) := x1
        have RL : Hid (wr.drew.cell? ⟨b, off + k * 3 + 1, none⟩ = some (.int .i64 xl)) := d1
        have HRW := hid HRV.out
        have HS1 := hid hs1
        clear y0 y1 y2 y3 hs1
        go_wp2_with fail
        refine Go.Proofs.YtpdbfbjfodckgaaDoor.wp_region_L 23 20 (fun w' => (w'.cell? ⟨g, k * 2, none⟩ = some (.int .u64 ((lw (s1)).toNat : Int)) ∧ w'.cell? ⟨g, k * 2 + 1, none⟩ = some (.int .u64 ((hw (s1)).toNat : Int))) ∧ w'.cell? ⟨w.heap.size, 1, none⟩ = some (.slice (some ⟨b, off, none⟩) L.length c) ∧ w'.cell? ⟨b, off + k * 3 + 1, none⟩ = some (.int .i64 xl)) (by kernel_rfl) rfl ⟨RK.out, XN.out, RL.out⟩ (fun _ => ?_)
        refine wpAnyL_pure (i := 0) (v := .slice (some ⟨g, 0, none⟩) L.length L.length) (by simp only [List.getElem?_toArray, List.getElem?_cons_zero] <;> rfl) (by kernel_rfl) (by kernel_rfl) (by kernel_rfl) (by exact fun _ _ _ h => h) (by decide) (.inr ⟨RK.out, XN.out, RL.out⟩) (Or.inl ⟨by rfl, fun w _ => (by simp [execOp, go_sem, Act.eval])⟩) (fun _ => ?_)
        simp only [Act.put, List.setIfInBounds_toArray, List.set_cons_zero, List.set_cons_succ]
        refine wpAnyL_pure (i := 1) (v := .int .i64 (k : Int)) (by simp only [List.getElem?_toArray, List.getElem?_cons_zero, List.getElem?_cons_succ] <;> rfl) (by kernel_rfl) (by kernel_rfl) (by kernel_rfl) (by exact fun _ _ _ h => h) (by decide) (.inr ⟨RK.out, XN.out, RL.out⟩) (Or.inl ⟨by rfl, fun w _ => (by simp [execOp, go_sem, Act.eval])⟩) (fun _ => ?_)
        simp only [Act.put, List.setIfInBounds_toArray, List.set_cons_zero, List.set_cons_succ]
        refine wpAnyL_pure (i := 2) (v := .slice (some ⟨g, 0, none⟩) L.length L.length) (by simp only [List.getElem?_toArray, List.getElem?_cons_zero, List.getElem?_cons_succ] <;> rfl) (by kernel_rfl) (by kernel_rfl) (by kernel_rfl) (by exact fun _ _ _ h => h) (by decide) (.inr ⟨RK.out, XN.out, RL.out⟩) (Or.inl ⟨by rfl, fun w _ => (by simp [execOp, go_sem, Act.eval])⟩) (fun _ => ?_)
        simp only [Act.put, List.setIfInBounds_toArray, List.set_cons_zero, List.set_cons_succ]
        refine wpAnyL_pure (i := 3) (v := .int .i64 (k : Int)) (by simp only [List.getElem?_toArray, List.getElem?_cons_zero, List.getElem?_cons_succ] <;> rfl) (by kernel_rfl) (by kernel_rfl) (by kernel_rfl) (by exact fun _ _ _ h => h) (by decide) (.inr ⟨RK.out, XN.out, RL.out⟩) (Or.inl ⟨by rfl, fun w _ => (by simp [execOp, go_sem, Act.eval])⟩) (fun _ => ?_)
        simp only [Act.put, List.setIfInBounds_toArray, List.set_cons_zero, List.set_cons_succ]
        refine wpAnyL_pure (i := 4) (v := .pointer (some ⟨g, k * 2, none⟩)) (by simp only [List.getElem?_toArray, List.getElem?_cons_zero, List.getElem?_cons_succ] <;> rfl) (by kernel_rfl) (by kernel_rfl) (by kernel_rfl) (by exact fun _ _ _ h => h) (by decide) (.inr ⟨RK.out, XN.out, RL.out⟩) (Or.inl ⟨by rfl, fun w _ => (by simp [execOp, go_sem, Act.eval, zk])⟩) (fun _ => ?_)
        simp only [Act.put, List.setIfInBounds_toArray, List.set_cons_zero, List.set_cons_succ]
        refine wpAnyL_load2 (i := 5) (v := encS (s1)) (by simp only [List.getElem?_toArray, List.getElem?_cons_zero, List.getElem?_cons_succ] <;> rfl) (by kernel_rfl) (by kernel_rfl) (by kernel_rfl) (by exact fun _ _ _ h => h) (by decide) (Waits.one rfl ⟨⟨5, .data⟩, by simp, rfl, rfl⟩) (by kernel_rfl) (by kernel_rfl) (.inr ⟨RK.out, XN.out, RL.out⟩) (Or.inl ⟨by rfl, fun w hw => (by obtain ⟨⟨y0, z0⟩, _, _⟩ := hw; simp [execOp, go_sem, Act.eval, y0, z0])⟩) (fun _ => ?_)
        simp only [Act.put, List.setIfInBounds_toArray, List.set_cons_zero, List.set_cons_succ]
        refine wpAnyL_pure (i := 6) (v := .pointer (some ⟨w.heap.size, 1, none⟩)) (by simp only [List.getElem?_toArray, List.getElem?_cons_zero, List.getElem?_cons_succ] <;> rfl) (by kernel_rfl) (by kernel_rfl) (by kernel_rfl) (by exact fun _ _ _ h => h) (by decide) (.inr ⟨RK.out, XN.out, RL.out⟩) (Or.inl ⟨by rfl, fun w _ => (by simp [execOp, go_sem, Act.eval])⟩) (fun _ => ?_)
        simp only [Act.put, List.setIfInBounds_toArray, List.set_cons_zero, List.set_cons_succ]
        refine wpAnyL_load2 (i := 7) (v := .slice (some ⟨b, off, none⟩) L.length c) (by simp only [List.getElem?_toArray, List.getElem?_cons_zero, List.getElem?_cons_succ] <;> rfl) (by kernel_rfl) (by kernel_rfl) (by kernel_rfl) (by exact fun _ _ _ h => h) (by decide) (Waits.more (j := 19) rfl ⟨⟨19, .data⟩, by simp, rfl, rfl⟩ (Waits.more (j := 11) rfl ⟨⟨11, .data⟩, by simp, rfl, rfl⟩ (Waits.more (j := 10) rfl ⟨⟨10, .data⟩, by simp, rfl, rfl⟩ (Waits.more (j := 9) rfl ⟨⟨9, .data⟩, by simp, rfl, rfl⟩ (Waits.one rfl ⟨⟨7, .data⟩, by simp, rfl, rfl⟩))))) (by kernel_rfl) (by kernel_rfl) (.inr ⟨RK.out, XN.out, RL.out⟩) (Or.inl ⟨by rfl, fun w hw => (by obtain ⟨_, x1, _⟩ := hw; simp [execOp, go_sem, Act.eval, x1])⟩) (fun _ => ?_)
        simp only [Act.put, List.setIfInBounds_toArray, List.set_cons_zero, List.set_cons_succ]
        refine wpAnyL_pure (i := 8) (v := .int .i64 (k : Int)) (by simp only [List.getElem?_toArray, List.getElem?_cons_zero, List.getElem?_cons_succ] <;> rfl) (by kernel_rfl) (by kernel_rfl) (by kernel_rfl) (by exact fun _ _ _ h => h) (by decide) (.inr ⟨RK.out, XN.out, RL.out⟩) (Or.inl ⟨by rfl, fun w _ => (by simp [execOp, go_sem, Act.eval])⟩) (fun _ => ?_)
        simp only [Act.put, List.setIfInBounds_toArray, List.set_cons_zero, List.set_cons_succ]
        refine wpAnyL_pure (i := 9) (v := .pointer (some ⟨b, off + k * 3, none⟩)) (by simp only [List.getElem?_toArray, List.getElem?_cons_zero, List.getElem?_cons_succ] <;> rfl) (by kernel_rfl) (by kernel_rfl) (by kernel_rfl) (by exact fun _ _ _ h => h) (by decide) (.inr ⟨RK.out, XN.out, RL.out⟩) (Or.inl ⟨by rfl, fun w _ => (by simp [execOp, go_sem, Act.eval, zk])⟩) (fun _ => ?_)
        simp only [Act.put, List.setIfInBounds_toArray, List.set_cons_zero, List.set_cons_succ]
        refine wpAnyL_pure (i := 10) (v := .pointer (some ⟨b, off + k * 3 + 1, none⟩)) (by simp only [List.getElem?_toArray, List.getElem?_cons_zero, List.getElem?_cons_succ] <;> rfl) (by kernel_rfl) (by kernel_rfl) (by kernel_rfl) (by exact fun _ _ _ h => h) (by decide) (.inr ⟨RK.out, XN.out, RL.out⟩) (Or.inl ⟨by rfl, fun w _ => (by simp [execOp, go_sem, Act.eval])⟩) (fun _ => ?_)
        simp only [Act.put, List.setIfInBounds_toArray, List.set_cons_zero, List.set_cons_succ]
        refine wpAnyL_load2 (i := 11) (v := .int .i64 xl) (by simp only [List.getElem?_toArray, List.getElem?_cons_zero, List.getElem?_cons_succ] <;> rfl) (by kernel_rfl) (by kernel_rfl) (by kernel_rfl) (by exact fun _ _ _ h => h) (by decide) (Waits.more (j := 19) rfl ⟨⟨19, .data⟩, by simp, rfl, rfl⟩ (Waits.one rfl ⟨⟨11, .data⟩, by simp, rfl, rfl⟩)) (by kernel_rfl) (by kernel_rfl) (.inr ⟨RK.out, XN.out, RL.out⟩) (Or.inl ⟨by rfl, fun w hw => (by obtain ⟨_, _, x2⟩ := hw; simp [execOp, go_sem, Act.eval, x2])⟩) (fun _ => ?_)
        simp only [Act.put, List.setIfInBounds_toArray, List.set_cons_zero, List.set_cons_succ]
        refine wpAnyL_pure (i := 12) (v := .pointer (some ⟨w.heap.size, 1, none⟩)) (by simp only [List.getElem?_toArray, List.getElem?_cons_zero, List.getElem?_cons_succ] <;> rfl) (by kernel_rfl) (by kernel_rfl) (by kernel_rfl) (by exact fun _ _ _ h => h) (by decide) (.inr ⟨RK.out, XN.out, RL.out⟩) (Or.inl ⟨by rfl, fun w _ => (by simp [execOp, go_sem, Act.eval])⟩) (fun _ => ?_)
        simp only [Act.put, List.setIfInBounds_toArray, List.set_cons_zero, List.set_cons_succ]
        refine wpAnyL_load2 (i := 13) (v := .slice (some ⟨b, off, none⟩) L.length c) (by simp only [List.getElem?_toArray, List.getElem?_cons_zero, List.getElem?_cons_succ] <;> rfl) (by kernel_rfl) (by kernel_rfl) (by kernel_rfl) (by exact fun _ _ _ h => h) (by decide) (Waits.more (j := 19) rfl ⟨⟨19, .data⟩, by simp, rfl, rfl⟩ (Waits.more (j := 18) rfl ⟨⟨18, .data⟩, by simp, rfl, rfl⟩ (Waits.more (j := 17) rfl ⟨⟨17, .data⟩, by simp, rfl, rfl⟩ (Waits.more (j := 16) rfl ⟨⟨16, .data⟩, by simp, rfl, rfl⟩ (Waits.more (j := 15) rfl ⟨⟨15, .data⟩, by simp, rfl, rfl⟩ (Waits.one rfl ⟨⟨13, .data⟩, by simp, rfl, rfl⟩)))))) (by kernel_rfl) (by kernel_rfl) (.inr ⟨RK.out, XN.out, RL.out⟩) (Or.inl ⟨by rfl, fun w hw => (by obtain ⟨_, x1, _⟩ := hw; simp [execOp, go_sem, Act.eval, x1])⟩) (fun _ => ?_)
        simp only [Act.put, List.setIfInBounds_toArray, List.set_cons_zero, List.set_cons_succ]
        refine wpAnyL_pure (i := 14) (v := .int .i64 (k : Int)) (by simp only [List.getElem?_toArray, List.getElem?_cons_zero, List.getElem?_cons_succ] <;> rfl) (by kernel_rfl) (by kernel_rfl) (by kernel_rfl) (by exact fun _ _ _ h => h) (by decide) (.inr ⟨RK.out, XN.out, RL.out⟩) (Or.inl ⟨by rfl, fun w _ => (by simp [execOp, go_sem, Act.eval])⟩) (fun _ => ?_)
        simp only [Act.put, List.setIfInBounds_toArray, List.set_cons_zero, List.set_cons_succ]
        refine wpAnyL_pure (i := 15) (v := .pointer (some ⟨b, off + k * 3, none⟩)) (by simp only [List.getElem?_toArray, List.getElem?_cons_zero, List.getElem?_cons_succ] <;> rfl) (by kernel_rfl) (by kernel_rfl) (by kernel_rfl) (by exact fun _ _ _ h => h) (by decide) (.inr ⟨RK.out, XN.out, RL.out⟩) (Or.inl ⟨by rfl, fun w _ => (by simp [execOp, go_sem, Act.eval, zk])⟩) (fun _ => ?_)
        simp only [Act.put, List.setIfInBounds_toArray, List.set_cons_zero, List.set_cons_succ]
        refine wpAnyL_pure (i := 16) (v := .pointer (some ⟨b, off + k * 3 + 1, none⟩)) (by simp only [List.getElem?_toArray, List.getElem?_cons_zero, List.getElem?_cons_succ] <;> rfl) (by kernel_rfl) (by kernel_rfl) (by kernel_rfl) (by exact fun _ _ _ h => h) (by decide) (.inr ⟨RK.out, XN.out, RL.out⟩) (Or.inl ⟨by rfl, fun w _ => (by simp [execOp, go_sem, Act.eval])⟩) (fun _ => ?_)
        simp only [Act.put, List.setIfInBounds_toArray, List.set_cons_zero, List.set_cons_succ]
        refine wpAnyL_load2 (i := 17) (v := .int .i64 xl) (by simp only [List.getElem?_toArray, List.getElem?_cons_zero, List.getElem?_cons_succ] <;> rfl) (by kernel_rfl) (by kernel_rfl) (by kernel_rfl) (by exact fun _ _ _ h => h) (by decide) (Waits.more (j := 19) rfl ⟨⟨19, .data⟩, by simp, rfl, rfl⟩ (Waits.more (j := 18) rfl ⟨⟨18, .data⟩, by simp, rfl, rfl⟩ (Waits.one rfl ⟨⟨17, .data⟩, by simp, rfl, rfl⟩))) (by kernel_rfl) (by kernel_rfl) (.inr ⟨RK.out, XN.out, RL.out⟩) (Or.inl ⟨by rfl, fun w hw => (by obtain ⟨_, _, x2⟩ := hw; simp [execOp, go_sem, Act.eval, x2])⟩) (fun _ => ?_)
        simp only [Act.put, List.setIfInBounds_toArray, List.set_cons_zero, List.set_cons_succ]
        refine wpAnyL_pure (i := 18) (v := .int .i64 (-xl)) (by simp only [List.getElem?_toArray, List.getElem?_cons_zero, List.getElem?_cons_succ] <;> rfl) (by kernel_rfl) (by kernel_rfl) (by kernel_rfl) (by exact fun _ _ _ h => h) (by decide) (.inr ⟨RK.out, XN.out, RL.out⟩) (Or.inl ⟨by rfl, fun w _ => (by simp [execOp, go_sem, Act.eval, hwn])⟩) (fun _ => ?_)
        simp only [Act.put, List.setIfInBounds_toArray, List.set_cons_zero, List.set_cons_succ]
        refine wpAnyL_pure (i := 19) (v := .int .i64 (litVar xl)) (by simp only [List.getElem?_toArray, List.getElem?_cons_zero, List.getElem?_cons_succ] <;> rfl) (by kernel_rfl) (by kernel_rfl) (by kernel_rfl) (by exact fun _ _ _ h => h) (by decide) (.inr ⟨RK.out, XN.out, RL.out⟩) (Or.inl ⟨by rfl, fun w _ => (by simp [go_sem, Act.eval, hmx])⟩) (fun _ => ?_)
        simp only [Act.put, List.setIfInBounds_toArray, List.set_cons_zero, List.set_cons_succ]
        refine wpAnyL_one (i := 20) (by kernel_rfl) (by simp only [List.getElem?_toArray, List.getElem?_cons_zero, List.getElem?_cons_succ] <;> rfl) (by rfl) ?_
        refine opwp_call (f := 59) (args := #[encS (s1), .int .i64 (litVar xl)]) (w' := wr.drew) (by simp [go_sem, Act.eval]) ?_
        refine (with21_c s1 (litVar xl) wr.drew (by omega) (by omega)).mono ?_
        rintro e w7 ⟨rfl, hb6⟩
        refine .inl ⟨_, rfl, .inl (by kernel_rfl), ?_⟩
        simp only [Act.put, List.setIfInBounds_toArray, List.set_cons_zero, List.set_cons_succ]
        refine wpAnyL_pure (i := 21) (v := .pointer (some ⟨g, k * 2, none⟩)) (by simp only [List.getElem?_toArray, List.getElem?_cons_zero, List.getElem?_cons_succ] <;> rfl) (by kernel_rfl) (by kernel_rfl) (by kernel_rfl) (by exact fun _ _ _ h => h) (by decide) (.inl (by kernel_rfl)) (Or.inl ⟨by rfl, fun w _ => (by simp [execOp, go_sem, Act.eval, zk])⟩) (fun _ => ?_)
        simp only [Act.put, List.setIfInBounds_toArray, List.set_cons_zero, List.set_cons_succ]
        have hro7 := HRW.out.same ((((Below.refl _ wr).drew.trans hb6)).block g HRW.out.lt)
        obtain ⟨t2, ht2, y0, y1, y2, y3⟩ := hro7.getS k (by rw [rowV_length _ hkl]; exact hkl)
        refine wpAnyL_one (i := 22) (by kernel_rfl) (by simp only [List.getElem?_toArray, List.getElem?_cons_zero, List.getElem?_cons_succ] <;> rfl) (by rfl) ?_
        refine opwp_skip (w' := ((w7.setCell ⟨g, k * 2, none⟩ (.int .u64 ((lw (withV s1 (litVar xl))).toNat : Int))).setCell ⟨g, k * 2 + 1, none⟩ (.int .u64 ((hw (withV s1 (litVar xl))).toNat : Int)))) (by simp [execOp, go_sem, Act.eval, y0, y1, y2, y3]) ⟨.inl (by kernel_rfl), ?_⟩
        simp only [Act.put]
        refine wpAnyL_done (by kernel_rfl) ?_ _
        have HR2 := hid (hro7.store k (by rw [rowV_length _ hkl]; exact hkl) (withV s1 (litVar xl)))
        have HR3 := hid (show SetRow _ g (rowV L k (withV s1 (litVar xl))) from by rw [← rowV_set 0 _ hkl]; exact HR2.out)
        have hb7 := (Below.refl wr.heap.size wr).drew.trans hb6
        have HG2 := hid ((HBR.out.trans (hb7.mono HBR.out.size)).grown (grownBy_set2 w7 g (k * 2) (k * 2 + 1) (.int .u64 ((lw (withV s1 (litVar xl))).toNat : Int)) (.int .u64 ((hw (withV s1 (litVar xl))).toNat : Int))) (by have := HBR.out.size; have := hb7.size; omega) (by intro k e; have e2 := Option.some.inj e; have := HLW.out; omega))
        have HR4 := hid (show SetRow _ g (vsOf (L.take (k + 1)) ++ List.replicate (L.length - (k + 1)) 0) from by rw [HNX.out (withV s1 (litVar xl)) (by rw [HS1.out]; rfl)]; exact HR3.out)
        clear hro7 y0 y1 y2 y3 hb6 ht2 hb7 HR2 HR3 x0 x1 d0 d1 d2
        obtain ⟨x0, x1⟩ := HX.out.below HG2.out
        have d2 := (HU.out.below HG2.out).ins
        go_wp2_with fail
        go_rounds 1
        go_wp2_with fail
        go_roundw
        case rel => exact ⟨k + 1, by omega, by go_num, HR4.out, HG2.out⟩
        case measure => simp [intOf]; omega
      · have h2' : (xk == 2) = false := by simp [h2]
        have hl0 : litVar xl = 0 := litVar_no HFK.out h2
        have HL0 := hid hl0
        have HR6 := hid (show SetRow wr g (rowV L k (orIns (vsOf (L.take k)) (ofL [litVar xl]) (xi.take 0))) from by rw [hl0]; exact HRV.out)
        have HB6 := hid HBR.out
        clear h2 hl0
        go_wp2_with fail
        obtain ⟨wo, hwo⟩ : ∃ wo : World, wo = wr := ⟨_, rfl⟩
        subst hwo
        go_loopw [5] (fun z wq => ∃ (j : Nat), j ≤ xi.length ∧ z = .int .i64 j ∧ Hid (SetRow wq g (rowV L k (orIns (vsOf (L.take k)) (ofL [litVar xl]) (xi.take j)))) ∧ Hid (Below w2.heap.size w2 wq)) (fun z _ => xi.length - (intOf z).toNat)
        case atStart => exact ⟨0, Nat.zero_le _, rfl, HR6.out, HB6.out⟩
        case round =>
          clear HR6 HB6 x0 x1 d0 d1 d2
          obtain ⟨j, hj, rfl, hrow, hbr⟩ := hrel
          obtain ⟨x0, x1⟩ := HX.out.below hbr.out
          have d2 := (HU.out.below hbr.out).ins
          have hlg2 := hrow.out.lt
          by_cases hjl : j < xi.length
          · obtain ⟨p3, c3, e3, h3⟩ := show IntsAt wr (.slice p2 xi.length c2) xi from (HU.out.below hbr.out).ints
            injection e3 with e1 e4 e2
            clear e4
            subst e1; subst e2
            obtain ⟨b2, o2, rfl, hc⟩ := h3.resolve_left (by intro e; rw [e] at hjl; simp at hjl)
            have hcj := hc j hjl
            rw [List.getElem?_eq_getElem hjl, Option.getD_some] at hcj
            have hin := HIN.out _ (List.getElem_mem hjl)
            have HOR := hid (orIns_snoc (vsOf (L.take k)) (ofL [litVar xl]) (xi.take j) xi[j])
            rw [← List.take_succ_eq_append_getElem hjl] at HOR
            obtain ⟨u, hu⟩ : ∃ u : Nat, xi[j] = (u : Int) := ⟨xi[j].toNat, by omega⟩
            rw [hu] at hcj hin HOR
            have zj : (0 : Int) ≤ (j : Int) ∧ (j : Int) < (xi.length : Int) := by omega
            have zu : (0 : Int) ≤ (u : Int) ∧ (u : Int) < (L.length : Int) := by omega
            have hul : u < L.length := by omega
            obtain ⟨s1, hs1⟩ : ∃ s1, s1 = orIns (vsOf (L.take k)) (ofL [litVar xl]) (xi.take j) := ⟨_, rfl⟩
            rw [← hs1] at hrow HOR
            obtain ⟨t, ht, y0, y1, _, _⟩ := hrow.out.getS u (by rw [rowV_length _ hkl]; exact hul)
            obtain ⟨t', ht', z0, z1, _, _⟩ := hrow.out.getS k (by rw [rowV_length _ hkl]; exact hkl)
            rw [rowV_at _ hkl] at ht'
            subst ht'
            rw [rowV_low _ hkl _ (by omega)] at ht
            rw [ht] at HOR
            have RT : Hid (wr.drew.cell? ⟨g, u * 2, none⟩ = some (.int .u64 ((lw t).toNat : Int)) ∧ wr.drew.cell? ⟨g, u * 2 + 1, none⟩ = some (.int .u64 ((hw t).toNat : Int))) := ⟨y0, y1⟩
            have RK : Hid (wr.drew.cell? ⟨g, k * 2, none⟩ = some (.int .u64 ((lw s1).toNat : Int)) ∧ wr.drew.cell? ⟨g, k * 2 + 1, none⟩ = some (.int .u64 ((hw s1).toNat : Int))) := ⟨z0, z1⟩
            have XN : Hid (wr.drew.cell? ⟨w.heap.size, 1, none⟩ = some (.slice (some ⟨b, off, none⟩) L.length c)) := x1
            have RI : Hid (wr.drew.cell? ⟨b, off + k * 3 + 2, none⟩ = some (.slice (some ⟨b2, o2, none⟩) xi.length c2)) := d2
            have RJ : Hid (wr.drew.cell? ⟨b2, o2 + j, none⟩ = some (.int .i64 (u : Int))) := hcj
            have HRW := hid hrow.out
            have HBQ := hid hbr.out
            clear h3 hc hin hu hs1 y0 y1 z0 z1 ht hrow hbr
            go_wp2_with fail
            refine Go.Proofs.YtpdbfbjfodckgaaDoor.wp_region_L 21 18 (fun w' => (w'.cell? ⟨g, u * 2, none⟩ = some (.int .u64 ((lw (t)).toNat : Int)) ∧ w'.cell? ⟨g, u * 2 + 1, none⟩ = some (.int .u64 ((hw (t)).toNat : Int))) ∧ (w'.cell? ⟨g, k * 2, none⟩ = some (.int .u64 ((lw (s1)).toNat : Int)) ∧ w'.cell? ⟨g, k * 2 + 1, none⟩ = some (.int .u64 ((hw (s1)).toNat : Int))) ∧ w'.cell? ⟨w.heap.size, 1, none⟩ = some (.slice (some ⟨b, off, none⟩) L.length c) ∧ w'.cell? ⟨b, off + k * 3 + 2, none⟩ = some (.slice (some ⟨b2, o2, none⟩) xi.length c2) ∧ w'.cell? ⟨b2, o2 + j, none⟩ = some (.int .i64 (u : Int))) (by kernel_rfl) rfl ⟨RT.out, RK.out, XN.out, RI.out, RJ.out⟩ (fun _ => ?_)
            refine wpAnyL_pure (i := 0) (v := .slice (some ⟨g, 0, none⟩) L.length L.length) (by simp only [List.getElem?_toArray, List.getElem?_cons_zero] <;> rfl) (by kernel_rfl) (by kernel_rfl) (by kernel_rfl) (by exact fun _ _ _ h => h) (by decide) (.inr ⟨RT.out, RK.out, XN.out, RI.out, RJ.out⟩) (Or.inl ⟨by rfl, fun w _ => (by simp [execOp, go_sem, Act.eval])⟩) (fun _ => ?_)
            simp only [Act.put, List.setIfInBounds_toArray, List.set_cons_zero, List.set_cons_succ]
            refine wpAnyL_pure (i := 1) (v := .int .i64 (k : Int)) (by simp only [List.getElem?_toArray, List.getElem?_cons_zero, List.getElem?_cons_succ] <;> rfl) (by kernel_rfl) (by kernel_rfl) (by kernel_rfl) (by exact fun _ _ _ h => h) (by decide) (.inr ⟨RT.out, RK.out, XN.out, RI.out, RJ.out⟩) (Or.inl ⟨by rfl, fun w _ => (by simp [execOp, go_sem, Act.eval])⟩) (fun _ => ?_)
            simp only [Act.put, List.setIfInBounds_toArray, List.set_cons_zero, List.set_cons_succ]
            refine wpAnyL_pure (i := 2) (v := .slice (some ⟨g, 0, none⟩) L.length L.length) (by simp only [List.getElem?_toArray, List.getElem?_cons_zero, List.getElem?_cons_succ] <;> rfl) (by kernel_rfl) (by kernel_rfl) (by kernel_rfl) (by exact fun _ _ _ h => h) (by decide) (.inr ⟨RT.out, RK.out, XN.out, RI.out, RJ.out⟩) (Or.inl ⟨by rfl, fun w _ => (by simp [execOp, go_sem, Act.eval])⟩) (fun _ => ?_)
            simp only [Act.put, List.setIfInBounds_toArray, List.set_cons_zero, List.set_cons_succ]
            refine wpAnyL_pure (i := 3) (v := .int .i64 (k : Int)) (by simp only [List.getElem?_toArray, List.getElem?_cons_zero, List.getElem?_cons_succ] <;> rfl) (by kernel_rfl) (by kernel_rfl) (by kernel_rfl) (by exact fun _ _ _ h => h) (by decide) (.inr ⟨RT.out, RK.out, XN.out, RI.out, RJ.out⟩) (Or.inl ⟨by rfl, fun w _ => (by simp [execOp, go_sem, Act.eval])⟩) (fun _ => ?_)
            simp only [Act.put, List.setIfInBounds_toArray, List.set_cons_zero, List.set_cons_succ]
            refine wpAnyL_pure (i := 4) (v := .pointer (some ⟨g, k * 2, none⟩)) (by simp only [List.getElem?_toArray, List.getElem?_cons_zero, List.getElem?_cons_succ] <;> rfl) (by kernel_rfl) (by kernel_rfl) (by kernel_rfl) (by exact fun _ _ _ h => h) (by decide) (.inr ⟨RT.out, RK.out, XN.out, RI.out, RJ.out⟩) (Or.inl ⟨by rfl, fun w _ => (by simp [execOp, go_sem, Act.eval, zk])⟩) (fun _ => ?_)
            simp only [Act.put, List.setIfInBounds_toArray, List.set_cons_zero, List.set_cons_succ]
            refine wpAnyL_load2 (i := 5) (v := encS (s1)) (by simp only [List.getElem?_toArray, List.getElem?_cons_zero, List.getElem?_cons_succ] <;> rfl) (by kernel_rfl) (by kernel_rfl) (by kernel_rfl) (by exact fun _ _ _ h => h) (by decide) (Waits.one rfl ⟨⟨5, .data⟩, by simp, rfl, rfl⟩) (by kernel_rfl) (by kernel_rfl) (.inr ⟨RT.out, RK.out, XN.out, RI.out, RJ.out⟩) (Or.inl ⟨by rfl, fun w hw => (by obtain ⟨_, ⟨y1, z1⟩, _, _, _⟩ := hw; simp [execOp, go_sem, Act.eval, y1, z1])⟩) (fun _ => ?_)
            simp only [Act.put, List.setIfInBounds_toArray, List.set_cons_zero, List.set_cons_succ]
            refine wpAnyL_pure (i := 6) (v := .slice (some ⟨g, 0, none⟩) L.length L.length) (by simp only [List.getElem?_toArray, List.getElem?_cons_zero, List.getElem?_cons_succ] <;> rfl) (by kernel_rfl) (by kernel_rfl) (by kernel_rfl) (by exact fun _ _ _ h => h) (by decide) (.inr ⟨RT.out, RK.out, XN.out, RI.out, RJ.out⟩) (Or.inl ⟨by rfl, fun w _ => (by simp [execOp, go_sem, Act.eval])⟩) (fun _ => ?_)
            simp only [Act.put, List.setIfInBounds_toArray, List.set_cons_zero, List.set_cons_succ]
            refine wpAnyL_pure (i := 7) (v := .pointer (some ⟨w.heap.size, 1, none⟩)) (by simp only [List.getElem?_toArray, List.getElem?_cons_zero, List.getElem?_cons_succ] <;> rfl) (by kernel_rfl) (by kernel_rfl) (by kernel_rfl) (by exact fun _ _ _ h => h) (by decide) (.inr ⟨RT.out, RK.out, XN.out, RI.out, RJ.out⟩) (Or.inl ⟨by rfl, fun w _ => (by simp [execOp, go_sem, Act.eval])⟩) (fun _ => ?_)
            simp only [Act.put, List.setIfInBounds_toArray, List.set_cons_zero, List.set_cons_succ]
            refine wpAnyL_load2 (i := 8) (v := .slice (some ⟨b, off, none⟩) L.length c) (by simp only [List.getElem?_toArray, List.getElem?_cons_zero, List.getElem?_cons_succ] <;> rfl) (by kernel_rfl) (by kernel_rfl) (by kernel_rfl) (by exact fun _ _ _ h => h) (by decide) (Waits.more (j := 17) rfl ⟨⟨17, .data⟩, by simp, rfl, rfl⟩ (Waits.more (j := 16) rfl ⟨⟨16, .data⟩, by simp, rfl, rfl⟩ (Waits.more (j := 15) rfl ⟨⟨15, .data⟩, by simp, rfl, rfl⟩ (Waits.more (j := 14) rfl ⟨⟨14, .data⟩, by simp, rfl, rfl⟩ (Waits.more (j := 12) rfl ⟨⟨12, .data⟩, by simp, rfl, rfl⟩ (Waits.more (j := 11) rfl ⟨⟨11, .data⟩, by simp, rfl, rfl⟩ (Waits.more (j := 10) rfl ⟨⟨10, .data⟩, by simp, rfl, rfl⟩ (Waits.one rfl ⟨⟨8, .data⟩, by simp, rfl, rfl⟩)))))))) (by kernel_rfl) (by kernel_rfl) (.inr ⟨RT.out, RK.out, XN.out, RI.out, RJ.out⟩) (Or.inl ⟨by rfl, fun w hw => (by obtain ⟨_, _, x2, _, _⟩ := hw; simp [execOp, go_sem, Act.eval, x2])⟩) (fun _ => ?_)
            simp only [Act.put, List.setIfInBounds_toArray, List.set_cons_zero, List.set_cons_succ]
            refine wpAnyL_pure (i := 9) (v := .int .i64 (k : Int)) (by simp only [List.getElem?_toArray, List.getElem?_cons_zero, List.getElem?_cons_succ] <;> rfl) (by kernel_rfl) (by kernel_rfl) (by kernel_rfl) (by exact fun _ _ _ h => h) (by decide) (.inr ⟨RT.out, RK.out, XN.out, RI.out, RJ.out⟩) (Or.inl ⟨by rfl, fun w _ => (by simp [execOp, go_sem, Act.eval])⟩) (fun _ => ?_)
            simp only [Act.put, List.setIfInBounds_toArray, List.set_cons_zero, List.set_cons_succ]
            refine wpAnyL_pure (i := 10) (v := .pointer (some ⟨b, off + k * 3, none⟩)) (by simp only [List.getElem?_toArray, List.getElem?_cons_zero, List.getElem?_cons_succ] <;> rfl) (by kernel_rfl) (by kernel_rfl) (by kernel_rfl) (by exact fun _ _ _ h => h) (by decide) (.inr ⟨RT.out, RK.out, XN.out, RI.out, RJ.out⟩) (Or.inl ⟨by rfl, fun w _ => (by simp [execOp, go_sem, Act.eval, zk])⟩) (fun _ => ?_)
            simp only [Act.put, List.setIfInBounds_toArray, List.set_cons_zero, List.set_cons_succ]
            refine wpAnyL_pure (i := 11) (v := .pointer (some ⟨b, off + k * 3 + 2, none⟩)) (by simp only [List.getElem?_toArray, List.getElem?_cons_zero, List.getElem?_cons_succ] <;> rfl) (by kernel_rfl) (by kernel_rfl) (by kernel_rfl) (by exact fun _ _ _ h => h) (by decide) (.inr ⟨RT.out, RK.out, XN.out, RI.out, RJ.out⟩) (Or.inl ⟨by rfl, fun w _ => (by simp [execOp, go_sem, Act.eval])⟩) (fun _ => ?_)
            simp only [Act.put, List.setIfInBounds_toArray, List.set_cons_zero, List.set_cons_succ]
            refine wpAnyL_load2 (i := 12) (v := .slice (some ⟨b2, o2, none⟩) xi.length c2) (by simp only [List.getElem?_toArray, List.getElem?_cons_zero, List.getElem?_cons_succ] <;> rfl) (by kernel_rfl) (by kernel_rfl) (by kernel_rfl) (by exact fun _ _ _ h => h) (by decide) (Waits.more (j := 17) rfl ⟨⟨17, .data⟩, by simp, rfl, rfl⟩ (Waits.more (j := 16) rfl ⟨⟨16, .data⟩, by simp, rfl, rfl⟩ (Waits.more (j := 15) rfl ⟨⟨15, .data⟩, by simp, rfl, rfl⟩ (Waits.more (j := 14) rfl ⟨⟨14, .data⟩, by simp, rfl, rfl⟩ (Waits.one rfl ⟨⟨12, .data⟩, by simp, rfl, rfl⟩))))) (by kernel_rfl) (by kernel_rfl) (.inr ⟨RT.out, RK.out, XN.out, RI.out, RJ.out⟩) (Or.inl ⟨by rfl, fun w hw => (by obtain ⟨_, _, _, x3, _⟩ := hw; simp [execOp, go_sem, Act.eval, x3])⟩) (fun _ => ?_)
            simp only [Act.put, List.setIfInBounds_toArray, List.set_cons_zero, List.set_cons_succ]
            refine wpAnyL_pure (i := 13) (v := .int .i64 (j : Int)) (by simp only [List.getElem?_toArray, List.getElem?_cons_zero, List.getElem?_cons_succ] <;> rfl) (by kernel_rfl) (by kernel_rfl) (by kernel_rfl) (by exact fun _ _ _ h => h) (by decide) (.inr ⟨RT.out, RK.out, XN.out, RI.out, RJ.out⟩) (Or.inl ⟨by rfl, fun w _ => (by simp [execOp, go_sem, Act.eval])⟩) (fun _ => ?_)
            simp only [Act.put, List.setIfInBounds_toArray, List.set_cons_zero, List.set_cons_succ]
            refine wpAnyL_pure (i := 14) (v := .pointer (some ⟨b2, o2 + j, none⟩)) (by simp only [List.getElem?_toArray, List.getElem?_cons_zero, List.getElem?_cons_succ] <;> rfl) (by kernel_rfl) (by kernel_rfl) (by kernel_rfl) (by exact fun _ _ _ h => h) (by decide) (.inr ⟨RT.out, RK.out, XN.out, RI.out, RJ.out⟩) (Or.inl ⟨by rfl, fun w _ => (by simp [execOp, go_sem, Act.eval, zj])⟩) (fun _ => ?_)
            simp only [Act.put, List.setIfInBounds_toArray, List.set_cons_zero, List.set_cons_succ]
            refine wpAnyL_load2 (i := 15) (v := .int .i64 (u : Int)) (by simp only [List.getElem?_toArray, List.getElem?_cons_zero, List.getElem?_cons_succ] <;> rfl) (by kernel_rfl) (by kernel_rfl) (by kernel_rfl) (by exact fun _ _ _ h => h) (by decide) (Waits.more (j := 17) rfl ⟨⟨17, .data⟩, by simp, rfl, rfl⟩ (Waits.more (j := 16) rfl ⟨⟨16, .data⟩, by simp, rfl, rfl⟩ (Waits.one rfl ⟨⟨15, .data⟩, by simp, rfl, rfl⟩))) (by kernel_rfl) (by kernel_rfl) (.inr ⟨RT.out, RK.out, XN.out, RI.out, RJ.out⟩) (Or.inl ⟨by rfl, fun w hw => (by obtain ⟨_, _, _, _, x4⟩ := hw; simp [execOp, go_sem, Act.eval, x4])⟩) (fun _ => ?_)
            simp only [Act.put, List.setIfInBounds_toArray, List.set_cons_zero, List.set_cons_succ]
            refine wpAnyL_pure (i := 16) (v := .pointer (some ⟨g, u * 2, none⟩)) (by simp only [List.getElem?_toArray, List.getElem?_cons_zero, List.getElem?_cons_succ] <;> rfl) (by kernel_rfl) (by kernel_rfl) (by kernel_rfl) (by exact fun _ _ _ h => h) (by decide) (.inr ⟨RT.out, RK.out, XN.out, RI.out, RJ.out⟩) (Or.inl ⟨by rfl, fun w _ => (by simp [execOp, go_sem, Act.eval, zu])⟩) (fun _ => ?_)
            simp only [Act.put, List.setIfInBounds_toArray, List.set_cons_zero, List.set_cons_succ]
            refine wpAnyL_load2 (i := 17) (v := encS (t)) (by simp only [List.getElem?_toArray, List.getElem?_cons_zero, List.getElem?_cons_succ] <;> rfl) (by kernel_rfl) (by kernel_rfl) (by kernel_rfl) (by exact fun _ _ _ h => h) (by decide) (Waits.one rfl ⟨⟨17, .data⟩, by simp, rfl, rfl⟩) (by kernel_rfl) (by kernel_rfl) (.inr ⟨RT.out, RK.out, XN.out, RI.out, RJ.out⟩) (Or.inl ⟨by rfl, fun w hw => (by obtain ⟨⟨y0, z0⟩, _, _, _, _⟩ := hw; simp [execOp, go_sem, Act.eval, y0, z0])⟩) (fun _ => ?_)
            simp only [Act.put, List.setIfInBounds_toArray, List.set_cons_zero, List.set_cons_succ]
            refine wpAnyL_one (i := 18) (by kernel_rfl) (by simp only [List.getElem?_toArray, List.getElem?_cons_zero, List.getElem?_cons_succ] <;> rfl) (by rfl) ?_
            refine opwp_call (f := 53) (args := #[encS (s1), encS (t)]) (w' := wr.drew) (by simp [go_sem, Act.eval]) ?_
            refine (union21_c s1 t wr.drew).mono ?_
            rintro e w7 ⟨rfl, hb6⟩
            refine .inl ⟨_, rfl, .inl (by kernel_rfl), ?_⟩
            simp only [Act.put, List.setIfInBounds_toArray, List.set_cons_zero, List.set_cons_succ]
            refine wpAnyL_pure (i := 19) (v := .pointer (some ⟨g, k * 2, none⟩)) (by simp only [List.getElem?_toArray, List.getElem?_cons_zero, List.getElem?_cons_succ] <;> rfl) (by kernel_rfl) (by kernel_rfl) (by kernel_rfl) (by exact fun _ _ _ h => h) (by decide) (.inl (by kernel_rfl)) (Or.inl ⟨by rfl, fun w _ => (by simp [execOp, go_sem, Act.eval, zk])⟩) (fun _ => ?_)
            simp only [Act.put, List.setIfInBounds_toArray, List.set_cons_zero, List.set_cons_succ]
            have hro7 := HRW.out.same ((((Below.refl _ wr).drew.trans hb6)).block g HRW.out.lt)
            obtain ⟨t2, ht2, y0, y1, y2, y3⟩ := hro7.getS k (by rw [rowV_length _ hkl]; exact hkl)
            refine wpAnyL_one (i := 20) (by kernel_rfl) (by simp only [List.getElem?_toArray, List.getElem?_cons_zero, List.getElem?_cons_succ] <;> rfl) (by rfl) ?_
            refine opwp_skip (w' := ((w7.setCell ⟨g, k * 2, none⟩ (.int .u64 ((lw (s1 ||| t)).toNat : Int))).setCell ⟨g, k * 2 + 1, none⟩ (.int .u64 ((hw (s1 ||| t)).toNat : Int)))) (by simp [execOp, go_sem, Act.eval, y0, y1, y2, y3]) ⟨.inl (by kernel_rfl), ?_⟩
            simp only [Act.put]
            refine wpAnyL_done (by kernel_rfl) ?_ _
            have HR2 := hid (hro7.store k (by rw [rowV_length _ hkl]; exact hkl) (s1 ||| t))
            have HR3 := hid (show SetRow _ g (rowV L k (s1 ||| t)) from by rw [← rowV_set s1 _ hkl]; exact HR2.out)
            have hb7 := (Below.refl wr.heap.size wr).drew.trans hb6
            have HG2 := hid ((HBQ.out.trans (hb7.mono HBQ.out.size)).grown (grownBy_set2 w7 g (k * 2) (k * 2 + 1) (.int .u64 ((lw (s1 ||| t)).toNat : Int)) (.int .u64 ((hw (s1 ||| t)).toNat : Int))) (by have := HBQ.out.size; have := hb7.size; omega) (by intro k e; have e2 := Option.some.inj e; have := HLW.out; omega))
            clear hro7 y0 y1 y2 y3 hb6 ht2 hb7 HR2 x0 x1 d2
            go_wp2_with fail
            go_roundw
            case rel => exact ⟨j + 1, by omega, by go_num, (by rw [HOR.out]; exact HR3.out), HG2.out⟩
            case measure => simp [intOf]; omega
          · obtain rfl : j = xi.length := by omega
            rw [List.take_length] at hrow
            have HN2 := HNX.out (orIns (vsOf (L.take k)) (ofL [litVar xl]) xi) rfl
            have HRW := hid (show SetRow wr g (vsOf (L.take (k + 1)) ++ List.replicate (L.length - (k + 1)) 0) from by rw [HN2]; exact hrow.out)
            have HBQ := hid hbr.out
            clear hrow hbr HN2 HNX HIN
            go_wp2_with fail
            go_roundw
            case rel => exact ⟨k + 1, by omega, by go_num, HRW.out, HBQ.out⟩
            case measure => simp [intOf]; omega
    · obtain rfl : k = L.length := by omega
      rw [List.take_length, Nat.sub_self, List.replicate_zero, List.append_nil] at hrow
      have HRW := hid hrow.out
      have HBQ := hid hbr.out
      clear hrow hbr
      go_wp2_with fail
      go_ret
      refine ⟨g, rfl, ?_, HRW.out, ?_⟩
      · have := HG.out; omega
      · exact HB2.out.trans (HBQ.out.mono HB2.out.size)
end Go.Proofs.YtpdbfbjfodckgaaDoor
