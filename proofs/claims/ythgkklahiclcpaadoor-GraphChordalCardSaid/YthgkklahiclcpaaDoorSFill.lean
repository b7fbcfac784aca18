/- Walks: the reference of the layer graph: the graph with the edges that an order brings about. -/
import Derived.Test.YthgkklahiclcpaaDoorSLaw3
import Derived.Test.YthgkklahiclcpaaDoorSFillP
namespace Go.Proofs.YthgkklahiclcpaaDoor
open Go.RowKit
attribute [local go_sem ↓] run_eqlS run_neqS run_eqlS0 run_neqS0

theorem fillSt_ok {M : List VS} (h : ValidG M) {v : Int} (h1 : 1 ≤ v ∧ v < (M.length : Int)) : ValidG (elR M v) := elR_valid h (by omega) h1.2
set_option maxRecDepth 100000 in
set_option maxHeartbeats 8000000 in
theorem rFilled_c (v v2 : Value) (L : List VS) (l : List Int) (w : World) (hI : SetsAt w v L) (hJ : IntsAt w v2 l) (hV : ValidG L) (hr : ∀ x ∈ l, 1 ≤ x ∧ x < (L.length : Int)) (hl : l.length ≤ 128) :
    Calls Tryd.prog 28 #[v, v2] w fun e w' => ∃ u, e = .returned u ∧ SetsAt w' u (filledR L l) ∧ Below w.heap.size w w' := by
  have hpos := hV.pos
  have hle := hV.le
  obtain ⟨b0, o0, c, rfl, hb0⟩ := hI.form (by omega)
  have HVL := hid hV
  have HR := hid hr
  have hb1 : Below w.heap.size w (w.alloc (.cells #[] 35)) := (Below.refl _ w).alloc (Nat.le_refl _) _
  have hI1 := hI.below hb1
  have hN1 := SetRow.none w
  obtain ⟨p2, c2, rfl, hJc⟩ := id hJ
  have HJ := hid hJc
  clear hV hr hJc
  go_enter Tryd.func28, Tryd.ntmps28
  go_wp2_with (at_builtin; refine wpList_append_sets rfl _ _ rfl w.heap.size rfl hN1 _ L rfl hI1 (by omega) ?_; intro g cg w2 hR2 hg2 hb2 hcl hcm)
  have hB2 := hb1.trans (hb2.mono hb1.size)
  have hI2 := hI.below hB2
  have hS2 := hR2.sets cg
  clear hb1 hI1 hN1 hb2 hR2 hI
  go_loopw [5, 6, 7] (fun o u i wr => ∃ (k : Nat) (M N : List VS), k ≤ l.length ∧ i = .int .i64 k ∧ Hid ((M, N) = (l.take k).foldl fillSt (L, L)) ∧ Hid (ValidG M) ∧ Hid (M.length = L.length) ∧ Hid (N.length = L.length) ∧ SetsAt wr o N ∧ SetsAt wr u M ∧ Below w.heap.size w wr) (fun _ _ i _ => l.length - (intOf i).toNat)
  case atStart => exact ⟨0, L, L, Nat.zero_le _, rfl, rfl, HVL.out, rfl, rfl, hS2, hI2, hB2⟩
  case round =>
    clear hI2 hS2 hB2
    obtain ⟨k, M, N, hk, rfl, HMN, HMV, HML, HNL, hN, hM, hB⟩ := hrel
    have hml : M.length = L.length := HML.out
    have hnl : N.length = L.length := HNL.out
    obtain ⟨ga, gao, gac, rfl, hga⟩ := hN.form (by omega)
    obtain ⟨gm, gmo, gmc, rfl, hgm⟩ := hM.form (by omega)
    by_cases hkl : k < l.length
    · obtain ⟨b, off, rfl, hm⟩ := HJ.out.resolve_left (by intro e; rw [e] at hkl; simp at hkl)
      have hc := hm k hkl
      rw [List.getElem?_eq_getElem hkl, Option.getD_some] at hc
      have HCL := hid (cell_lt hc)
      have hc2 := (hB.cell (cell_lt hc)).trans hc
      have hrg := HR.out l[k] (List.getElem_mem hkl)
      obtain ⟨un, hun⟩ : ∃ un : Nat, l[k] = (un : Int) := ⟨(l[k]).toNat, by omega⟩
      have HTK := hid (List.take_succ_eq_append_getElem hkl)
      rw [hun] at hc hc2 hrg HTK
      have HCC := hid hc
      have HRG := hid hrg
      have hlu : un < M.length := by omega
      have zk : (0 : Int) ≤ (k : Int) ∧ (k : Int) < (l.length : Int) := by omega
      have HMI := hid (rMissing_c _ M un wr hM hlu (fun x hx => by have := HMV.out.range hx; omega) (by omega))
      have HLU := hid hlu
      clear hm hc hun hrg hlu hml hnl
      go_wp2_with fail
      refine HMI.out.mono ?_
      rintro e w3 ⟨v3, rfl, hn3, hb3⟩
      have hB3 := hB.trans (hb3.mono hB.size)
      have hN3 := hN.below hb3
      have hM3 := hM.below hb3
      obtain ⟨pm, cm, e4, hm⟩ := hn3.ints
      subst e4
      have HM := hid hm
      have HIP := hid (inP_miss HMV.out (un : Int))
      have hml : (missP (gOf M) (un : Int)).length ≤ 16384 := by
        have h1 := missTo_length (gOf M) (mems (gOf M (un : Int))) (mems (gOf M (un : Int))).length (mems_length _)
        have h2 := mems_length (gOf M (un : Int))
        unfold missP
        omega
      have HFL := hid (flat_length (missP (gOf M) (un : Int)))
      have HST : Hid (fillSt (M, N) (un : Int) = (elR M (un : Int), joinAll N (missP (gOf M) (un : Int)))) := hid rfl
      clear hm hn3 hb3 hB hN hM hc2 HMI
      generalize missP (gOf M) (un : Int) = ps at *
      generalize hfl : flat ps = fl at *
      go_wp2_with fail
      obtain ⟨wo, hwo⟩ : ∃ wo : World, wo = w3 := ⟨_, rfl⟩
      go_loopw [5, 9] (fun o i wq => ∃ (j q : Nat) (N' : List VS), j ≤ ps.length ∧ i = .int .i64 (q : Int) ∧ Hid (q = 2 * j) ∧ Hid (N' = joinAll N (ps.take j)) ∧ Hid (N'.length = L.length) ∧ SetsAt wq o N' ∧ Below w3.heap.size w3 wq) (fun _ i _ => 2 * ps.length - (intOf i).toNat)
      case atStart => exact ⟨0, 0, N, Nat.zero_le _, rfl, rfl, (by show N = joinAll N (ps.take 0); simp [joinAll]), HNL.out, hN3, Below.refl _ _⟩
      case round =>
        clear hwo
        obtain ⟨j, q, N', hj, rfl, HQ, HN', HNL', hNr, hBq⟩ := hrel
        have hszr := hBq.size
        have hfll : fl.length = 2 * ps.length := HFL.out
        have hq : q = 2 * j := HQ.out
        have hqb : q ≤ 32768 := by omega
        have hnl' : N'.length = L.length := HNL'.out
        obtain ⟨gb, go, gc, rfl, hgb⟩ := hNr.form (by omega)
        by_cases hjl : j < ps.length
        · obtain ⟨bm, om, rfl, hm⟩ := HM.out.resolve_left (by intro e; rw [e] at hfll; simp at hfll; omega)
          have hck := hm q (by omega)
          have hck2 := hm (q + 1) (by omega)
          obtain ⟨e1, e2⟩ := flat_get ps j hjl
          rw [hfl, ← hq] at e1 e2
          rw [e1, Option.getD_some] at hck
          rw [e2, Option.getD_some] at hck2
          have hin := HIP.out ps[j] (List.getElem_mem hjl)
          obtain ⟨xn, hxn⟩ : ∃ xn : Nat, ps[j].1 = (xn : Int) := ⟨(ps[j].1).toNat, by omega⟩
          obtain ⟨yn, hyn⟩ : ∃ yn : Nat, ps[j].2 = (yn : Int) := ⟨(ps[j].2).toNat, by omega⟩
          rw [hxn] at hck hin
          rw [hyn] at hck2 hin
          have c1 := (hBq.cell (cell_lt hck)).trans hck
          have c2 := (hBq.cell (cell_lt hck2)).trans hck2
          have HNX : Hid (joinL N' (xn : Int) (yn : Int) = joinAll N (ps.take (j + 1))) := by
            show _ = _
            rw [List.take_succ_eq_append_getElem hjl, joinAll_snoc, HN'.out, ← hxn, ← hyn]
          have zj : (0 : Int) ≤ (q : Int) ∧ (q : Int) < (fl.length : Int) := by omega
          have zk : (0 : Int) ≤ (q : Int) + 1 ∧ (q : Int) + 1 < (fl.length : Int) := by omega
          have zw : IntKind.i64.wrap ((q : Int) + 1) = (q : Int) + 1 := by rw [IntKind.wrap_i64]; omega
          have zt : ((q : Int) + 1).toNat = q + 1 := by omega
          have zl : q < fl.length := by omega
          have hSd : SetsAt wr.drew (.slice (some ⟨gb, go, none⟩) N'.length gc) N' := hNr.below (Below.refl _ wr).drew
          have hm1 := HML.out
          have hxl : xn < N'.length := by omega
          have hyl : yn < N'.length := by omega
          have hmm : N'.length ≤ 129 := by omega
          clear hm hck hck2 e1 e2 hxn hyn hfll hq hnl' hm1
          go_wp2_with fail
          refine Go.Proofs.YthgkklahiclcpaaDoor.wp_region_L 12 10 (fun w' => w'.cell? ⟨bm, om + q, none⟩ = some (.int .i64 (xn : Int)) ∧ w'.cell? ⟨bm, om + (q + 1), none⟩ = some (.int .i64 (yn : Int))) (by kernel_rfl) rfl ⟨c1, c2⟩ (fun hS => ?_)
          refine wpAnyL_pure (i := 0) (v := .slice (some ⟨gb, go, none⟩) N'.length gc) (by simp only [List.getElem?_toArray, List.getElem?_cons_zero] <;> rfl) (by kernel_rfl) (by kernel_rfl) (by kernel_rfl) (by exact fun _ _ _ h => h) (by decide) hS (Or.inl ⟨by rfl, fun w _ => (by simp [execOp, go_sem, Act.eval])⟩) (fun hS => ?_)
          simp only [Act.put, List.setIfInBounds_toArray, List.set_cons_zero, List.set_cons_succ]
          refine wpAnyL_pure (i := 1) (v := .slice (some ⟨bm, om, none⟩) fl.length cm) (by simp only [List.getElem?_toArray, List.getElem?_cons_zero, List.getElem?_cons_succ] <;> rfl) (by kernel_rfl) (by kernel_rfl) (by kernel_rfl) (by exact fun _ _ _ h => h) (by decide) hS (Or.inl ⟨by rfl, fun w _ => (by simp [execOp, go_sem, Act.eval])⟩) (fun hS => ?_)
          simp only [Act.put, List.setIfInBounds_toArray, List.set_cons_zero, List.set_cons_succ]
          refine wpAnyL_pure (i := 2) (v := .int .i64 (q : Int)) (by simp only [List.getElem?_toArray, List.getElem?_cons_zero, List.getElem?_cons_succ] <;> rfl) (by kernel_rfl) (by kernel_rfl) (by kernel_rfl) (by exact fun _ _ _ h => h) (by decide) hS (Or.inl ⟨by rfl, fun w _ => (by simp [execOp, go_sem, Act.eval])⟩) (fun hS => ?_)
          simp only [Act.put, List.setIfInBounds_toArray, List.set_cons_zero, List.set_cons_succ]
          refine wpAnyL_pure (i := 3) (v := .pointer (some ⟨bm, om + q, none⟩)) (by simp only [List.getElem?_toArray, List.getElem?_cons_zero, List.getElem?_cons_succ] <;> rfl) (by kernel_rfl) (by kernel_rfl) (by kernel_rfl) (by exact fun _ _ _ h => h) (by decide) hS (Or.inl ⟨by rfl, fun w _ => (by simp [execOp, go_sem, Act.eval, zj])⟩) (fun hS => ?_)
          simp only [Act.put, List.setIfInBounds_toArray, List.set_cons_zero, List.set_cons_succ]
          refine wpAnyL_load (i := 4) (v := .int .i64 (xn : Int)) (by simp only [List.getElem?_toArray, List.getElem?_cons_zero, List.getElem?_cons_succ] <;> rfl) (by kernel_rfl) (by kernel_rfl) (by kernel_rfl) (by exact fun _ _ _ h => h) (by decide) ⟨_, rfl, ⟨4, .data⟩, by simp, rfl, rfl⟩ (by kernel_rfl) hS (Or.inl ⟨by rfl, fun w hw => (by obtain ⟨x0, x1⟩ := hw; simp [execOp, go_sem, Act.eval, x0])⟩) (fun hS => ?_)
          simp only [Act.put, List.setIfInBounds_toArray, List.set_cons_zero, List.set_cons_succ]
          refine wpAnyL_pure (i := 5) (v := .slice (some ⟨bm, om, none⟩) fl.length cm) (by simp only [List.getElem?_toArray, List.getElem?_cons_zero, List.getElem?_cons_succ] <;> rfl) (by kernel_rfl) (by kernel_rfl) (by kernel_rfl) (by exact fun _ _ _ h => h) (by decide) hS (Or.inl ⟨by rfl, fun w _ => (by simp [execOp, go_sem, Act.eval])⟩) (fun hS => ?_)
          simp only [Act.put, List.setIfInBounds_toArray, List.set_cons_zero, List.set_cons_succ]
          refine wpAnyL_pure (i := 6) (v := .int .i64 (q : Int)) (by simp only [List.getElem?_toArray, List.getElem?_cons_zero, List.getElem?_cons_succ] <;> rfl) (by kernel_rfl) (by kernel_rfl) (by kernel_rfl) (by exact fun _ _ _ h => h) (by decide) hS (Or.inl ⟨by rfl, fun w _ => (by simp [execOp, go_sem, Act.eval])⟩) (fun hS => ?_)
          simp only [Act.put, List.setIfInBounds_toArray, List.set_cons_zero, List.set_cons_succ]
          refine wpAnyL_pure (i := 7) (v := .int .i64 ((q : Int) + 1)) (by simp only [List.getElem?_toArray, List.getElem?_cons_zero, List.getElem?_cons_succ] <;> rfl) (by kernel_rfl) (by kernel_rfl) (by kernel_rfl) (by exact fun _ _ _ h => h) (by decide) hS (Or.inl ⟨by rfl, fun w _ => (by simp [execOp, go_sem, Act.eval, zw])⟩) (fun hS => ?_)
          simp only [Act.put, List.setIfInBounds_toArray, List.set_cons_zero, List.set_cons_succ]
          refine wpAnyL_pure (i := 8) (v := .pointer (some ⟨bm, om + (q + 1), none⟩)) (by simp only [List.getElem?_toArray, List.getElem?_cons_zero, List.getElem?_cons_succ] <;> rfl) (by kernel_rfl) (by kernel_rfl) (by kernel_rfl) (by exact fun _ _ _ h => h) (by decide) hS (Or.inl ⟨by rfl, fun w _ => (by simp [execOp, go_sem, Act.eval, zk, zt])⟩) (fun hS => ?_)
          simp only [Act.put, List.setIfInBounds_toArray, List.set_cons_zero, List.set_cons_succ]
          refine wpAnyL_load (i := 9) (v := .int .i64 (yn : Int)) (by simp only [List.getElem?_toArray, List.getElem?_cons_zero, List.getElem?_cons_succ] <;> rfl) (by kernel_rfl) (by kernel_rfl) (by kernel_rfl) (by exact fun _ _ _ h => h) (by decide) ⟨_, rfl, ⟨9, .data⟩, by simp, rfl, rfl⟩ (by kernel_rfl) hS (Or.inl ⟨by rfl, fun w hw => (by obtain ⟨x0, x1⟩ := hw; simp [execOp, go_sem, Act.eval, x1])⟩) (fun hS => ?_)
          simp only [Act.put, List.setIfInBounds_toArray, List.set_cons_zero, List.set_cons_succ]
          refine wpAnyL_one (i := 10) (by kernel_rfl) (by simp only [List.getElem?_toArray, List.getElem?_cons_zero, List.getElem?_cons_succ] <;> rfl) (by rfl) ?_
          refine opwp_call (f := 55) (args := #[.slice (some ⟨gb, go, none⟩) N'.length gc, .int .i64 (xn : Int), .int .i64 (yn : Int)]) (w' := wr.drew) (by simp [go_sem, Act.eval]) ?_
          refine (rJoin_c _ N' xn yn wr.drew hSd hxl hyl hmm).mono ?_
          rintro e w5 ⟨g5, c5, rfl, hg5, hR5, hb5, hc5, hm5⟩
          refine .inl ⟨_, rfl, .inl (by kernel_rfl), ?_⟩
          simp only [Act.put, List.setIfInBounds_toArray, List.set_cons_zero, List.set_cons_succ]
          refine wpAnyL_one (i := 11) (by kernel_rfl) (by simp only [List.getElem?_toArray, List.getElem?_cons_zero, List.getElem?_cons_succ] <;> rfl) (by rfl) ?_
          refine opwp_value (v := .slice (some ⟨g5, 0, none⟩) (joinL N' (xn : Int) (yn : Int)).length c5) (w' := w5) (by simp [execOp, go_sem, Act.eval]) ⟨.inl (by kernel_rfl), ?_⟩
          simp only [Act.put, List.setIfInBounds_toArray, List.set_cons_zero, List.set_cons_succ]
          refine wpAnyL_done (by kernel_rfl) ?_ _
          have hB5 := hBq.drew.trans (hb5.mono hszr)
          clear hS c1 c2 hSd hNr hb5
          go_wp2_with fail
          go_roundw
          case rel => exact ⟨j + 1, q + 2, _, by omega, by go_num, by show q + 2 = 2 * (j + 1); have := HQ.out; omega, HNX.out, (joinL_length N' _ _).trans HNL'.out, hR5.sets c5, hB5⟩
          case measure => simp [intOf]; have := HQ.out; omega
        · obtain rfl : j = ps.length := by omega
          have zl : ¬ q < fl.length := by omega
          have hBw := hB3.trans (hBq.mono hB3.size)
          have hM4 := hM3.below hBq
          have hc4 := (hBw.cell HCL.out).trans HCC.out
          have HE := hid (rEliminate_c _ M un wr hM4 HLU.out HMV.out)
          have hNJ : Hid (N' = joinAll N ps) := by
            show _ = _
            rw [HN'.out, List.take_length]
          clear hfll hq hnl' hM4
          go_wp2_with fail
          refine HE.out.mono ?_
          rintro e w6 ⟨g6, c6, rfl, hg6, hR6, hb6, hc6, hm6⟩
          have hB6 := hBw.trans (hb6.mono hBw.size)
          have hN6 := hNr.below hb6
          have HFIN : Hid ((elR M (un : Int), N') = (l.take (k + 1)).foldl fillSt (L, L)) := by
            show _ = _
            rw [HTK.out, List.foldl_append, ← HMN.out, hNJ.out]
            exact HST.out.symm
          have HEV := hid (fillSt_ok HMV.out (v := (un : Int)) (by have := HRG.out; have := HML.out; omega))
          clear hNr hb6 hc4 HE
          go_wp2_with fail
          go_roundw
          case rel => exact ⟨k + 1, elR M (un : Int), N', by omega, by go_num, HFIN.out, HEV.out, (elR_length M _).trans HML.out, HNL'.out, hN6, hR6.sets c6, hB6⟩
          case measure => simp [intOf]; omega
    · obtain rfl : k = l.length := by omega
      have HF : Hid (filledR L l = N) := by
        show _ = _
        have h := HMN.out
        rw [List.take_length] at h
        unfold filledR
        rw [← h]
      clear hml hnl
      go_wp2_with fail
      go_ret
      exact ⟨_, rfl, by rw [HF.out]; exact hN, hB⟩
end Go.Proofs.YthgkklahiclcpaaDoor
