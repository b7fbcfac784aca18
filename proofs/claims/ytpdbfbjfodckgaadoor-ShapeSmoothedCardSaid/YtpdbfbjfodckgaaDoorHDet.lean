/- Walks: which nets are deterministic. -/
import Derived.Test.YtpdbfbjfodckgaaDoorHSep
namespace Go.Proofs.YtpdbfbjfodckgaaDoor
open Go.RowKit

/-- The patterns, in their variable. -/
def PatAt (w : World) : Prop := ∀ i, i < 6 → w.cell? ⟨0, i, none⟩ = some (.int .u64 ((patW i).toNat : Int))
theorem PatAt.below {w w' : World} (h : PatAt w) {B : Nat} (hB : 0 < B) (hb : Below B w w') : PatAt w' := fun j hj => (hb.cell (p := ⟨_, j, none⟩) hB).trans (h j hj)
theorem PatAt.lt {w : World} (h : PatAt w) : 0 < w.heap.size := cell_lt (h 0 (by decide))
theorem zeros129 : Tryd.zeroCells75 = Array.replicate 129 (.int .u64 0) := by kernel_rfl
theorem WArr.new (w : World) : WArr (w.alloc (.cells Tryd.zeroCells75 75)) w.heap.size (fun _ => 0) :=
  ⟨_, _, heap_alloc_new w _, by rw [zeros129]; exact Array.size_replicate, fun i hi => by rw [zeros129, Array.getElem?_replicate, if_pos hi]; rfl⟩
theorem info_u64 : (Tryd.prog.info? 40).map (fun i => (i.zero, i.size, i.bytes)) = some (some (.int .u64 0), 1, 8) := by kernel_rfl
theorem make_words (w : World) (n : Nat) (hn : n ≤ 65536) (x y : Int) (hx : x = (n : Int)) (hy : y = (n : Int)) :
    (Instr.makeSlice 74 (.int .i64 x) (.int .i64 y)).run Tryd.prog w = .ok (.slice (some ⟨w.heap.size, 0, none⟩) n n) (w.alloc (.cells (madeCells (Value.int .u64 0).cells n) 40)) := by
  subst hx; subst hy
  obtain ⟨i0, hi, hz0, hz1, hz2⟩ := info_parts info_u64
  have := run_makeSlice (P := Tryd.prog) w 74 40 i0 (.int .u64 0) Tryd.underlying74 hi hz0 .i64 .i64 (n : Int) (n : Int) (by omega) (Int.le_refl _) (by rw [hz1, Int.toNat_natCast]; omega) (by rw [hz2]; omega) (by omega)
  rw [hz1, Int.toNat_natCast, Nat.mul_one] at this
  exact this
theorem URow.made (w : World) (n : Nat) : URow (w.alloc (.cells (madeCells (Value.int .u64 0).cells n) 40)) w.heap.size (List.replicate n 0) :=
  ⟨_, _, heap_alloc_new w _, by simp [size_madeCells], fun i hi => by
    have h2 : i < n := by simpa using hi
    rw [List.getElem_replicate]
    simp [madeCells, h2, Value.cells, Nat.mod_one]⟩
theorem i64_and_one (n : Int) : bits .and .i64 n 1 = n % 2 := by
  have h1 : (BitVec.ofInt 64 1).toNat = 2 ^ 1 - 1 := by decide
  have key : (BitVec.ofInt 64 n &&& BitVec.ofInt 64 1).toNat = (n % ((2 ^ 64 : Nat) : Int)).toNat % 2 ^ 1 := by
    rw [BitVec.toNat_and, BitVec.toNat_ofInt, h1, Nat.and_two_pow_sub_one_eq_mod]
  show IntKind.i64.wrap ((BitVec.ofInt 64 n &&& BitVec.ofInt 64 1).toNat : Nat) = n % 2
  rw [key, IntKind.wrap_i64]
  omega
attribute [local go_sem] i64_and_one
theorem wordsK_next {l : List Int} {b i : Nat} {W : Int → WD} (hi : i < l.length) (q : Int) (x : WD) (hq : l[i] = q) (hW : W = wordsK l b i) (hx : x = if i < 6 then patW i else ones64) (hb : i < 6 ∨ b.testBit (i - 6) = true) :
    (fun v => if v = q then x else W v) = wordsK l b (i + 1) := by
  funext v
  have e : l.getD i 0 = q := by rw [List.getD_eq_getElem?_getD, List.getElem?_eq_getElem hi, Option.getD_some, hq]
  rw [wordsK, e, hx, hW]
  by_cases hv : v = q
  · rw [if_pos hv, if_pos hv]
    by_cases h6 : i < 6
    · rw [if_pos h6, if_pos h6]
    · rw [if_neg h6, if_neg h6, if_pos (hb.resolve_left h6)]
  · rw [if_neg hv, if_neg hv]
theorem wordsK_skip {l : List Int} {b i : Nat} (h6 : ¬ i < 6) (hb : b.testBit (i - 6) = false) : wordsK l b (i + 1) = wordsK l b i := by
  funext v
  rw [wordsK, if_neg h6, hb]
  split <;> simp
theorem detB_not {L : List NodeT} {l : List Int} {b : Nat} (hl : l = mems (litsVS L)) (hb : b < 2 ^ (l.length - 6)) (h : sepB (wordsK l b l.length) L = false) : detB L = false := by
  subst hl
  cases e : detB L with
  | false => rfl
  | true =>
    unfold detB at e
    rw [List.all_eq_true.1 e b (List.mem_range.2 hb)] at h; cases h
theorem detB_yes {L : List NodeT} {l : List Int} (hl : l = mems (litsVS L)) (h : ∀ b, b < 2 ^ (l.length - 6) → sepB (wordsK l b l.length) L = true) : detB L = true := by
  subst hl
  unfold detB
  rw [List.all_eq_true]
  exact fun b hb => h b (List.mem_range.1 hb)
theorem litVar_b (l : Int) (w : World) : Calls Tryd.prog 56 #[.int .i64 l] w fun e w' => e = .returned (.int .i64 (litVar l)) ∧ Below w.heap.size w w' :=
  (litVar_c l w).mono fun _ _ h => ⟨h.1, h.2 ▸ Below.refl _ _⟩
/-- The answer of Deterministic: whether the net is, and the error. -/
def detNo (x : NetT) : Int := if validNet x = true then (if 16 < (mems (litsVS x.l)).length then 2 else 0) else 1
def detYes (x : NetT) : Bool := decide (detNo x = 0) && detB x.l
def DetPost (x : NetT) (w : World) (e : Ending) (w' : World) : Prop := e = .returned (.tuple #[.bool (detYes x), .int .i64 (detNo x)]) ∧ Below w.heap.size w w'
set_option maxRecDepth 100000 in
set_option maxHeartbeats 4000000 in
theorem Deterministic_c (n : Int) (L : List NodeT) (v : Value) (w : World) (hN : NodesAt w v L) (hT : TabAt w) (hP : PatAt w) :
    Calls Tryd.prog 25 #[.agg #[.int .i64 n, v]] w (DetPost ⟨n, L⟩ w) := by
  have hB1 : Below w.heap.size w (w.alloc (.cells #[.int .i64 n, v] 24)) := (Below.refl _ w).alloc (Nat.le_refl _) _
  have hCK := Check_c n L v _ (hN.below hB1)
  cases hv : validNet ⟨n, L⟩ with
  | false =>
    have HNO := hid (show detNo ⟨n, L⟩ = 1 from by unfold detNo; rw [hv, if_neg (by simp)])
    unfold checkNo at hCK
    rw [hv, if_neg (by simp)] at hCK
    have HCK := hid hCK
    obtain ⟨x0, x1⟩ := NetVar.new w n v 24
    have HB1 := hid hB1
    clear hCK hB1 hN hv
    go_enter Tryd.func25, Tryd.ntmps25
    go_wp2_with fail
    refine HCK.out.mono ?_
    rintro e w2 ⟨rfl, hb2⟩
    go_wp2_with fail
    go_ret2
    exact ⟨by unfold detYes; rw [HNO.out]; rfl, HB1.out.trans (hb2.mono HB1.out.size)⟩
  | true =>
  obtain ⟨⟨r1, r2, r3, r4⟩, hft⟩ := (validNet_iff _).1 hv
  simp only at r1 r2 r3 r4 hft
  rw [checkNo_t hv] at hCK
  have HCK := hid hCK
  have HNA := hid (hN.below hB1)
  obtain ⟨p, c, rfl, h⟩ := hN
  obtain ⟨b, off, rfl, hN⟩ := h.resolve_left (by intro e; rw [e] at r3; simp at r3)
  have hx := NetVar.new w n (.slice (some ⟨b, off, none⟩) L.length c) 24
  obtain ⟨x0, x1⟩ := hx
  have HNN := hid (show NodesAt w (.slice (some ⟨b, off, none⟩) L.length c) L from ⟨_, _, rfl, .inr ⟨b, off, rfl, hN⟩⟩)
  have HN := hid hN
  have HFT := hid hft
  have HV := hid hv
  have HX := hid (NetVar.new w n (.slice (some ⟨b, off, none⟩) L.length c) 24)
  have HB1 := hid hB1
  have HT := hid hT
  have HP := hid hP
  clear hCK hN h hv hft hB1 hT hP
  go_enter Tryd.func25, Tryd.ntmps25
  go_wp2_with fail
  refine HCK.out.mono ?_
  rintro e w2 ⟨rfl, hb2⟩
  obtain ⟨y0, y1⟩ := HX.out.below hb2
  have lx : w.heap.size < w2.heap.size := cell_lt y0
  have HX2 := hid (HX.out.below hb2)
  have HB2 := hid (HB1.out.trans (hb2.mono HB1.out.size))
  have HAL := hid ((Below.refl _ w2).alloc (Nat.le_refl _) (.cells #[.int .u64 0, .int .u64 0] 42))
  have SV := hid (show SetVar (w2.alloc (.cells #[.int .u64 0, .int .u64 0] 42)) w2.heap.size (litsVS (L.take 0)) from SetVar.new w2 0 42)
  clear x0 x1 hb2 HCK HX HB1 HNA
  go_wp2_with fail
  go_loopw [19] (fun z wr => ∃ (k : Nat), k ≤ L.length ∧ z = .int .i64 k ∧ Hid (SetVar wr w2.heap.size (litsVS (L.take k))) ∧ Hid (Below w2.heap.size w2 wr)) (fun z _ => L.length - (intOf z).toNat)
  case atStart => exact ⟨0, Nat.zero_le _, rfl, SV.out, HAL.out⟩
  case round =>
    clear SV HAL
    obtain ⟨k, hk, rfl, hsv, hbr⟩ := hrel
    by_cases hkl : k < L.length
    · obtain ⟨u, hu⟩ := HN.out k hkl
      have hbw := HB2.out.trans (hbr.out.mono HB2.out.size)
      have hur := hu.below hbw
      have d0 := hur.kind
      have d1 := hur.lit
      have d2 := hur.ins
      have HU := hid hur
      have hle := hur.len
      have zk : (0 : Int) ≤ (k : Int) ∧ (k : Int) < (L.length : Int) := by omega
      have HLS := hid (litsVS_snoc (L.take k) L[k])
      rw [← List.take_succ_eq_append_getElem hkl] at HLS
      have HBR := hid hbr.out
      have HSV := hid hsv.out
      have hbl : w2.heap.size < wr.heap.size := hsv.out.lt
      clear hu hur hbw hsv hbr
      generalize hxx : L[k] = x at *
      obtain ⟨xk, xl, xi⟩ := x
      obtain ⟨p2, c2, e2, hdrop⟩ := HU.out.ints
      subst e2
      clear hdrop hxx
      simp only at HLS
      obtain ⟨s1, hs1⟩ : ∃ s1, s1 = litsVS (L.take k) := ⟨_, rfl⟩
      rw [← hs1] at HSV HLS
      clear hs1
      by_cases k2 : xk = 2
      · subst k2
        rw [if_pos rfl] at HLS
        have b3 := (Box3.new wr 39 (.int .i64 2) (.int .i64 xl) (.slice p2 xi.length c2)).cells.2.1
        have BL : Hid ((wr.alloc (.cells #[.int .i64 2, .int .i64 xl, .slice p2 xi.length c2] 39)).drew.cell? ⟨wr.heap.size, 1, none⟩ = some (.int .i64 xl)) := b3
        have SVd : Hid (SetVar (wr.alloc (.cells #[.int .i64 2, .int .i64 xl, .slice p2 xi.length c2] 39)).drew w2.heap.size s1) := HSV.out.alloc _
        have HB4 := hid (HBR.out.alloc HBR.out.size (.cells #[.int .i64 2, .int .i64 xl, .slice p2 xi.length c2] 39))
        go_wp2_with fail
        generalize wr.alloc (.cells #[.int .i64 2, .int .i64 xl, .slice p2 xi.length c2] 39) = w5 at *
        clear b3
        refine Go.Proofs.YtpdbfbjfodckgaaDoor.wp_region_L 6 4 (fun w' => SetVar w' (w2.heap.size) (s1) ∧ w'.cell? ⟨wr.heap.size, 1, none⟩ = some (.int .i64 xl)) (by kernel_rfl) rfl ⟨SVd.out, BL.out⟩ (fun _ => ?_)
        refine wpAnyL_load2 (i := 0) (v := encS s1) (by simp only [List.getElem?_toArray, List.getElem?_cons_zero] <;> rfl) (by kernel_rfl) (by kernel_rfl) (by kernel_rfl) (by exact fun _ _ _ h => h) (by decide) (Waits.one rfl ⟨⟨0, .data⟩, by simp, rfl, rfl⟩) (by kernel_rfl) (by kernel_rfl) (.inr ⟨SVd.out, BL.out⟩) (Or.inl ⟨by rfl, fun w hw => (by obtain ⟨x0, _⟩ := hw; simp [execOp, go_sem, Act.eval, x0.cells.1, x0.cells.2.1])⟩) (fun _ => ?_)
        simp only [Act.put, List.setIfInBounds_toArray, List.set_cons_zero, List.set_cons_succ]
        refine wpAnyL_pure (i := 1) (v := .pointer (some ⟨wr.heap.size, 1, none⟩)) (by simp only [List.getElem?_toArray, List.getElem?_cons_zero, List.getElem?_cons_succ] <;> rfl) (by kernel_rfl) (by kernel_rfl) (by kernel_rfl) (by exact fun _ _ _ h => h) (by decide) (.inr ⟨SVd.out, BL.out⟩) (Or.inl ⟨by rfl, fun w _ => (by simp [execOp, go_sem, Act.eval])⟩) (fun _ => ?_)
        simp only [Act.put, List.setIfInBounds_toArray, List.set_cons_zero, List.set_cons_succ]
        refine wpAnyL_load2 (i := 2) (v := .int .i64 xl) (by simp only [List.getElem?_toArray, List.getElem?_cons_zero, List.getElem?_cons_succ] <;> rfl) (by kernel_rfl) (by kernel_rfl) (by kernel_rfl) (by exact fun _ _ _ h => h) (by decide) (Waits.more (j := 3) rfl ⟨⟨3, .data⟩, by simp, rfl, rfl⟩ (Waits.one rfl ⟨⟨2, .data⟩, by simp, rfl, rfl⟩)) (by kernel_rfl) (by kernel_rfl) (.inr ⟨SVd.out, BL.out⟩) (Or.inl ⟨by rfl, fun w hw => (by obtain ⟨_, x1⟩ := hw; simp [execOp, go_sem, Act.eval, x1])⟩) (fun _ => ?_)
        simp only [Act.put, List.setIfInBounds_toArray, List.set_cons_zero, List.set_cons_succ]
        refine wpAnyL_one (i := 3) (by kernel_rfl) (by simp only [List.getElem?_toArray, List.getElem?_cons_zero, List.getElem?_cons_succ] <;> rfl) (by rfl) ?_
        refine opwp_call (f := 56) (args := #[.int .i64 xl]) (w' := w5.drew) (by simp [go_sem, Act.eval]) ?_
        refine (litVar_b xl _).mono ?_
        rintro e w6 ⟨rfl, hb6⟩
        have hc1_0 := hid (SVd.out.below hb6 SVd.out.lt)
        have hc1_1 := hid ((hb6.cell (cell_lt BL.out)).trans BL.out)
        refine .inl ⟨_, rfl, .inr ⟨hc1_0.out, hc1_1.out⟩, ?_⟩
        simp only [Act.put, List.setIfInBounds_toArray, List.set_cons_zero, List.set_cons_succ]
        refine wpAnyL_one (i := 4) (by kernel_rfl) (by simp only [List.getElem?_toArray, List.getElem?_cons_zero, List.getElem?_cons_succ] <;> rfl) (by rfl) ?_
        refine opwp_call (f := 55) (args := #[encS s1, .int .i64 (litVar xl)]) (w' := w6) (by simp [go_sem, Act.eval]) ?_
        refine (With_c s1 (litVar xl) w6).mono ?_
        rintro e w7 ⟨rfl, hb7⟩
        refine .inl ⟨_, rfl, .inl (by kernel_rfl), ?_⟩
        simp only [Act.put, List.setIfInBounds_toArray, List.set_cons_zero, List.set_cons_succ]
        have sv7 := hc1_0.out.below hb7 hc1_0.out.lt
        obtain ⟨y0, y1, y2, y3⟩ := sv7.cells
        refine wpAnyL_one (i := 5) (by kernel_rfl) (by simp only [List.getElem?_toArray, List.getElem?_cons_zero, List.getElem?_cons_succ] <;> rfl) (by rfl) ?_
        refine opwp_skip (w' := ((w7.setCell ⟨w2.heap.size, 0, none⟩ (.int .u64 ((lw (withV s1 (litVar xl))).toNat : Int))).setCell ⟨w2.heap.size, 1, none⟩ (.int .u64 ((hw (withV s1 (litVar xl))).toNat : Int)))) (by simp [execOp, go_sem, Act.eval, y0, y1, y2, y3]) ⟨.inl (by kernel_rfl), ?_⟩
        simp only [Act.put]
        refine wpAnyL_done (by kernel_rfl) ?_ _
        have SV8 := hid (sv7.store (withV s1 (litVar xl)))
        have hb67 := HB4.out.drew.trans ((hb6.trans (hb7.mono hb6.size)).mono HB4.out.size)
        have HB8 := hid (below_01 hb67 (Nat.le_refl _) (.int .u64 ((lw (withV s1 (litVar xl))).toNat : Int)) (.int .u64 ((hw (withV s1 (litVar xl))).toNat : Int)))
        clear sv7 y0 y1 y2 y3 hb67 hb6 hb7 SVd BL HB4
        go_wp2_with fail
        go_roundw
        case rel => exact ⟨k + 1, by omega, by go_num, (by rw [HLS.out]; exact SV8.out), HB8.out⟩
        case measure => simp [intOf]; omega
      · rw [if_neg k2] at HLS
        have SV8 := hid (HSV.out.alloc (.cells #[.int .i64 xk, .int .i64 xl, .slice p2 xi.length c2] 39))
        have HB8 := hid (HBR.out.alloc HBR.out.size (.cells #[.int .i64 xk, .int .i64 xl, .slice p2 xi.length c2] 39))
        go_wp2_with fail
        go_roundw
        case rel => exact ⟨k + 1, by omega, by go_num, (by rw [HLS.out]; exact SV8.out), HB8.out⟩
        case measure => simp [intOf]; omega
    · obtain rfl : k = L.length := by omega
      rw [List.take_length] at hsv
      obtain ⟨ss, hss⟩ : ∃ ss, ss = litsVS L := ⟨_, rfl⟩
      rw [← hss] at hsv
      obtain ⟨s0, s1, _, _⟩ := hsv.out.cells
      have HB3 := hid (HB2.out.trans (hbr.out.mono HB2.out.size))
      have HL := hid (List_c ss wr (HT.out.below HT.out.lt HB3.out))
      have HX3 := hid (HX2.out.below hbr.out)
      have HSS := hid hss
      clear hss
      obtain ⟨wb, hwb⟩ : ∃ wb : World, wb = wr := ⟨_, rfl⟩
      subst hwb
      clear hsv hbr HB2 HX2
      go_wp2_with fail
      refine HL.out.mono ?_
      rintro e w4 ⟨vl, rfl, hnl, hb4⟩
      have hnl' := hnl.ints
      obtain ⟨pl, cl, rfl, hdrop⟩ := hnl'
      have HB4 := hid (HB3.out.trans (hb4.mono HB3.out.size))
      obtain ⟨q0, q1⟩ := HX3.out.below hb4
      have q0' := q0
      have lq : w.heap.size < w4.heap.size := cell_lt q0
      have hml := mems_length ss
      have HIL := hid (show IntsAt w4 (.slice pl (mems ss).length cl) (mems ss) from hnl.ints)
      obtain ⟨m, hm⟩ : ∃ m, m = (mems ss).length := ⟨_, rfl⟩
      have HIL2 := hid hm
      rw [← hm] at hml ⊢
      clear s0 s1 hnl hdrop hb4 HL HX3 hm HB3 q0
      have hmk := fun w' => make_words w' L.length (by omega) (L.length : Int) (L.length : Int) rfl rfl
      by_cases h16 : 16 < (m : Int)
      · have HNO := hid (show detNo ⟨n, L⟩ = 2 from by unfold detNo; rw [HV.out, if_pos rfl]; show (if 16 < (mems (litsVS L)).length then (2 : Int) else 0) = 2; rw [← HSS.out, ← HIL2.out, if_pos (by omega)])
        go_wp2_with fail
        go_ret2
        exact ⟨by unfold detYes; rw [HNO.out]; rfl, HB4.out⟩
      · have HNO := hid (show detNo ⟨n, L⟩ = 0 from by unfold detNo; rw [HV.out, if_pos rfl]; show (if 16 < (mems (litsVS L)).length then (2 : Int) else 0) = 0; rw [← HSS.out, ← HIL2.out, if_neg (by omega)])
        obtain ⟨N, hN⟩ : ∃ N, N = 2 ^ (m - 6) := ⟨_, rfl⟩
        have hN2 : N ≤ 1024 := by
          have : 2 ^ (m - 6) ≤ 2 ^ 10 := Nat.pow_le_pow_right (by decide) (by omega)
          rw [hN]; exact this
        have h6 : (0 < (m : Int) - 6 ∧ wrap64 (2 ^ (m - 6)) = (N : Int)) ∨ (¬ 0 < (m : Int) - 6 ∧ N = 1) := by
          by_cases h0 : 0 < (m : Int) - 6
          · refine .inl ⟨h0, ?_⟩
            have e : (2 : Int) ^ (m - 6) = (N : Int) := by rw [hN]; exact (Int.natCast_pow 2 _).symm
            rw [e]; exact IntWalk.wrap64_in _ (by omega)
          · refine .inr ⟨h0, ?_⟩
            rw [hN, show m - 6 = 0 by omega]
        have HN2 := hid hN
        have HAL := hid ((Below.refl _ w4).alloc (Nat.le_refl _) (.cells (madeCells #[.int .u64 0] L.length) 40))
        have HB5 := hid (HB4.out.alloc HB4.out.size (.cells (madeCells #[.int .u64 0] L.length) 40))
        have HR5 := hid (show URow (w4.alloc (.cells (madeCells #[.int .u64 0] L.length) 40)) w4.heap.size (List.replicate L.length 0) from URow.made w4 L.length)
        have HIL5 := hid (HIL.out.below ((Below.refl _ w4).alloc (Nat.le_refl _) (.cells (madeCells #[.int .u64 0] L.length) 40)))
        have HG5 := hid HB4.out.size
        have HX5 := hid (NetVar.mk (w := w4) q0' q1)
        clear hN q0'
        rcases h6 with ⟨h6, hsh⟩ | ⟨h6, hone⟩
        rotate_left
        have HONE := hid hone
        clear hone
        all_goals
          go_wp2_with fail
          try rw [hsh]
          generalize w4.alloc (.cells (madeCells #[.int .u64 0] L.length) 40) = w5 at *
          obtain ⟨g, hg⟩ : ∃ g, g = w4.heap.size := ⟨_, rfl⟩
          rw [← hg] at HR5 ⊢
          have HG := hid hg
          clear hg q1 lq h6 hmk
          try clear hsh
          go_loopw [47] (fun z wr => ∃ (k : Nat), k ≤ N ∧ z = .int .i64 k ∧ Hid (∃ M : List WD, M.length = L.length ∧ URow wr g M) ∧ Hid (Below w4.heap.size w4 wr) ∧ Hid (∀ j, j < k → sepB (wordsK (mems ss) j m) L = true)) (fun z _ => N - (intOf z).toNat)
          case atStart => exact ⟨0, Nat.zero_le _, rfl, ⟨_, List.length_replicate, HR5.out⟩, HAL.out, fun j h => absurd h (Nat.not_lt_zero _)⟩
          case round =>
            clear HR5 HAL HB5 HIL5
            obtain ⟨k, hk, rfl, hrow, hbr, hok⟩ := hrel
            by_cases hkl : k < N
            · have zk : (0 : Int) ≤ (k : Int) ∧ (k : Int) < (N : Int) := by omega
              first | (have z1 : (k : Int) < 1 := by have := HONE.out; omega) | skip
              have HRW := hid hrow.out
              have HBR := hid hbr.out
              have HOK := hid hok.out
              have HW0 := hid (show WArr (wr.alloc (.cells Tryd.zeroCells75 75)) wr.heap.size (wordsK (mems ss) k 0) from WArr.new wr)
              have HA0 := hid ((Below.refl _ wr).alloc (Nat.le_refl _) (.cells Tryd.zeroCells75 75))
              clear hrow hbr hok
              go_wp2_with fail
              obtain ⟨wo, hwo⟩ : ∃ wo : World, wo = wr := ⟨_, rfl⟩
              subst hwo
              go_loopw [52] (fun z wq => ∃ (i : Nat), i ≤ m ∧ z = .int .i64 i ∧ Hid (WArr wq wo.heap.size (wordsK (mems ss) k i)) ∧ Hid (Below wo.heap.size wo wq)) (fun z _ => m - (intOf z).toNat)
              case atStart => exact ⟨0, Nat.zero_le _, rfl, HW0.out, HA0.out⟩
              case round =>
                clear HW0 HA0
                obtain ⟨i, hi, rfl, hwa, hbq⟩ := hrel
                have HWA := hid hwa.out
                have HBQ := hid hbq.out
                have HBW := hid (HB4.out.trans ((HBR.out.trans (hbq.out.mono HBR.out.size)).mono HB4.out.size))
                clear hwa hbq
                by_cases him : i < m
                · have HWN := hid (fun (q : Int) (x : WD) (hq : (mems ss)[i]'(by rw [← HIL2.out]; exact him) = q) (hx : x = if i < 6 then patW i else ones64) (hb : i < 6 ∨ k.testBit (i - 6) = true) => wordsK_next (W := wordsK (mems ss) k i) (by rw [← HIL2.out]; exact him) q x hq rfl hx hb)
                  obtain ⟨p3, c3, e3, h3⟩ := HIL.out.below (HBR.out.trans (HBQ.out.mono HBR.out.size))
                  rw [← HIL2.out] at e3
                  injection e3 with e1 e0 e2
                  clear e0
                  subst e1; subst e2
                  obtain ⟨b2, o2, rfl, hc⟩ := h3.resolve_left (by intro e; have := HIL2.out; rw [e] at this; simp at this; omega)
                  have hil : i < (mems ss).length := by rw [← HIL2.out]; exact him
                  have hci := hc i hil
                  rw [List.getElem?_eq_getElem hil, Option.getD_some] at hci
                  have hir := has_range ((mem_mems ss _).1 (List.getElem_mem hil))
                  obtain ⟨q, hq⟩ : ∃ q : Nat, (mems ss)[i] = (q : Int) := ⟨((mems ss)[i]).toNat, by omega⟩
                  rw [hq] at hci hir
                  have HQ := hid hq
                  have zi : (0 : Int) ≤ (i : Int) ∧ (i : Int) < (m : Int) := by omega
                  have zq : (0 : Int) ≤ (q : Int) ∧ (q : Int) < 129 := by omega
                  obtain ⟨y0, y1⟩ := HWA.out.get q (by omega)
                  clear hc h3 hq hir
                  by_cases h6 : i < 6
                  · have z6 : (i : Int) < 6 := by omega
                    have zz6 : (0 : Int) ≤ (i : Int) ∧ (i : Int) < 6 := by omega
                    have hpt := (HP.out.below HP.out.lt HBW.out) i h6
                    have hgp := cell_lt hpt
                    obtain ⟨x, hx⟩ : ∃ x, x = patW i := ⟨_, rfl⟩
                    rw [← hx] at hpt
                    have HX := hid hx
                    clear hx
                    go_wp2_with fail
                    go_roundw
                    case rel => exact ⟨i + 1, by omega, by go_num, (by rw [← HWN.out q x HQ.out (by rw [if_pos h6, HX.out]) (.inl h6)]; exact HWA.out.store q (by omega) x), HBQ.out.setCell (p := ⟨wo.heap.size, q, none⟩) (Nat.le_refl _) _⟩
                    case measure => simp [intOf]; omega
                  · have z6 : ¬ (i : Int) < 6 := by omega
                    have hdm : ((k / 2 ^ (i - 6) % 2 : Nat) : Int) = (k : Int) / 2 ^ (i - 6) % 2 := by norm_cast
                    have htb := Nat.testBit_eq_decide_div_mod_eq (x := k) (i := i - 6)
                    by_cases hb : k / 2 ^ (i - 6) % 2 = 1
                    · have hbt : (k : Int) / 2 ^ (i - 6) % 2 = 1 := by rw [← hdm, hb]; rfl
                      have HTB := hid (show k.testBit (i - 6) = true from by rw [htb, decide_eq_true hb])
                      clear hdm htb hb
                      go_wp2_with fail
                      go_roundw
                      case rel => exact ⟨i + 1, by omega, by go_num, (by rw [← HWN.out q ones64 HQ.out (by rw [if_neg h6]) (.inr HTB.out)]; exact HWA.out.store q (by omega) ones64), HBQ.out.setCell (p := ⟨wo.heap.size, q, none⟩) (Nat.le_refl _) _⟩
                      case measure => simp [intOf]; omega
                    · have hbt : (k : Int) / 2 ^ (i - 6) % 2 = 0 := by rw [← hdm]; omega
                      have HTB := hid (show k.testBit (i - 6) = false from by rw [htb, decide_eq_false hb])
                      clear hdm htb hb
                      go_wp2_with fail
                      go_roundw
                      case rel => exact ⟨i + 1, by omega, by go_num, (by rw [wordsK_skip h6 HTB.out]; exact HWA.out), HBQ.out⟩
                      case measure => simp [intOf]; omega
                · obtain rfl : i = m := by omega
                  obtain ⟨M, hM, hrow⟩ := HRW.out
                  have hgl := hrow.lt
                  obtain ⟨q0, q1⟩ := HX5.out.below (HBR.out.trans (HBQ.out.mono HBR.out.size))
                  have hgw : w.heap.size ≤ g := by rw [HG.out]; exact HG5.out
                  have HSEP := hid (separate_c n L _ w wr wo.heap.size g L.length (wordsK (mems ss) k i) M HNN.out HFT.out r4 HBW.out hgw (hrow.below HBQ.out hgl) hM HWA.out (by omega))
                  cases hsep : sepB (wordsK (mems ss) k i) L with
                  | false =>
                    have HF := hid (show detB L = false from detB_not (b := k) (l := mems ss) (by rw [HSS.out]) (by rw [← HIL2.out, ← HN2.out]; exact hkl) (by rw [← HIL2.out]; exact hsep))
                    clear hrow hgw
                    go_wp2_with fail
                    refine HSEP.out.mono ?_
                    rintro e w7 ⟨rfl, hg7, _⟩
                    rw [hsep]
                    have HBZ := hid (HBW.out.grown hg7 HBW.out.size (fun r e => by cases e; rw [HG.out]; exact HG5.out))
                    go_wp2_with fail
                    go_ret2
                    exact ⟨by unfold detYes; rw [HNO.out, HF.out]; rfl, HBZ.out⟩
                  | true =>
                    have HS := hid hsep
                    clear hrow hgw
                    go_wp2_with fail
                    refine HSEP.out.mono ?_
                    rintro e w7 ⟨rfl, hg7, hrow7⟩
                    rw [HS.out]
                    have HBZ := hid ((HBR.out.trans (HBQ.out.mono HBR.out.size)).grown hg7 (HBR.out.trans (HBQ.out.mono HBR.out.size)).size (fun r e => by cases e; rw [HG.out]; exact Nat.le_refl _))
                    go_wp2_with fail
                    go_roundw
                    case rel => exact ⟨k + 1, by omega, by go_num, hrow7, HBZ.out, fun j hj => by
                      by_cases e : j = k
                      · subst e; exact HS.out
                      · exact HOK.out j (by omega)⟩
                    case measure => simp [intOf]; omega
            · obtain rfl : k = N := by omega
              first | (have z1 : ¬ (k : Int) < 1 := by have := HONE.out; omega) | skip
              have HF := hid (show detB L = true from detB_yes (l := mems ss) (by rw [HSS.out]) (fun j hj => by rw [← HIL2.out]; exact hok.out j (by rw [HN2.out, HIL2.out]; exact hj)))
              have HBZ := hid (HB4.out.trans (hbr.out.mono HB4.out.size))
              clear hok hrow hbr
              go_wp2_with fail
              go_ret2
              exact ⟨by unfold detYes; rw [HNO.out, HF.out]; rfl, HBZ.out⟩
end Go.Proofs.YtpdbfbjfodckgaaDoor
