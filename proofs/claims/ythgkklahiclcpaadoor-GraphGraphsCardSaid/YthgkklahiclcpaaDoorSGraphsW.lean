/- The walk of the law GraphGraphs. -/
import Derived.Test.YthgkklahiclcpaaDoorTRCheck
import Derived.Test.YthgkklahiclcpaaDoorTEdges
import Derived.Test.YthgkklahiclcpaaDoorSMoreP
namespace Go.Proofs.YthgkklahiclcpaaDoor
open Go.RowKit
attribute [local go_sem ↓] run_eqlS run_neqS run_eqlS0 run_neqS0

def validT (n : Int) (L : List (List Int)) : Bool := L.all (fun c => decide (c.length ≤ 20)) && (decide (L.length ≤ 60) && decide (checkP n L = 0))
set_option maxRecDepth 100000 in
set_option maxHeartbeats 4000000 in
theorem lawValid_c (n : Int) (u : Value) (L : List (List Int)) (w : World) (hI : LitsAt w u L) (hL : L.length ≤ 9223372036854775807) (hc : ∀ c ∈ L, c.length ≤ 9223372036854775807) :
    Calls Tryd.prog 33 #[.agg #[.int .i64 n, u]] w fun e w' => e = .returned (.bool (validT n L)) ∧ Below w.heap.size w w' := by
  have HR := hid (fun w' (h : Below w.heap.size w w') => rCheck_c n u L w' (hI.below h) hL hc)
  have HI := hid hI
  have HC := hid hc
  obtain ⟨p, cp, rfl, hdrop⟩ := id hI
  clear hdrop hI hc
  have hB0 : Below w.heap.size w (w.alloc (.cells #[.int .i64 n, .slice p L.length cp] 48)) := (Below.refl _ w).alloc (Nat.le_refl _) _
  have HN0 : Hid ((w.alloc (.cells #[.int .i64 n, .slice p L.length cp] 48)).cell? ⟨w.heap.size, 0, none⟩ = some (.int .i64 n)) := by show _ = _; simp only [World.cell?, heap_alloc_new]; rfl
  have HN1 : Hid ((w.alloc (.cells #[.int .i64 n, .slice p L.length cp] 48)).cell? ⟨w.heap.size, 1, none⟩ = some (.slice p L.length cp)) := by show _ = _; simp only [World.cell?, heap_alloc_new]; rfl
  go_enter Tryd.func33, Tryd.ntmps33
  go_wp2_with fail
  obtain ⟨w1, hw1⟩ : ∃ w1, w1 = w.alloc (.cells #[.int .i64 n, .slice p L.length cp] 48) := ⟨_, rfl⟩
  rw [← hw1] at HN0 HN1 hB0 ⊢
  clear hw1
  go_loopw [3] (fun i wr => ∃ k : Nat, k ≤ L.length ∧ i = .int .i64 k ∧ Hid (L.all (fun c => decide (c.length ≤ 20)) = (L.drop k).all (fun c => decide (c.length ≤ 20))) ∧ Below w1.heap.size w1 wr) (fun i _ => L.length - (intOf i).toNat)
  case atStart => exact ⟨0, Nat.zero_le _, rfl, rfl, Below.refl _ _⟩
  case round =>
    obtain ⟨k, hk, rfl, HE, hB⟩ := hrel
    have hl0 := (hB.cell (cell_lt HN0.out)).trans HN0.out
    have hl1 := (hB.cell (cell_lt HN1.out)).trans HN1.out
    have hlw : w.heap.size < wr.heap.size := cell_lt hl1
    have hBw := hB0.trans (hB.mono hB0.size)
    by_cases hkl : k < L.length
    · obtain ⟨p', c', e', hh⟩ := HI.out
      injection e' with e1 _ e2
      subst e1; subst e2
      obtain ⟨b, off, rfl, hh2⟩ := hh.resolve_left (by rintro rfl; simp at hkl)
      obtain ⟨u, hcu, hiu⟩ := hh2 k hkl
      have hcu2 := (hBw.cell (cell_lt hcu)).trans hcu
      have hcl := HC.out _ (List.getElem_mem hkl)
      have zk : (0 : Int) ≤ (k : Int) ∧ (k : Int) < (L.length : Int) := by omega
      have HD := hid (show L.all (fun c => decide (c.length ≤ 20)) = (decide (L[k].length ≤ 20) && (L.drop (k + 1)).all (fun c => decide (c.length ≤ 20))) by rw [HE.out, List.drop_eq_getElem_cons hkl, List.all_cons])
      generalize L[k] = c at *
      obtain ⟨pc, cc, rfl, hdrop⟩ := id hiu
      clear hdrop hh hh2 hcu hiu
      by_cases h20 : (20 : Int) < (c.length : Int)
      · have HX : Hid (validT n L = false) := by show _ = _; unfold validT; rw [HD.out, decide_eq_false (by omega : ¬ c.length ≤ 20)]; rfl
        go_wp2_with fail
        go_ret
        exact ⟨by rw [HX.out]; rfl, hBw⟩
      · have HX : Hid (L.all (fun c => decide (c.length ≤ 20)) = (L.drop (k + 1)).all (fun c => decide (c.length ≤ 20))) := by show _ = _; rw [HD.out, decide_eq_true (by omega : c.length ≤ 20), Bool.true_and]
        go_wp2_with fail
        go_roundw
        case rel => exact ⟨k + 1, by omega, by go_num, HX.out, hB⟩
        case measure => simp [intOf]; omega
    · obtain rfl : k = L.length := by omega
      have HX : Hid (validT n L = (decide (L.length ≤ 60) && decide (checkP n L = 0))) := by show _ = _; unfold validT; rw [HE.out, List.drop_length]; rfl
      by_cases h60 : (L.length : Int) ≤ 60
      · have HRR := hid (HR.out wr hBw)
        have HY : Hid (validT n L = decide (checkP n L = 0)) := by show _ = _; rw [HX.out, decide_eq_true (by omega : L.length ≤ 60), Bool.true_and]
        generalize checkP n L = y at *
        go_wp2_with fail
        refine HRR.out.mono ?_
        rintro e w2 ⟨rfl, hb2⟩
        have hB2 := hBw.trans (hb2.mono hBw.size)
        go_wp2_with fail
        go_ret
        refine ⟨?_, hB2⟩
        rw [HY.out]
        by_cases hy : y = 0
        · subst hy; rfl
        · simp [hy]
      · have HY : Hid (validT n L = false) := by show _ = _; rw [HX.out, decide_eq_false (by omega : ¬ L.length ≤ 60)]; rfl
        go_wp2_with fail
        go_ret
        exact ⟨by rw [HY.out]; rfl, hBw⟩
theorem edg_valid {n : Int} {L : List (List Int)} {M : List VS} (h0 : checkP n L = 0) (hl : (M.length : Int) = n + 1) (hS : Says M (RE L)) : ValidG M := by
  obtain ⟨h1, h2, _, h4⟩ := lits_ok h0
  refine says_valid hS (by omega) (by omega) (fun v h => h.1 rfl) (fun u x h => ⟨fun e => h.1 e.symm, by obtain ⟨c, hc, a, b⟩ := h.2; exact ⟨c, hc, b, a⟩⟩) (fun u x h => ?_)
  obtain ⟨_, c, hc, a, b⟩ := h
  have x1 := allC_le (h4 c hc).2 a
  have x2 := allC_le (h4 c hc).2 b
  omega
theorem edg_has {n : Int} {L : List (List Int)} {M : List VS} (h0 : checkP n L = 0) (hS : Says M (RE L)) {c : List Int} (hc : c ∈ L) {x y : Int} (hx : x ∈ c) (hy : y ∈ c) (hne : litV x ≠ litV y) : has (gOf M (litV x)) (litV y) = true := by
  obtain ⟨_, _, _, h4⟩ := lits_ok h0
  have pos : ∀ l ∈ c, 1 ≤ litV l := fun l hl => by
    have h1 := (h4 c hc).2 l hl
    have h2 := litV_range l
    unfold litOK at h1
    rw [Bool.and_eq_true, bne_iff_ne] at h1
    omega
  exact (hS _ _).2 ⟨hne, c, hc, (has_allC _ _).2 ⟨pos x hx, x, hx, rfl⟩, (has_allC _ _).2 ⟨pos y hy, y, hy, rfl⟩⟩
theorem isOrdB_yes {l : List Int} {n : Nat} (hn : n ≤ 128) (h : IsOrd l n) : isOrdB l (n : Int) = true := by
  have := (isOrd_iff hn).2 h
  unfold isOrdB
  rw [Bool.and_eq_true, decide_eq_true_eq, decide_eq_true_eq]
  exact ⟨by omega, this.2⟩
theorem lit_abs {n l : Int} (h : litOK n l = true) : (0 < l ∧ litV l = l ∧ l ≤ 128) ∨ (l < 0 ∧ litV l = -l ∧ -128 ≤ l) := by
  unfold litOK litV at h
  unfold litV
  split
  · rename_i h1; left; omega
  · rename_i h1
    rw [if_neg h1] at h
    split
    · rename_i h2; right; omega
    · rename_i h2; rw [if_neg h2] at h; simp at h
set_option maxRecDepth 100000 in
set_option maxHeartbeats 8000000 in
theorem graphGraphs_walk (n : Int) (L : List (List Int)) (u : Value) (w : World) (hT : TabAt w) (hI : LitsAt w u L) (hL : L.length ≤ 9223372036854775807 ∧ ∀ c ∈ L, c.length ≤ 9223372036854775807) :
    Calls Tryd.prog 11 #[.agg #[.int .i64 n, u]] w (LawPost w) := by
  obtain ⟨hL1, hc⟩ := hL
  have HW := hid (fun w' (h : Below w.heap.size w w') => works_c w' (hT.below hT.lt h))
  have HE := hid (fun w' (h : Below w.heap.size w w') => Edges_c n u L w' (hT.below hT.lt h) (hI.below h) hL1 hc)
  have HV := hid (fun w' (h : Below w.heap.size w w') => lawValid_c n u L w' (hI.below h) hL1 hc)
  have HI := hid hI
  obtain ⟨p, cp, rfl, hdrop⟩ := id hI
  clear hdrop hI hc
  have hB0 : Below w.heap.size w (w.alloc (.cells #[.int .i64 n, .slice p L.length cp] 48)) := (Below.refl _ w).alloc (Nat.le_refl _) _
  have HN0 : Hid ((w.alloc (.cells #[.int .i64 n, .slice p L.length cp] 48)).cell? ⟨w.heap.size, 0, none⟩ = some (.int .i64 n)) := by show _ = _; simp only [World.cell?, heap_alloc_new]; rfl
  have HN1 : Hid ((w.alloc (.cells #[.int .i64 n, .slice p L.length cp] 48)).cell? ⟨w.heap.size, 1, none⟩ = some (.slice p L.length cp)) := by show _ = _; simp only [World.cell?, heap_alloc_new]; rfl
  have HVV := hid (HV.out _ hB0)
  go_enter Tryd.func11, Tryd.ntmps11
  go_wp2_with fail
  refine HVV.out.mono ?_
  rintro e w1 ⟨rfl, hb1⟩
  have hB1 := hB0.trans (hb1.mono hB0.size)
  have hn0 := (hb1.cell (cell_lt HN0.out)).trans HN0.out
  have hn1 := (hb1.cell (cell_lt HN1.out)).trans HN1.out
  have hlw : w.heap.size < w1.heap.size := cell_lt hn0
  clear HN0 HN1 HV HVV hb1 hB0
  cases hv : validT n L
  · clear hv
    go_wp2_with fail
    refine (HW.out w1 hB1).mono ?_
    rintro e w2 ⟨rfl, hb2⟩
    have hB2 := hB1.trans (hb2.mono hB1.size)
    go_wp2_with fail
    go_ret
    exact ⟨rfl, hB2⟩
  · have HV := hid hv
    have hck : checkP n L = 0 := by
      have := HV.out
      unfold validT at this
      simp only [Bool.and_eq_true, decide_eq_true_eq] at this
      exact this.2.2
    have hl60 : L.length ≤ 60 := by
      have := HV.out
      unfold validT at this
      simp only [Bool.and_eq_true, decide_eq_true_eq] at this
      exact this.2.1
    have HCK := hid hck
    have HEE := hid (HE.out w1 hB1)
    clear hv HE hck
    go_wp2_with fail
    refine HEE.out.mono ?_
    rintro e w2 ⟨hb2, hE⟩
    have hB2 := hB1.trans (hb2.mono hB1.size)
    have hm0 := (hb2.cell (cell_lt hn0)).trans hn0
    have hm1 := (hb2.cell (cell_lt hn1)).trans hn1
    have hlw2 : w.heap.size < w2.heap.size := cell_lt hm1
    clear HEE hn0 hn1 hlw hb2 hB1
    rcases hE with ⟨h0, rfl⟩ | ⟨_, g, M, rfl, hg, hM, hml, hS⟩
    · exact absurd HCK.out h0
    obtain ⟨hn1', hn2', _, _⟩ := lits_ok HCK.out
    obtain ⟨nn, rfl⟩ : ∃ nn : Nat, n = (nn : Int) := ⟨n.toNat, by omega⟩
    have hml2 : M.length = nn + 1 := by omega
    have HVG := hid (edg_valid HCK.out hml hS)
    have HRV := hid (rValid_c _ M w2 (hM.sets M.length) (by omega))
    rw [validG_yes HVG.out] at HRV
    have HS := hid hS
    have HM := hid hM
    have HML := hid hml2
    have hne : ((M.length : Int) != (nn : Int) + 1) = false := by simp; omega
    have HB2 := hid hB2
    clear hS hml hml2 hM
    go_wp2_with fail
    refine HRV.out.mono ?_
    rintro e w3 ⟨rfl, hb3⟩
    have hB3 := HB2.out.trans (hb3.mono HB2.out.size)
    have HM3 := hid (HM.out.below hb3 HM.out.lt)
    have hq0 := (hb3.cell (cell_lt hm0)).trans hm0
    have hq1 := (hb3.cell (cell_lt hm1)).trans hm1
    have hlw3 : w.heap.size < w3.heap.size := cell_lt hq1
    clear HRV HM hm0 hm1 hlw2 hb3 HB2 hne hB2
    go_wp2_with fail
    have HQ0 := hid hq0
    have HQ1 := hid hq1
    clear hq0 hq1
    go_loopw [5] (fun i wr => ∃ k : Nat, k ≤ L.length ∧ i = .int .i64 k ∧ Below w3.heap.size w3 wr) (fun i _ => L.length - (intOf i).toNat)
    case atStart => exact ⟨0, Nat.zero_le _, rfl, Below.refl _ _⟩
    case round =>
      obtain ⟨k, hk, rfl, hB⟩ := hrel
      have hq0 := (hB.cell (cell_lt HQ0.out)).trans HQ0.out
      have hq1 := (hB.cell (cell_lt HQ1.out)).trans HQ1.out
      have hlw4 : w.heap.size < wr.heap.size := cell_lt hq1
      have hBw := hB3.trans (hB.mono hB3.size)
      by_cases hkl : k < L.length
      · obtain ⟨p', c', e', hh⟩ := HI.out
        injection e' with e1 _ e2
        subst e1; subst e2
        obtain ⟨b, off, rfl, hh2⟩ := hh.resolve_left (by rintro rfl; simp at hkl)
        obtain ⟨u, hcu, hiu⟩ := hh2 k hkl
        have hcu2 := (hBw.cell (cell_lt hcu)).trans hcu
        have hcl := ((lits_ok HCK.out).2.2.2 _ (List.getElem_mem hkl))
        have HLO := hid hcl.2
        have hcl2 := hcl.1
        have HMEM := hid (List.getElem_mem hkl)
        have zk : (0 : Int) ≤ (k : Int) ∧ (k : Int) < (L.length : Int) := by omega
        generalize L[k] = c at *
        have hiu2 := hiu.below hBw
        have HIU := hid hiu2
        obtain ⟨pc, cc, rfl, hdrop⟩ := id hiu2
        obtain ⟨wo, hwo⟩ : ∃ wo : World, wo = wr := ⟨_, rfl⟩
        clear hdrop hh hh2 hcu hiu hcl hiu2
        subst hwo
        have HCU := hid hcu2
        have HK0 := hid hq0
        have HK1 := hid hq1
        go_wp2_with fail
        clear hq0 hq1 hcu2
        go_loopw [6] (fun i wr => ∃ j : Nat, j ≤ c.length ∧ i = .int .i64 j ∧ Below wo.heap.size wo wr) (fun i _ => c.length - (intOf i).toNat)
        case atStart => exact ⟨0, Nat.zero_le _, rfl, Below.refl _ _⟩
        case round =>
          obtain ⟨j, hj, rfl, hBo⟩ := hrel
          have hq0 := (hBo.cell (cell_lt HK0.out)).trans HK0.out
          have hq1 := (hBo.cell (cell_lt HK1.out)).trans HK1.out
          have hcu2 := (hBo.cell (cell_lt HCU.out)).trans HCU.out
          have hlw5 : w.heap.size < wr.heap.size := cell_lt hq1
          by_cases hjl : j < c.length
          · have hB5 := hB.trans (hBo.mono hB.size)
            have hi5 := HIU.out.below hBo
            obtain ⟨bx, ox, cx, e2, hcx⟩ := hi5.get hjl
            obtain ⟨by', oy, cy, e3, hcy⟩ := hi5.get (show 0 < c.length by omega)
            injection e2 with e2 _ e2'
            subst e2; subst e2'
            injection e3 with e3 _ e3'
            injection e3 with e3
            injection e3 with e3 e4 _
            subst e3; subst e4; subst e3'
            have hx := lit_abs (HLO.out _ (List.getElem_mem hjl))
            have hy := lit_abs (HLO.out _ (List.getElem_mem (show 0 < c.length by omega)))
            have HHAS := hid (edg_has HCK.out HS.out HMEM.out (List.getElem_mem hjl) (List.getElem_mem (show 0 < c.length by omega)))
            have hxr := (lits_ok HCK.out).2.2.2 _ HMEM.out |>.2 _ (List.getElem_mem hjl)
            have zj : (0 : Int) ≤ (j : Int) ∧ (j : Int) < (c.length : Int) := by omega
            have z0 : (0 : Int) < (c.length : Int) := by omega
            rw [Nat.add_zero] at hcy
            generalize c[j] = x at *
            generalize c[0] = y at *
            have hM5 := hid (HM3.out.below (hB.trans (hBo.mono hB.size)) HM3.out.lt)
            have hlb : b < wr.heap.size := cell_lt hcu2
            have hlx : bx < wr.heap.size := cell_lt hcx
            have hvx : litV x ≤ (nn : Int) ∧ 1 ≤ litV x := by
              have h2 := litV_range x
              unfold litOK at hxr
              rw [Bool.and_eq_true, bne_iff_ne] at hxr
              have := of_decide_eq_true hxr.2
              omega
            clear hi5 hxr
            obtain ⟨vn, hvn⟩ : ∃ vn : Nat, litV x = (vn : Int) := ⟨(litV x).toNat, by omega⟩
            obtain ⟨wn, hwn⟩ : ∃ wn : Nat, litV y = (wn : Int) := ⟨(litV y).toNat, by have := litV_range y; omega⟩
            rw [hvn] at hx hvx HHAS
            rw [hwn] at hy HHAS
            have hvl : vn < M.length := by have := HML.out; omega
            have zv : (0 : Int) ≤ (vn : Int) ∧ (vn : Int) < (nn : Int) + 1 := by omega
            obtain ⟨s, hs, r0, r1, f0, f1⟩ := hM5.out.get vn hvl
            rw [hs] at HHAS
            have HB5 := hid hB5
            have hgl : g < wr.heap.size := hM5.out.lt
            clear hvn hwn hs f0 f1 hB5
            have hmx : (0 < x ∧ x = (vn : Int)) ∨ (x < 0 ∧ x = -(vn : Int)) := by omega
            have hmy : (0 < y ∧ y = (wn : Int)) ∨ (y < 0 ∧ y = -(wn : Int)) := by omega
            have hwy : (wn : Int) ≤ 128 := by omega
            clear hx hy
            rcases hmx with ⟨hx0, rfl⟩ | ⟨hx0, rfl⟩ <;> rcases hmy with ⟨hy0, rfl⟩ | ⟨hy0, rfl⟩
            all_goals
              go_wp2_with fail
              refine wp_region_pure (by kernel_rfl) (by kernel_rfl) ?_
              repeat (go_big_quiet_step (fail))
              refine wpQuiet_nil ?_
              intro w6 hb6
              have r0' := (hb6.cell (cell_lt r0)).trans r0
              have r1' := (hb6.cell (cell_lt r1)).trans r1
              have hgl6 : g < w6.heap.size := cell_lt r0'
              have HB6 := hid (hBo.trans (hb6.mono hBo.size))
              clear r0 r1 hgl hb6 hq0 hq1 hcu2 hcx hcy
              by_cases heq : vn = wn
              · subst heq
                have hne : ((vn : Int) != (vn : Int)) = false := by simp
                go_wp2_with fail
                go_roundw
                case rel => exact ⟨j + 1, by omega, by go_num, HB6.out⟩
                case measure => simp [intOf]; omega
              · have hne : ((vn : Int) != (wn : Int)) = true := by simp; omega
                have HH := hid (HHAS.out (by omega))
                have HRH := hid (rHas_c s (wn : Int) w6)
                rw [HH.out] at HRH
                go_wp2_with fail
                refine HRH.out.mono ?_
                rintro e w7 ⟨rfl, hb7⟩
                go_wp2_with fail
                go_roundw
                case rel => exact ⟨j + 1, by omega, by go_num, HB6.out.trans (hb7.mono HB6.out.size)⟩
                case measure => simp [intOf]; omega
          · obtain rfl : j = c.length := by omega
            go_wp2_with fail
            go_roundw
            case rel => exact ⟨k + 1, by omega, by go_num, hB.trans (hBo.mono hB.size)⟩
            case measure => simp [intOf]; omega
      · obtain rfl : k = L.length := by omega
        by_cases h24 : (24 : Int) < (nn : Int)
        · go_wp2_with fail
          refine (HW.out wr hBw).mono ?_
          rintro e w4 ⟨rfl, hb4⟩
          have hB4 := hBw.trans (hb4.mono hBw.size)
          go_wp2_with fail
          go_ret
          exact ⟨rfl, hB4⟩
        · have hl129 : M.length ≤ 129 := HVG.out.le
          have hlen : M.length - 1 = nn := by have := HML.out; omega
          have hbd : Below wr.heap.size wr wr.drew := (Below.refl _ wr).drew
          have hBd := hBw.trans (hbd.mono hBw.size)
          have HO1 := hid (isOrdB_yes (n := nn) (by omega) (by have := orderP_ord (cost := fillC) HVG.out; rwa [hlen] at this))
          have HO2 := hid (isOrdB_yes (n := nn) (by omega) (by have := orderP_ord (cost := degC) HVG.out; rwa [hlen] at this))
          have hMd := ((HM3.out.below hB HM3.out.lt).sets M.length).below hbd
          have HMF := hid (MinFill_c _ M wr.drew hMd (hT.below hT.lt hBd) (by omega))
          have HLF := hid (orderP_length fillC M)
          have HLD := hid (orderP_length degC M)
          have HBD := hid hBd
          have HMD := hid hMd
          have hqd : wr.drew.cell? ⟨w.heap.size, 0, none⟩ = some (.int .i64 (nn : Int)) := (hbd.cell (cell_lt hq0)).trans hq0
          have HQD := hid hqd
          clear hlen hl129 hbd hBd hMd
          go_wp2_with fail
          clear hqd
          refine Go.Proofs.YthgkklahiclcpaaDoor.wp_region_L 16 10 (fun w' => w'.cell? ⟨w.heap.size, 0, none⟩ = some (.int .i64 (nn : Int))) (by kernel_rfl) rfl HQD.out (fun hS => ?_)
          refine wpAnyL_pure (i := 0) (v := .slice (some ⟨g, 0, none⟩) M.length M.length) (by simp only [List.getElem?_toArray, List.getElem?_cons_zero] <;> rfl) (by kernel_rfl) (by kernel_rfl) (by kernel_rfl) (by exact fun _ _ _ h => h) (by decide) hS (Or.inl ⟨by rfl, fun w _ => (by simp [execOp, go_sem, Act.eval])⟩) (fun hS => ?_)
          simp only [Act.put, List.setIfInBounds_toArray, List.set_cons_zero, List.set_cons_succ]
          refine wpAnyL_pure (i := 2) (v := .pointer (some ⟨w.heap.size, 0, none⟩)) (by simp only [List.getElem?_toArray, List.getElem?_cons_zero, List.getElem?_cons_succ] <;> rfl) (by kernel_rfl) (by kernel_rfl) (by kernel_rfl) (by exact fun _ _ _ h => h) (by decide) hS (Or.inl ⟨by rfl, fun w _ => (by simp [execOp, go_sem, Act.eval])⟩) (fun hS => ?_)
          simp only [Act.put, List.setIfInBounds_toArray, List.set_cons_zero, List.set_cons_succ]
          refine wpAnyL_load2 (i := 3) (v := .int .i64 (nn : Int)) (by simp only [List.getElem?_toArray, List.getElem?_cons_zero, List.getElem?_cons_succ] <;> rfl) (by kernel_rfl) (by kernel_rfl) (by kernel_rfl) (by exact fun _ _ _ h => h) (by decide) (Waits.more (j := 5) rfl ⟨⟨5, .guard⟩, by simp, rfl, rfl⟩ (Waits.more (j := 4) rfl ⟨⟨4, .data⟩, by simp, rfl, rfl⟩ (Waits.one rfl ⟨⟨3, .data⟩, by simp, rfl, rfl⟩))) (by kernel_rfl) (by kernel_rfl) hS (Or.inl ⟨by rfl, fun w hw => (by have x0 := hw; simp [execOp, go_sem, Act.eval, x0])⟩) (fun hS => ?_)
          simp only [Act.put, List.setIfInBounds_toArray, List.set_cons_zero, List.set_cons_succ]
          refine wpAnyL_one (i := 1) (by kernel_rfl) (by simp only [List.getElem?_toArray, List.getElem?_cons_zero, List.getElem?_cons_succ] <;> rfl) (by rfl) ?_
          refine opwp_call (f := 15) (args := #[.slice (some ⟨g, 0, none⟩) M.length M.length]) (w' := wr.drew) (by simp [go_sem, Act.eval]) ?_
          refine (HMF.out).mono ?_
          rintro e w5 ⟨v5, rfl, hn5, hb5⟩
          have hB5 := HBD.out.trans (hb5.mono HBD.out.size)
          have H5 := hid ((hb5.cell (cell_lt HQD.out)).trans HQD.out)
          have hi5 := hn5.ints
          have HM5 := hid (HMD.out.below hb5)
          have HOR := hid (rOrder_c _ _ (nn : Int) w5 hi5 (by have := HLF.out; omega))
          rw [HO1.out] at HOR
          refine .inl ⟨_, rfl, .inr H5.out, ?_⟩
          simp only [Act.put, List.setIfInBounds_toArray, List.set_cons_zero, List.set_cons_succ]
          refine wpAnyL_one (i := 4) (by kernel_rfl) (by simp only [List.getElem?_toArray, List.getElem?_cons_zero, List.getElem?_cons_succ] <;> rfl) (by rfl) ?_
          refine opwp_call (f := 36) (args := #[v5, .int .i64 (nn : Int)]) (w' := w5) (by simp [go_sem, Act.eval]) ?_
          refine (HOR.out).mono ?_
          rintro e w6 ⟨rfl, hb6⟩
          have hB6 := hB5.trans (hb6.mono hB5.size)
          have H6 := hid ((hb6.cell (cell_lt H5.out)).trans H5.out)
          have HM6 := hid (HM5.out.below hb6)
          have HMG := hid (MinDegree_c _ M w6 HM6.out (hT.below hT.lt hB6) (by have := HML.out; omega))
          refine .inl ⟨_, rfl, .inr H6.out, ?_⟩
          simp only [Act.put, List.setIfInBounds_toArray, List.set_cons_zero, List.set_cons_succ]
          refine wpAnyL_one (i := 5) (by kernel_rfl) (by simp only [List.getElem?_toArray, List.getElem?_cons_zero, List.getElem?_cons_succ] <;> rfl) (by rfl) ?_
          refine opwp_value (v := .bool true) (w' := w6) (by simp [execOp, go_sem, Act.eval]) ⟨.inr H6.out, ?_⟩
          simp only [Act.put, List.setIfInBounds_toArray, List.set_cons_zero, List.set_cons_succ]
          refine wpAnyL_pure (i := 6) (v := .slice (some ⟨g, 0, none⟩) M.length M.length) (by simp only [List.getElem?_toArray, List.getElem?_cons_zero, List.getElem?_cons_succ] <;> rfl) (by kernel_rfl) (by kernel_rfl) (by kernel_rfl) (by exact fun _ _ _ h => h) (by decide) (.inr H6.out) (Or.inl ⟨by rfl, fun w _ => (by simp [execOp, go_sem, Act.eval])⟩) (fun hS => ?_)
          simp only [Act.put, List.setIfInBounds_toArray, List.set_cons_zero, List.set_cons_succ]
          refine wpAnyL_pure (i := 8) (v := .pointer (some ⟨w.heap.size, 0, none⟩)) (by simp only [List.getElem?_toArray, List.getElem?_cons_zero, List.getElem?_cons_succ] <;> rfl) (by kernel_rfl) (by kernel_rfl) (by kernel_rfl) (by exact fun _ _ _ h => h) (by decide) hS (Or.inl ⟨by rfl, fun w _ => (by simp [execOp, go_sem, Act.eval])⟩) (fun hS => ?_)
          simp only [Act.put, List.setIfInBounds_toArray, List.set_cons_zero, List.set_cons_succ]
          refine wpAnyL_load2 (i := 9) (v := .int .i64 (nn : Int)) (by simp only [List.getElem?_toArray, List.getElem?_cons_zero, List.getElem?_cons_succ] <;> rfl) (by kernel_rfl) (by kernel_rfl) (by kernel_rfl) (by exact fun _ _ _ h => h) (by decide) (Waits.one rfl ⟨⟨9, .data⟩, by simp, rfl, rfl⟩) (by kernel_rfl) (by kernel_rfl) hS (Or.inl ⟨by rfl, fun w hw => (by have x0 := hw; simp [execOp, go_sem, Act.eval, x0])⟩) (fun hS => ?_)
          simp only [Act.put, List.setIfInBounds_toArray, List.set_cons_zero, List.set_cons_succ]
          refine wpAnyL_one (i := 7) (by kernel_rfl) (by simp only [List.getElem?_toArray, List.getElem?_cons_zero, List.getElem?_cons_succ] <;> rfl) (by rfl) ?_
          refine opwp_call (f := 17) (args := #[.slice (some ⟨g, 0, none⟩) M.length M.length]) (w' := w6) (by simp [go_sem, Act.eval]) ?_
          refine (HMG.out).mono ?_
          rintro e w7 ⟨v7, rfl, hn7, hb7⟩
          have hB7 := hB6.trans (hb7.mono hB6.size)
          have H7 := hid ((hb7.cell (cell_lt H6.out)).trans H6.out)
          have hi7 := hn7.ints
          have HOS := hid (rOrder_c _ _ (nn : Int) w7 hi7 (by have := HLD.out; omega))
          rw [HO2.out] at HOS
          refine .inl ⟨_, rfl, .inr H7.out, ?_⟩
          simp only [Act.put, List.setIfInBounds_toArray, List.set_cons_zero, List.set_cons_succ]
          refine wpAnyL_one (i := 10) (by kernel_rfl) (by simp only [List.getElem?_toArray, List.getElem?_cons_zero, List.getElem?_cons_succ] <;> rfl) (by rfl) ?_
          refine opwp_call (f := 36) (args := #[v7, .int .i64 (nn : Int)]) (w' := w7) (by simp [go_sem, Act.eval]) ?_
          refine (HOS.out).mono ?_
          rintro e w8 ⟨rfl, hb8⟩
          have hB8 := hB7.trans (hb8.mono hB7.size)
          refine .inl ⟨_, rfl, .inl (by kernel_rfl), ?_⟩
          simp only [Act.put, List.setIfInBounds_toArray, List.set_cons_zero, List.set_cons_succ]
          refine wpAnyL_one (i := 11) (by kernel_rfl) (by simp only [List.getElem?_toArray, List.getElem?_cons_zero, List.getElem?_cons_succ] <;> rfl) (by rfl) ?_
          refine opwp_value (v := .bool true) (w' := w8) (by simp [execOp, go_sem, Act.eval]) ⟨.inl (by kernel_rfl), ?_⟩
          simp only [Act.put, List.setIfInBounds_toArray, List.set_cons_zero, List.set_cons_succ]
          refine wpAnyL_one (i := 12) (by kernel_rfl) (by simp only [List.getElem?_toArray, List.getElem?_cons_zero, List.getElem?_cons_succ] <;> rfl) (by rfl) ?_
          refine opwp_value (v := .bool true) (w' := w8) (by simp [execOp, go_sem, Act.eval]) ⟨.inl (by kernel_rfl), ?_⟩
          simp only [Act.put, List.setIfInBounds_toArray, List.set_cons_zero, List.set_cons_succ]
          refine wpAnyL_one (i := 13) (by kernel_rfl) (by simp only [List.getElem?_toArray, List.getElem?_cons_zero, List.getElem?_cons_succ] <;> rfl) (by rfl) ?_
          refine opwp_call (f := 13) (args := #[]) (w' := w8) (by simp [go_sem]) ?_
          refine ((HW.out w8 hB8)).mono ?_
          rintro e w9 ⟨rfl, hb9⟩
          have hB9 := hB8.trans (hb9.mono hB8.size)
          refine .inl ⟨_, rfl, .inl (by kernel_rfl), ?_⟩
          simp only [Act.put, List.setIfInBounds_toArray, List.set_cons_zero, List.set_cons_succ]
          refine wpAnyL_one (i := 14) (by kernel_rfl) (by simp only [List.getElem?_toArray, List.getElem?_cons_zero, List.getElem?_cons_succ] <;> rfl) (by rfl) ?_
          refine opwp_value (v := .bool true) (w' := w9) (by simp [execOp, go_sem, Act.eval]) ⟨.inl (by kernel_rfl), ?_⟩
          simp only [Act.put, List.setIfInBounds_toArray, List.set_cons_zero, List.set_cons_succ]
          refine wpAnyL_one (i := 15) (by kernel_rfl) (by simp only [List.getElem?_toArray, List.getElem?_cons_zero, List.getElem?_cons_succ] <;> rfl) (by rfl) ?_
          refine opwp_value (v := .bool true) (w' := w9) (by simp [execOp, go_sem, Act.eval]) ⟨.inl (by kernel_rfl), ?_⟩
          simp only [Act.put, List.setIfInBounds_toArray, List.set_cons_zero, List.set_cons_succ]
          refine wpAnyL_done (by kernel_rfl) ?_ _
          go_wp2_with fail
          go_ret
          exact ⟨rfl, hB9⟩
end Go.Proofs.YthgkklahiclcpaaDoor
