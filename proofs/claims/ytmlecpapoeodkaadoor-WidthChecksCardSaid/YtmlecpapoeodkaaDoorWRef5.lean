/- Walks: the reference of the layer width: whether the bags of a vertex hang together. -/
import Derived.Test.YtmlecpapoeodkaaDoorWRef4
namespace Go.Proofs.YtmlecpapoeodkaaDoor
open Go.RowKit
attribute [local go_sem ↓] run_eqlS run_neqS run_eqlS0 run_neqS0

theorem start_yes {B : List VS} {v : Int} {k : Nat} (h1 : (startTo B v k).2 = true) (h2 : has (gOf B (k : Int)) v = true) : startTo B v (k + 1) = ((startTo B v k).1.set k true, false) := by rw [startTo, if_pos ⟨h1, h2⟩]
theorem start_no1 {B : List VS} {v : Int} {k : Nat} (h1 : (startTo B v k).2 = false) : startTo B v (k + 1) = startTo B v k := by rw [startTo, if_neg (by rw [h1]; simp)]
theorem start_no2 {B : List VS} {v : Int} {k : Nat} (h2 : has (gOf B (k : Int)) v = false) : startTo B v (k + 1) = startTo B v k := by rw [startTo, if_neg (by rw [h2]; simp)]
/-- The memory of the flood. -/
structure ConnMem (w wr : World) (g : Nat) (x y : Value) (F : List Bool) : Prop where
  bx : Box2 wr w.heap.size 33 x y
  row : WetRow wr g F
  B : Below w.heap.size w wr
theorem ConnMem.below {w wr w2 : World} {g : Nat} {x y : Value} {F : List Bool} (h : ConnMem w wr g x y F) (hb : Below wr.heap.size wr w2) : ConnMem w w2 g x y F :=
  ⟨h.bx.below hb h.bx.lt, h.row.below hb h.row.lt, h.B.trans (hb.mono h.B.size)⟩
theorem ConnMem.store {w wr : World} {g : Nat} {x y : Value} {F : List Bool} (h : ConnMem w wr g x y F) (hg : w.heap.size < g) (i : Nat) : ConnMem w (wr.setCell ⟨g, i, none⟩ (.bool true)) g x y (F.set i true) :=
  ⟨h.bx.other (by show w.heap.size ≠ g; omega) _, h.row.store i, h.B.setCell (p := ⟨g, i, none⟩) (by show w.heap.size ≤ g; omega) _⟩
set_option maxRecDepth 100000 in
set_option maxHeartbeats 16000000 in
theorem rConn_c (x y : Value) (B : List VS) (U : List Int) (v : Int) (w : World) (hx : SetsAt w x B) (hy : IntsAt w y U) (hf : Formed B.length U) (hl : B.length ≤ 100) :
    Calls Tryd.prog 66 #[.agg #[x, y], .int .i64 v] w fun e w' => ∃ r : Bool, e = .returned (.bool r) ∧ (r = true ↔ Uniq B U v) ∧ Below w.heap.size w w' := by
  have HX := hid (fun w' (h : Below w.heap.size w w') => hx.below h)
  obtain ⟨p, c, rfl, hdrop⟩ := id hx
  obtain ⟨q, d, rfl, hq⟩ := hy
  have HQ := hid hq
  have HF := hid hf
  have hul := hf.len
  clear hdrop hx hq hf
  have hB0 : Below w.heap.size w (w.alloc (.cells #[.slice p B.length c, .slice q U.length d] 33)) := (Below.refl _ w).alloc (Nat.le_refl _) _
  have b0 := Box2.new w 33 (.slice p B.length c) (.slice q U.length d)
  obtain ⟨c0, c1, _, _⟩ := b0.cells
  have hmk := fun w' => make_bools w' B.length (by omega) (B.length : Int) (B.length : Int) rfl rfl
  have HUL := hid hul
  clear hul
  go_enter Tryd.func66, Tryd.ntmps66
  go_wp2_with fail
  have hR0 : WetRow ((w.alloc (.cells #[.slice p B.length c, .slice q U.length d] 33)).alloc (.cells (madeCells #[.bool false] B.length) 4)) (w.heap.size + 1) (List.replicate B.length false) := by
    have h := WetRow.made (w.alloc (.cells #[.slice p B.length c, .slice q U.length d] 33)) B.length
    rw [World.size_alloc] at h
    exact h
  have HM0 := hid (show ConnMem w _ (w.heap.size + 1) _ _ (startTo B v 0).1 from ⟨b0.alloc _, hR0, hB0.alloc (by simp) (.cells (madeCells #[.bool false] B.length) 4)⟩)
  generalize (w.alloc (.cells #[.slice p B.length c, .slice q U.length d] 33)).alloc (.cells (madeCells #[.bool false] B.length) 4) = w1 at *
  clear hmk c0 c1 b0 hB0 hR0
  obtain ⟨g, hgT⟩ : ∃ g, g = w.heap.size + 1 := ⟨_, rfl⟩
  rw [← hgT] at HM0 ⊢
  have hgw : w.heap.size < g := by omega
  clear hgT
  go_loopw [6, 7] (fun fv i wr => ∃ k : Nat, k ≤ B.length ∧ i = .int .i64 k ∧ fv = .bool (startTo B v k).2 ∧ ConnMem w wr g (.slice p B.length c) (.slice q U.length d) (startTo B v k).1) (fun _ i _ => B.length - (intOf i).toNat)
  case atStart => exact ⟨0, Nat.zero_le _, rfl, rfl, HM0.out⟩
  case round =>
    obtain ⟨k, hk, rfl, rfl, hmem⟩ := hrel
    obtain ⟨c0, c1, _, _⟩ := hmem.bx.cells
    by_cases hkl : k < B.length
    · obtain ⟨b1, o1, c', e1, l1⟩ := (HX.out _ hmem.B).form (by omega)
      injection e1 with e1 _ e2
      subst e1; subst e2
      obtain ⟨s, hs, q0, q1⟩ := (HX.out _ hmem.B).get k hkl
      have hgs : gOf B (k : Int) = s := (gOf_nat B k hkl).trans hs
      have zk : (0 : Int) ≤ (k : Int) ∧ (k : Int) < (B.length : Int) := by omega
      have HM := hid hmem
      have HGS := hid hgs
      have HH := hid (rHas_c s v wr)
      cases hfst : (startTo B v k).2
      · have HS := hid (start_no1 hfst)
        have HFS := hid hfst
        clear hmem hgs hs q0 q1 HH hfst
        go_wp2_with fail
        go_roundw
        case rel => exact ⟨k + 1, by omega, by go_num, by rw [HS.out, HFS.out], by rw [HS.out]; exact HM.out⟩
        case measure => simp [intOf]; omega
      · have HFS := hid hfst
        clear hmem hgs hs hfst
        go_wp2_with fail
        refine HH.out.mono ?_
        rintro e w2 ⟨rfl, hb2⟩
        have HM2 := hid (HM.out.below hb2)
        clear hb2 c0 c1 q0 q1 HH HM
        cases hh : has s v
        · have HS := hid (start_no2 (B := B) (v := v) (k := k) (by rw [HGS.out]; exact hh))
          clear hh
          go_wp2_with fail
          go_roundw
          case rel => exact ⟨k + 1, by omega, by go_num, by rw [HS.out, HFS.out], by rw [HS.out]; exact HM2.out⟩
          case measure => simp [intOf]; omega
        · have HS := hid (start_yes HFS.out (by rw [HGS.out]; exact hh))
          have hl1 := (start_spec (B := B) (v := v) k).1
          obtain ⟨y0, y1⟩ := HM2.out.row.at k (by omega)
          have HM3 := hid (HM2.out.store hgw k)
          clear hh hl1 HM2
          go_wp2_with fail
          go_roundw
          case rel => exact ⟨k + 1, by omega, by go_num, by rw [HS.out], by rw [HS.out]; exact HM3.out⟩
          case measure => simp [intOf]; omega
    · obtain rfl : k = B.length := by omega
      have HM1 := hid (show ConnMem w wr g (.slice p B.length c) (.slice q U.length d) (runs B U v 0) from hmem)
      generalize (startTo B v B.length).2 = fb at *
      clear hmem HM0
      go_wp2_with fail
      clear c0 c1
      go_loopw [8] (fun i wr => ∃ r : Nat, r ≤ B.length ∧ i = .int .i64 r ∧ ConnMem w wr g (.slice p B.length c) (.slice q U.length d) (runs B U v r)) (fun i _ => B.length - (intOf i).toNat)
      case atStart => exact ⟨0, Nat.zero_le _, rfl, HM1.out⟩
      case round =>
        obtain ⟨r, hr, rfl, hmem⟩ := hrel
        obtain ⟨c0, c1, _, _⟩ := hmem.bx.cells
        by_cases hrl : r < B.length
        · have HM2 := hid (show ConnMem w wr g (.slice p B.length c) (.slice q U.length d) (floodTo B U v (runs B U v r) 0) from hmem)
          have hlr := runs_length (B := B) (U := U) (v := v) r
          have HRS := hid (show runs B U v (r + 1) = floodTo B U v (runs B U v r) B.length from rfl)
          generalize runs B U v r = F0 at *
          clear hmem
          go_wp2_with fail
          clear c0 c1
          go_loopw [9] (fun i wr => ∃ k : Nat, k ≤ B.length ∧ i = .int .i64 k ∧ ConnMem w wr g (.slice p B.length c) (.slice q U.length d) (floodTo B U v F0 k)) (fun i _ => B.length - (intOf i).toNat)
          case atStart => exact ⟨0, Nat.zero_le _, rfl, HM2.out⟩
          case round =>
            obtain ⟨k, hk, rfl, hmem⟩ := hrel
            obtain ⟨c0, c1, _, _⟩ := hmem.bx.cells
            by_cases hkl : k < B.length
            · have hul := HUL.out
              obtain ⟨bu, ou, rfl, hm'⟩ := HQ.out.resolve_left (by intro e; rw [e] at hul; simp at hul; omega)
              have hc := hm' k (by omega)
              rw [List.getElem?_eq_getElem (by omega), Option.getD_some] at hc
              have hcu := (hmem.B.cell (cell_lt hc)).trans hc
              have hup := upF_nat U k (by omega)
              obtain ⟨u, hu⟩ : ∃ u, U[k]'(by omega) = u := ⟨_, rfl⟩
              rw [hu] at hcu hup
              have HUP := hid hup
              obtain ⟨b1, o1, c', e1, l1⟩ := (HX.out _ hmem.B).form (by omega)
              injection e1 with e1 _ e2
              subst e1; subst e2
              obtain ⟨s, hs, q0, q1⟩ := (HX.out _ hmem.B).get k hkl
              have HGS := hid ((gOf_nat B k hkl).trans hs)
              have zk : (0 : Int) ≤ (k : Int) ∧ (k : Int) < (B.length : Int) := by omega
              have zku : (0 : Int) ≤ (k : Int) ∧ (k : Int) < (U.length : Int) := by omega
              have hlF : (floodTo B U v F0 k).length = B.length := (flood_length F0 k).trans hlr
              have hup2 := up_lt HF.out hkl
              rw [hup] at hup2
              have HST := hid (show floodTo B U v F0 (k + 1) = stepAt B U v (floodTo B U v F0 k) k from rfl)
              have HST0 := hid (show ¬ (0 ≤ u ∧ has s v = true ∧ has (gOf B u) v = true) ∨ wet (floodTo B U v F0 k) k = wet (floodTo B U v F0 k) u.toNat → stepAt B U v (floodTo B U v F0 k) k = floodTo B U v F0 k from fun h => by
                unfold stepAt
                rw [HUP.out, HGS.out]
                exact if_neg (fun h' => h.elim (fun h => h h'.1) (fun h => h'.2 h)))
              have HST1 := hid (show (0 ≤ u ∧ has s v = true ∧ has (gOf B u) v = true) ∧ wet (floodTo B U v F0 k) k ≠ wet (floodTo B U v F0 k) u.toNat → stepAt B U v (floodTo B U v F0 k) k = ((floodTo B U v F0 k).set k true).set u.toNat true from fun h => by
                unfold stepAt
                rw [HUP.out, HGS.out]
                exact if_pos h)
              generalize floodTo B U v F0 k = F at *
              have HM := hid hmem
              have HC := hid hcu
              have hbx := hmem.bx
              clear hul hm' hc hup hu hs hmem hcu
              clear q0 q1
              obtain ⟨s', hs', q0, q1⟩ := (HX.out _ HM.out.B).get k hkl
              obtain rfl : s = s' := HGS.out.symm.trans ((gOf_nat B k hkl).trans hs')
              have hcu := HC.out
              have RS : Hid (wr.drew.cell? ⟨b1, o1 + k * 2, none⟩ = some (.int .u64 ((lw s).toNat : Int)) ∧ wr.drew.cell? ⟨b1, o1 + k * 2 + 1, none⟩ = some (.int .u64 ((hw s).toNat : Int))) := ⟨q0, q1⟩
              have BX : Hid (Box2 wr.drew w.heap.size 33 (.slice (some ⟨b1, o1, none⟩) B.length c) (.slice (some ⟨bu, ou, none⟩) U.length d)) := hbx
              clear hs' q0 q1 hbx HC
              by_cases hj : 0 ≤ u
              · obtain ⟨j, rfl⟩ : ∃ j : Nat, u = (j : Int) := ⟨u.toNat, by omega⟩
                rw [Int.toNat_natCast] at HST0 HST1 hup2
                have hjl : j < B.length := hup2 hj
                obtain ⟨s2, hs2, r0, r1⟩ := (HX.out _ HM.out.B).get j hjl
                have HGJ := hid ((gOf_nat B j hjl).trans hs2)
                rw [HGJ.out] at HST0 HST1
                have zj : (0 : Int) ≤ (j : Int) ∧ (j : Int) < (B.length : Int) := by omega
                have RJ : Hid (wr.drew.cell? ⟨b1, o1 + j * 2, none⟩ = some (.int .u64 ((lw s2).toNat : Int)) ∧ wr.drew.cell? ⟨b1, o1 + j * 2 + 1, none⟩ = some (.int .u64 ((hw s2).toNat : Int))) := ⟨r0, r1⟩
                have FK : Hid (wr.drew.cell? ⟨g, k, none⟩ = some (.bool (wet F k))) := (HM.out.row.at k (by omega)).1
                have FJ : Hid (wr.drew.cell? ⟨g, j, none⟩ = some (.bool (wet F j))) := (HM.out.row.at j (by omega)).1
                clear hs2 r0 r1 hup2
                go_wp2_with fail
                cases hh1 : has s v
                · have HS := hid (HST0.out (.inl (by rw [hh1]; simp)))
                  refine Go.Proofs.YtmlecpapoeodkaaDoor.wp_region_L 31 30 (fun w' => Box2 w' (w.heap.size) 33 (.slice (some ⟨b1, o1, none⟩) B.length c) (.slice (some ⟨bu, ou, none⟩) U.length d) ∧ (w'.cell? ⟨b1, o1 + k * 2, none⟩ = some (.int .u64 ((lw (s)).toNat : Int)) ∧ w'.cell? ⟨b1, o1 + k * 2 + 1, none⟩ = some (.int .u64 ((hw (s)).toNat : Int)))) (by kernel_rfl) rfl ⟨BX.out, RS.out⟩ (fun _ => ?_)
                  refine wpAnyL_pure (i := 0) (v := .int .i64 (j : Int)) (by simp only [List.getElem?_toArray, List.getElem?_cons_zero] <;> rfl) (by kernel_rfl) (by kernel_rfl) (by kernel_rfl) (by exact fun _ _ _ h => h) (by decide) (.inr ⟨BX.out, RS.out⟩) (Or.inl ⟨by rfl, fun w _ => (by simp [execOp, go_sem, Act.eval])⟩) (fun _ => ?_)
                  simp only [Act.put, List.setIfInBounds_toArray, List.set_cons_zero, List.set_cons_succ]
                  refine wpAnyL_pure (i := 1) (v := .bool true) (by simp only [List.getElem?_toArray, List.getElem?_cons_zero, List.getElem?_cons_succ] <;> rfl) (by kernel_rfl) (by kernel_rfl) (by kernel_rfl) (by exact fun _ _ _ h => h) (by decide) (.inr ⟨BX.out, RS.out⟩) (Or.inl ⟨by rfl, fun w _ => (by simp [execOp, go_sem, Act.eval])⟩) (fun _ => ?_)
                  simp only [Act.put, List.setIfInBounds_toArray, List.set_cons_zero, List.set_cons_succ]
                  refine wpAnyL_pure (i := 2) (v := .bool true) (by simp only [List.getElem?_toArray, List.getElem?_cons_zero, List.getElem?_cons_succ] <;> rfl) (by kernel_rfl) (by kernel_rfl) (by kernel_rfl) (by exact fun _ _ _ h => h) (by decide) (.inr ⟨BX.out, RS.out⟩) (Or.inl ⟨by rfl, fun w _ => (by simp [execOp, go_sem, Act.eval])⟩) (fun _ => ?_)
                  simp only [Act.put, List.setIfInBounds_toArray, List.set_cons_zero, List.set_cons_succ]
                  refine wpAnyL_pure (i := 3) (v := .pointer (some ⟨w.heap.size, 0, none⟩)) (by simp only [List.getElem?_toArray, List.getElem?_cons_zero, List.getElem?_cons_succ] <;> rfl) (by kernel_rfl) (by kernel_rfl) (by kernel_rfl) (by exact fun _ _ _ h => h) (by decide) (.inr ⟨BX.out, RS.out⟩) (Or.inl ⟨by rfl, fun w _ => (by simp [execOp, go_sem, Act.eval])⟩) (fun _ => ?_)
                  simp only [Act.put, List.setIfInBounds_toArray, List.set_cons_zero, List.set_cons_succ]
                  refine wpAnyL_load2 (i := 4) (v := .slice (some ⟨b1, o1, none⟩) B.length c) (by simp only [List.getElem?_toArray, List.getElem?_cons_zero, List.getElem?_cons_succ] <;> rfl) (by kernel_rfl) (by kernel_rfl) (by kernel_rfl) (by exact fun _ _ _ h => h) (by decide) (Waits.more (j := 20) rfl ⟨⟨20, .data⟩, by simp, rfl, rfl⟩ (Waits.more (j := 19) rfl ⟨⟨19, .data⟩, by simp, rfl, rfl⟩ (Waits.more (j := 11) rfl ⟨⟨11, .data⟩, by simp, rfl, rfl⟩ (Waits.more (j := 9) rfl ⟨⟨9, .chain⟩, by simp, rfl, rfl⟩ (Waits.more (j := 7) rfl ⟨⟨7, .data⟩, by simp, rfl, rfl⟩ (Waits.more (j := 6) rfl ⟨⟨6, .data⟩, by simp, rfl, rfl⟩ (Waits.one rfl ⟨⟨4, .data⟩, by simp, rfl, rfl⟩))))))) (by kernel_rfl) (by kernel_rfl) (.inr ⟨BX.out, RS.out⟩) (Or.inl ⟨by rfl, fun w hw => (by obtain ⟨x0, _⟩ := hw; simp [execOp, go_sem, Act.eval, x0.cells.1])⟩) (fun _ => ?_)
                  simp only [Act.put, List.setIfInBounds_toArray, List.set_cons_zero, List.set_cons_succ]
                  refine wpAnyL_pure (i := 5) (v := .int .i64 (k : Int)) (by simp only [List.getElem?_toArray, List.getElem?_cons_zero, List.getElem?_cons_succ] <;> rfl) (by kernel_rfl) (by kernel_rfl) (by kernel_rfl) (by exact fun _ _ _ h => h) (by decide) (.inr ⟨BX.out, RS.out⟩) (Or.inl ⟨by rfl, fun w _ => (by simp [execOp, go_sem, Act.eval])⟩) (fun _ => ?_)
                  simp only [Act.put, List.setIfInBounds_toArray, List.set_cons_zero, List.set_cons_succ]
                  refine wpAnyL_pure (i := 6) (v := .pointer (some ⟨b1, o1 + k * 2, none⟩)) (by simp only [List.getElem?_toArray, List.getElem?_cons_zero, List.getElem?_cons_succ] <;> rfl) (by kernel_rfl) (by kernel_rfl) (by kernel_rfl) (by exact fun _ _ _ h => h) (by decide) (.inr ⟨BX.out, RS.out⟩) (Or.inl ⟨by rfl, fun w _ => (by simp [execOp, go_sem, Act.eval, zk])⟩) (fun _ => ?_)
                  simp only [Act.put, List.setIfInBounds_toArray, List.set_cons_zero, List.set_cons_succ]
                  refine wpAnyL_load2 (i := 7) (v := encS (s)) (by simp only [List.getElem?_toArray, List.getElem?_cons_zero, List.getElem?_cons_succ] <;> rfl) (by kernel_rfl) (by kernel_rfl) (by kernel_rfl) (by exact fun _ _ _ h => h) (by decide) (Waits.more (j := 20) rfl ⟨⟨20, .data⟩, by simp, rfl, rfl⟩ (Waits.more (j := 19) rfl ⟨⟨19, .data⟩, by simp, rfl, rfl⟩ (Waits.more (j := 11) rfl ⟨⟨11, .data⟩, by simp, rfl, rfl⟩ (Waits.more (j := 9) rfl ⟨⟨9, .chain⟩, by simp, rfl, rfl⟩ (Waits.one rfl ⟨⟨7, .data⟩, by simp, rfl, rfl⟩))))) (by kernel_rfl) (by kernel_rfl) (.inr ⟨BX.out, RS.out⟩) (Or.inl ⟨by rfl, fun w hw => (by obtain ⟨_, ⟨y1, z1⟩⟩ := hw; simp [execOp, go_sem, Act.eval, y1, z1])⟩) (fun _ => ?_)
                  simp only [Act.put, List.setIfInBounds_toArray, List.set_cons_zero, List.set_cons_succ]
                  refine wpAnyL_pure (i := 8) (v := .int .i64 v) (by simp only [List.getElem?_toArray, List.getElem?_cons_zero, List.getElem?_cons_succ] <;> rfl) (by kernel_rfl) (by kernel_rfl) (by kernel_rfl) (by exact fun _ _ _ h => h) (by decide) (.inr ⟨BX.out, RS.out⟩) (Or.inl ⟨by rfl, fun w _ => (by simp [execOp, go_sem, Act.eval])⟩) (fun _ => ?_)
                  simp only [Act.put, List.setIfInBounds_toArray, List.set_cons_zero, List.set_cons_succ]
                  refine wpAnyL_one (i := 9) (by kernel_rfl) (by simp only [List.getElem?_toArray, List.getElem?_cons_zero, List.getElem?_cons_succ] <;> rfl) (by rfl) ?_
                  refine opwp_call (f := 64) (args := #[encS (s), .int .i64 v]) (w' := wr.drew) (by simp [go_sem, Act.eval]) ?_
                  refine (rHas_c s v wr.drew).mono ?_
                  rintro e w9 ⟨rfl, hb9⟩
                  have hc1_0 := hid (BX.out.below hb9 BX.out.lt)
                  have hc1_1 := hid (show (w9.cell? ⟨b1, o1 + k * 2, none⟩ = some (.int .u64 ((lw (s)).toNat : Int)) ∧ w9.cell? ⟨b1, o1 + k * 2 + 1, none⟩ = some (.int .u64 ((hw (s)).toNat : Int))) from ⟨(hb9.cell (cell_lt RS.out.1)).trans RS.out.1, (hb9.cell (cell_lt RS.out.2)).trans RS.out.2⟩)
                  rw [hh1]
                  refine .inl ⟨_, rfl, .inr ⟨hc1_0.out, hc1_1.out⟩, ?_⟩
                  simp only [Act.put, List.setIfInBounds_toArray, List.set_cons_zero, List.set_cons_succ]
                  refine wpAnyL_pure (i := 10) (v := .bool false) (by simp only [List.getElem?_toArray, List.getElem?_cons_zero, List.getElem?_cons_succ] <;> rfl) (by kernel_rfl) (by kernel_rfl) (by kernel_rfl) (by exact fun _ _ _ h => h) (by decide) (.inr ⟨hc1_0.out, hc1_1.out⟩) (Or.inl ⟨by rfl, fun w _ => (by simp [execOp, go_sem, Act.eval])⟩) (fun _ => ?_)
                  simp only [Act.put, List.setIfInBounds_toArray, List.set_cons_zero, List.set_cons_succ]
                  refine wpAnyL_pure (i := 11) (v := .bool false) (by simp only [List.getElem?_toArray, List.getElem?_cons_zero, List.getElem?_cons_succ] <;> rfl) (by kernel_rfl) (by kernel_rfl) (by kernel_rfl) (by exact fun _ _ _ h => h) (by decide) (.inr ⟨hc1_0.out, hc1_1.out⟩) (Or.inl ⟨by rfl, fun w _ => (by simp [execOp, go_sem, Act.eval])⟩) (fun _ => ?_)
                  simp only [Act.put, List.setIfInBounds_toArray, List.set_cons_zero, List.set_cons_succ]
                  refine wpAnyL_pure (i := 12) (v := undef) (by simp only [List.getElem?_toArray, List.getElem?_cons_zero, List.getElem?_cons_succ] <;> rfl) (by kernel_rfl) (by kernel_rfl) (by kernel_rfl) (by exact fun _ _ _ h => h) (by decide) (.inr ⟨hc1_0.out, hc1_1.out⟩) (Or.inr ⟨by rfl, rfl⟩) (fun _ => ?_)
                  simp only [Act.put, List.setIfInBounds_toArray, List.set_cons_zero, List.set_cons_succ]
                  refine wpAnyL_pure (i := 13) (v := undef) (by simp only [List.getElem?_toArray, List.getElem?_cons_zero, List.getElem?_cons_succ] <;> rfl) (by kernel_rfl) (by kernel_rfl) (by kernel_rfl) (by exact fun _ _ _ h => h) (by decide) (.inr ⟨hc1_0.out, hc1_1.out⟩) (Or.inr ⟨by rfl, rfl⟩) (fun _ => ?_)
                  simp only [Act.put, List.setIfInBounds_toArray, List.set_cons_zero, List.set_cons_succ]
                  refine wpAnyL_pure (i := 14) (v := undef) (by simp only [List.getElem?_toArray, List.getElem?_cons_zero, List.getElem?_cons_succ] <;> rfl) (by kernel_rfl) (by kernel_rfl) (by kernel_rfl) (by exact fun _ _ _ h => h) (by decide) (.inr ⟨hc1_0.out, hc1_1.out⟩) (Or.inr ⟨by rfl, rfl⟩) (fun _ => ?_)
                  simp only [Act.put, List.setIfInBounds_toArray, List.set_cons_zero, List.set_cons_succ]
                  refine wpAnyL_pure (i := 15) (v := undef) (by simp only [List.getElem?_toArray, List.getElem?_cons_zero, List.getElem?_cons_succ] <;> rfl) (by kernel_rfl) (by kernel_rfl) (by kernel_rfl) (by exact fun _ _ _ h => h) (by decide) (.inr ⟨hc1_0.out, hc1_1.out⟩) (Or.inr ⟨by rfl, rfl⟩) (fun _ => ?_)
                  simp only [Act.put, List.setIfInBounds_toArray, List.set_cons_zero, List.set_cons_succ]
                  refine wpAnyL_pure (i := 16) (v := undef) (by simp only [List.getElem?_toArray, List.getElem?_cons_zero, List.getElem?_cons_succ] <;> rfl) (by kernel_rfl) (by kernel_rfl) (by kernel_rfl) (by exact fun _ _ _ h => h) (by decide) (.inr ⟨hc1_0.out, hc1_1.out⟩) (Or.inr ⟨by rfl, rfl⟩) (fun _ => ?_)
                  simp only [Act.put, List.setIfInBounds_toArray, List.set_cons_zero, List.set_cons_succ]
                  refine wpAnyL_pure (i := 17) (v := undef) (by simp only [List.getElem?_toArray, List.getElem?_cons_zero, List.getElem?_cons_succ] <;> rfl) (by kernel_rfl) (by kernel_rfl) (by kernel_rfl) (by exact fun _ _ _ h => h) (by decide) (.inr ⟨hc1_0.out, hc1_1.out⟩) (Or.inr ⟨by rfl, rfl⟩) (fun _ => ?_)
                  simp only [Act.put, List.setIfInBounds_toArray, List.set_cons_zero, List.set_cons_succ]
                  refine wpAnyL_pure (i := 18) (v := undef) (by simp only [List.getElem?_toArray, List.getElem?_cons_zero, List.getElem?_cons_succ] <;> rfl) (by kernel_rfl) (by kernel_rfl) (by kernel_rfl) (by exact fun _ _ _ h => h) (by decide) (.inr ⟨hc1_0.out, hc1_1.out⟩) (Or.inr ⟨by rfl, rfl⟩) (fun _ => ?_)
                  simp only [Act.put, List.setIfInBounds_toArray, List.set_cons_zero, List.set_cons_succ]
                  refine wpAnyL_pure (i := 19) (v := .bool false) (by simp only [List.getElem?_toArray, List.getElem?_cons_zero, List.getElem?_cons_succ] <;> rfl) (by kernel_rfl) (by kernel_rfl) (by kernel_rfl) (by exact fun _ _ _ h => h) (by decide) (.inr ⟨hc1_0.out, hc1_1.out⟩) (Or.inl ⟨by rfl, fun w _ => (by simp [execOp, go_sem, Act.eval])⟩) (fun _ => ?_)
                  simp only [Act.put, List.setIfInBounds_toArray, List.set_cons_zero, List.set_cons_succ]
                  refine wpAnyL_pure (i := 20) (v := .bool false) (by simp only [List.getElem?_toArray, List.getElem?_cons_zero, List.getElem?_cons_succ] <;> rfl) (by kernel_rfl) (by kernel_rfl) (by kernel_rfl) (by exact fun _ _ _ h => h) (by decide) (.inr ⟨hc1_0.out, hc1_1.out⟩) (Or.inl ⟨by rfl, fun w _ => (by simp [execOp, go_sem, Act.eval])⟩) (fun _ => ?_)
                  simp only [Act.put, List.setIfInBounds_toArray, List.set_cons_zero, List.set_cons_succ]
                  refine wpAnyL_pure (i := 21) (v := undef) (by simp only [List.getElem?_toArray, List.getElem?_cons_zero, List.getElem?_cons_succ] <;> rfl) (by kernel_rfl) (by kernel_rfl) (by kernel_rfl) (by exact fun _ _ _ h => h) (by decide) (.inr ⟨hc1_0.out, hc1_1.out⟩) (Or.inr ⟨by rfl, rfl⟩) (fun _ => ?_)
                  simp only [Act.put, List.setIfInBounds_toArray, List.set_cons_zero, List.set_cons_succ]
                  refine wpAnyL_pure (i := 22) (v := undef) (by simp only [List.getElem?_toArray, List.getElem?_cons_zero, List.getElem?_cons_succ] <;> rfl) (by kernel_rfl) (by kernel_rfl) (by kernel_rfl) (by exact fun _ _ _ h => h) (by decide) (.inr ⟨hc1_0.out, hc1_1.out⟩) (Or.inr ⟨by rfl, rfl⟩) (fun _ => ?_)
                  simp only [Act.put, List.setIfInBounds_toArray, List.set_cons_zero, List.set_cons_succ]
                  refine wpAnyL_pure (i := 23) (v := undef) (by simp only [List.getElem?_toArray, List.getElem?_cons_zero, List.getElem?_cons_succ] <;> rfl) (by kernel_rfl) (by kernel_rfl) (by kernel_rfl) (by exact fun _ _ _ h => h) (by decide) (.inr ⟨hc1_0.out, hc1_1.out⟩) (Or.inr ⟨by rfl, rfl⟩) (fun _ => ?_)
                  simp only [Act.put, List.setIfInBounds_toArray, List.set_cons_zero, List.set_cons_succ]
                  refine wpAnyL_pure (i := 24) (v := undef) (by simp only [List.getElem?_toArray, List.getElem?_cons_zero, List.getElem?_cons_succ] <;> rfl) (by kernel_rfl) (by kernel_rfl) (by kernel_rfl) (by exact fun _ _ _ h => h) (by decide) (.inr ⟨hc1_0.out, hc1_1.out⟩) (Or.inr ⟨by rfl, rfl⟩) (fun _ => ?_)
                  simp only [Act.put, List.setIfInBounds_toArray, List.set_cons_zero, List.set_cons_succ]
                  refine wpAnyL_pure (i := 25) (v := undef) (by simp only [List.getElem?_toArray, List.getElem?_cons_zero, List.getElem?_cons_succ] <;> rfl) (by kernel_rfl) (by kernel_rfl) (by kernel_rfl) (by exact fun _ _ _ h => h) (by decide) (.inr ⟨hc1_0.out, hc1_1.out⟩) (Or.inr ⟨by rfl, rfl⟩) (fun _ => ?_)
                  simp only [Act.put, List.setIfInBounds_toArray, List.set_cons_zero, List.set_cons_succ]
                  refine wpAnyL_pure (i := 26) (v := undef) (by simp only [List.getElem?_toArray, List.getElem?_cons_zero, List.getElem?_cons_succ] <;> rfl) (by kernel_rfl) (by kernel_rfl) (by kernel_rfl) (by exact fun _ _ _ h => h) (by decide) (.inr ⟨hc1_0.out, hc1_1.out⟩) (Or.inr ⟨by rfl, rfl⟩) (fun _ => ?_)
                  simp only [Act.put, List.setIfInBounds_toArray, List.set_cons_zero, List.set_cons_succ]
                  refine wpAnyL_pure (i := 27) (v := undef) (by simp only [List.getElem?_toArray, List.getElem?_cons_zero, List.getElem?_cons_succ] <;> rfl) (by kernel_rfl) (by kernel_rfl) (by kernel_rfl) (by exact fun _ _ _ h => h) (by decide) (.inr ⟨hc1_0.out, hc1_1.out⟩) (Or.inr ⟨by rfl, rfl⟩) (fun _ => ?_)
                  simp only [Act.put, List.setIfInBounds_toArray, List.set_cons_zero, List.set_cons_succ]
                  refine wpAnyL_pure (i := 28) (v := undef) (by simp only [List.getElem?_toArray, List.getElem?_cons_zero, List.getElem?_cons_succ] <;> rfl) (by kernel_rfl) (by kernel_rfl) (by kernel_rfl) (by exact fun _ _ _ h => h) (by decide) (.inr ⟨hc1_0.out, hc1_1.out⟩) (Or.inr ⟨by rfl, rfl⟩) (fun _ => ?_)
                  simp only [Act.put, List.setIfInBounds_toArray, List.set_cons_zero, List.set_cons_succ]
                  refine wpAnyL_pure (i := 29) (v := undef) (by simp only [List.getElem?_toArray, List.getElem?_cons_zero, List.getElem?_cons_succ] <;> rfl) (by kernel_rfl) (by kernel_rfl) (by kernel_rfl) (by exact fun _ _ _ h => h) (by decide) (.inr ⟨hc1_0.out, hc1_1.out⟩) (Or.inr ⟨by rfl, rfl⟩) (fun _ => ?_)
                  simp only [Act.put, List.setIfInBounds_toArray, List.set_cons_zero, List.set_cons_succ]
                  refine wpAnyL_one (i := 30) (by kernel_rfl) (by simp only [List.getElem?_toArray, List.getElem?_cons_zero, List.getElem?_cons_succ] <;> rfl) (by rfl) ?_
                  refine opwp_value (v := .bool false) (w' := w9) (by simp [execOp, go_sem, Act.eval]) ⟨.inl (by kernel_rfl), ?_⟩
                  simp only [Act.put, List.setIfInBounds_toArray, List.set_cons_zero, List.set_cons_succ]
                  refine wpAnyL_done (by kernel_rfl) ?_ _
                  have HM3 := hid (HM.out.below ((Below.refl _ wr).drew.trans hb9))
                  clear HM
                  go_wp2_with fail
                  go_roundw
                  case rel => exact ⟨k + 1, by omega, by go_num, by rw [HST.out, HS.out]; exact HM3.out⟩
                  case measure => simp [intOf]; omega
                · cases hh2 : has s2 v
                  · have HS := hid (HST0.out (.inl (by rw [hh2]; simp)))
                    refine Go.Proofs.YtmlecpapoeodkaaDoor.wp_region_L 31 30 (fun w' => Box2 w' (w.heap.size) 33 (.slice (some ⟨b1, o1, none⟩) B.length c) (.slice (some ⟨bu, ou, none⟩) U.length d) ∧ (w'.cell? ⟨b1, o1 + k * 2, none⟩ = some (.int .u64 ((lw (s)).toNat : Int)) ∧ w'.cell? ⟨b1, o1 + k * 2 + 1, none⟩ = some (.int .u64 ((hw (s)).toNat : Int))) ∧ (w'.cell? ⟨b1, o1 + j * 2, none⟩ = some (.int .u64 ((lw (s2)).toNat : Int)) ∧ w'.cell? ⟨b1, o1 + j * 2 + 1, none⟩ = some (.int .u64 ((hw (s2)).toNat : Int)))) (by kernel_rfl) rfl ⟨BX.out, RS.out, RJ.out⟩ (fun _ => ?_)
                    refine wpAnyL_pure (i := 0) (v := .int .i64 (j : Int)) (by simp only [List.getElem?_toArray, List.getElem?_cons_zero] <;> rfl) (by kernel_rfl) (by kernel_rfl) (by kernel_rfl) (by exact fun _ _ _ h => h) (by decide) (.inr ⟨BX.out, RS.out, RJ.out⟩) (Or.inl ⟨by rfl, fun w _ => (by simp [execOp, go_sem, Act.eval])⟩) (fun _ => ?_)
                    simp only [Act.put, List.setIfInBounds_toArray, List.set_cons_zero, List.set_cons_succ]
                    refine wpAnyL_pure (i := 1) (v := .bool true) (by simp only [List.getElem?_toArray, List.getElem?_cons_zero, List.getElem?_cons_succ] <;> rfl) (by kernel_rfl) (by kernel_rfl) (by kernel_rfl) (by exact fun _ _ _ h => h) (by decide) (.inr ⟨BX.out, RS.out, RJ.out⟩) (Or.inl ⟨by rfl, fun w _ => (by simp [execOp, go_sem, Act.eval])⟩) (fun _ => ?_)
                    simp only [Act.put, List.setIfInBounds_toArray, List.set_cons_zero, List.set_cons_succ]
                    refine wpAnyL_pure (i := 2) (v := .bool true) (by simp only [List.getElem?_toArray, List.getElem?_cons_zero, List.getElem?_cons_succ] <;> rfl) (by kernel_rfl) (by kernel_rfl) (by kernel_rfl) (by exact fun _ _ _ h => h) (by decide) (.inr ⟨BX.out, RS.out, RJ.out⟩) (Or.inl ⟨by rfl, fun w _ => (by simp [execOp, go_sem, Act.eval])⟩) (fun _ => ?_)
                    simp only [Act.put, List.setIfInBounds_toArray, List.set_cons_zero, List.set_cons_succ]
                    refine wpAnyL_pure (i := 3) (v := .pointer (some ⟨w.heap.size, 0, none⟩)) (by simp only [List.getElem?_toArray, List.getElem?_cons_zero, List.getElem?_cons_succ] <;> rfl) (by kernel_rfl) (by kernel_rfl) (by kernel_rfl) (by exact fun _ _ _ h => h) (by decide) (.inr ⟨BX.out, RS.out, RJ.out⟩) (Or.inl ⟨by rfl, fun w _ => (by simp [execOp, go_sem, Act.eval])⟩) (fun _ => ?_)
                    simp only [Act.put, List.setIfInBounds_toArray, List.set_cons_zero, List.set_cons_succ]
                    refine wpAnyL_load2 (i := 4) (v := .slice (some ⟨b1, o1, none⟩) B.length c) (by simp only [List.getElem?_toArray, List.getElem?_cons_zero, List.getElem?_cons_succ] <;> rfl) (by kernel_rfl) (by kernel_rfl) (by kernel_rfl) (by exact fun _ _ _ h => h) (by decide) (Waits.more (j := 20) rfl ⟨⟨20, .data⟩, by simp, rfl, rfl⟩ (Waits.more (j := 19) rfl ⟨⟨19, .data⟩, by simp, rfl, rfl⟩ (Waits.more (j := 11) rfl ⟨⟨11, .data⟩, by simp, rfl, rfl⟩ (Waits.more (j := 9) rfl ⟨⟨9, .chain⟩, by simp, rfl, rfl⟩ (Waits.more (j := 7) rfl ⟨⟨7, .data⟩, by simp, rfl, rfl⟩ (Waits.more (j := 6) rfl ⟨⟨6, .data⟩, by simp, rfl, rfl⟩ (Waits.one rfl ⟨⟨4, .data⟩, by simp, rfl, rfl⟩))))))) (by kernel_rfl) (by kernel_rfl) (.inr ⟨BX.out, RS.out, RJ.out⟩) (Or.inl ⟨by rfl, fun w hw => (by obtain ⟨x0, _, _⟩ := hw; simp [execOp, go_sem, Act.eval, x0.cells.1])⟩) (fun _ => ?_)
                    simp only [Act.put, List.setIfInBounds_toArray, List.set_cons_zero, List.set_cons_succ]
                    refine wpAnyL_pure (i := 5) (v := .int .i64 (k : Int)) (by simp only [List.getElem?_toArray, List.getElem?_cons_zero, List.getElem?_cons_succ] <;> rfl) (by kernel_rfl) (by kernel_rfl) (by kernel_rfl) (by exact fun _ _ _ h => h) (by decide) (.inr ⟨BX.out, RS.out, RJ.out⟩) (Or.inl ⟨by rfl, fun w _ => (by simp [execOp, go_sem, Act.eval])⟩) (fun _ => ?_)
                    simp only [Act.put, List.setIfInBounds_toArray, List.set_cons_zero, List.set_cons_succ]
                    refine wpAnyL_pure (i := 6) (v := .pointer (some ⟨b1, o1 + k * 2, none⟩)) (by simp only [List.getElem?_toArray, List.getElem?_cons_zero, List.getElem?_cons_succ] <;> rfl) (by kernel_rfl) (by kernel_rfl) (by kernel_rfl) (by exact fun _ _ _ h => h) (by decide) (.inr ⟨BX.out, RS.out, RJ.out⟩) (Or.inl ⟨by rfl, fun w _ => (by simp [execOp, go_sem, Act.eval, zk])⟩) (fun _ => ?_)
                    simp only [Act.put, List.setIfInBounds_toArray, List.set_cons_zero, List.set_cons_succ]
                    refine wpAnyL_load2 (i := 7) (v := encS (s)) (by simp only [List.getElem?_toArray, List.getElem?_cons_zero, List.getElem?_cons_succ] <;> rfl) (by kernel_rfl) (by kernel_rfl) (by kernel_rfl) (by exact fun _ _ _ h => h) (by decide) (Waits.more (j := 20) rfl ⟨⟨20, .data⟩, by simp, rfl, rfl⟩ (Waits.more (j := 19) rfl ⟨⟨19, .data⟩, by simp, rfl, rfl⟩ (Waits.more (j := 11) rfl ⟨⟨11, .data⟩, by simp, rfl, rfl⟩ (Waits.more (j := 9) rfl ⟨⟨9, .chain⟩, by simp, rfl, rfl⟩ (Waits.one rfl ⟨⟨7, .data⟩, by simp, rfl, rfl⟩))))) (by kernel_rfl) (by kernel_rfl) (.inr ⟨BX.out, RS.out, RJ.out⟩) (Or.inl ⟨by rfl, fun w hw => (by obtain ⟨_, ⟨y1, z1⟩, _⟩ := hw; simp [execOp, go_sem, Act.eval, y1, z1])⟩) (fun _ => ?_)
                    simp only [Act.put, List.setIfInBounds_toArray, List.set_cons_zero, List.set_cons_succ]
                    refine wpAnyL_pure (i := 8) (v := .int .i64 v) (by simp only [List.getElem?_toArray, List.getElem?_cons_zero, List.getElem?_cons_succ] <;> rfl) (by kernel_rfl) (by kernel_rfl) (by kernel_rfl) (by exact fun _ _ _ h => h) (by decide) (.inr ⟨BX.out, RS.out, RJ.out⟩) (Or.inl ⟨by rfl, fun w _ => (by simp [execOp, go_sem, Act.eval])⟩) (fun _ => ?_)
                    simp only [Act.put, List.setIfInBounds_toArray, List.set_cons_zero, List.set_cons_succ]
                    refine wpAnyL_one (i := 9) (by kernel_rfl) (by simp only [List.getElem?_toArray, List.getElem?_cons_zero, List.getElem?_cons_succ] <;> rfl) (by rfl) ?_
                    refine opwp_call (f := 64) (args := #[encS (s), .int .i64 v]) (w' := wr.drew) (by simp [go_sem, Act.eval]) ?_
                    refine (rHas_c s v wr.drew).mono ?_
                    rintro e w9 ⟨rfl, hb9⟩
                    have hc1_0 := hid (BX.out.below hb9 BX.out.lt)
                    have hc1_1 := hid (show (w9.cell? ⟨b1, o1 + k * 2, none⟩ = some (.int .u64 ((lw (s)).toNat : Int)) ∧ w9.cell? ⟨b1, o1 + k * 2 + 1, none⟩ = some (.int .u64 ((hw (s)).toNat : Int))) from ⟨(hb9.cell (cell_lt RS.out.1)).trans RS.out.1, (hb9.cell (cell_lt RS.out.2)).trans RS.out.2⟩)
                    have hc1_2 := hid (show (w9.cell? ⟨b1, o1 + j * 2, none⟩ = some (.int .u64 ((lw (s2)).toNat : Int)) ∧ w9.cell? ⟨b1, o1 + j * 2 + 1, none⟩ = some (.int .u64 ((hw (s2)).toNat : Int))) from ⟨(hb9.cell (cell_lt RJ.out.1)).trans RJ.out.1, (hb9.cell (cell_lt RJ.out.2)).trans RJ.out.2⟩)
                    rw [hh1]
                    refine .inl ⟨_, rfl, .inr ⟨hc1_0.out, hc1_1.out, hc1_2.out⟩, ?_⟩
                    simp only [Act.put, List.setIfInBounds_toArray, List.set_cons_zero, List.set_cons_succ]
                    refine wpAnyL_pure (i := 10) (v := .bool true) (by simp only [List.getElem?_toArray, List.getElem?_cons_zero, List.getElem?_cons_succ] <;> rfl) (by kernel_rfl) (by kernel_rfl) (by kernel_rfl) (by exact fun _ _ _ h => h) (by decide) (.inr ⟨hc1_0.out, hc1_1.out, hc1_2.out⟩) (Or.inl ⟨by rfl, fun w _ => (by simp [execOp, go_sem, Act.eval])⟩) (fun _ => ?_)
                    simp only [Act.put, List.setIfInBounds_toArray, List.set_cons_zero, List.set_cons_succ]
                    refine wpAnyL_pure (i := 11) (v := .bool true) (by simp only [List.getElem?_toArray, List.getElem?_cons_zero, List.getElem?_cons_succ] <;> rfl) (by kernel_rfl) (by kernel_rfl) (by kernel_rfl) (by exact fun _ _ _ h => h) (by decide) (.inr ⟨hc1_0.out, hc1_1.out, hc1_2.out⟩) (Or.inl ⟨by rfl, fun w _ => (by simp [execOp, go_sem, Act.eval])⟩) (fun _ => ?_)
                    simp only [Act.put, List.setIfInBounds_toArray, List.set_cons_zero, List.set_cons_succ]
                    refine wpAnyL_pure (i := 12) (v := .pointer (some ⟨w.heap.size, 0, none⟩)) (by simp only [List.getElem?_toArray, List.getElem?_cons_zero, List.getElem?_cons_succ] <;> rfl) (by kernel_rfl) (by kernel_rfl) (by kernel_rfl) (by exact fun _ _ _ h => h) (by decide) (.inr ⟨hc1_0.out, hc1_1.out, hc1_2.out⟩) (Or.inl ⟨by rfl, fun w _ => (by simp [execOp, go_sem, Act.eval])⟩) (fun _ => ?_)
                    simp only [Act.put, List.setIfInBounds_toArray, List.set_cons_zero, List.set_cons_succ]
                    refine wpAnyL_load2 (i := 13) (v := .slice (some ⟨b1, o1, none⟩) B.length c) (by simp only [List.getElem?_toArray, List.getElem?_cons_zero, List.getElem?_cons_succ] <;> rfl) (by kernel_rfl) (by kernel_rfl) (by kernel_rfl) (by exact fun _ _ _ h => h) (by decide) (Waits.more (j := 20) rfl ⟨⟨20, .data⟩, by simp, rfl, rfl⟩ (Waits.more (j := 18) rfl ⟨⟨18, .chain⟩, by simp, rfl, rfl⟩ (Waits.more (j := 16) rfl ⟨⟨16, .data⟩, by simp, rfl, rfl⟩ (Waits.more (j := 15) rfl ⟨⟨15, .data⟩, by simp, rfl, rfl⟩ (Waits.one rfl ⟨⟨13, .data⟩, by simp, rfl, rfl⟩))))) (by kernel_rfl) (by kernel_rfl) (.inr ⟨hc1_0.out, hc1_1.out, hc1_2.out⟩) (Or.inl ⟨by rfl, fun w hw => (by obtain ⟨x0, _, _⟩ := hw; simp [execOp, go_sem, Act.eval, x0.cells.1])⟩) (fun _ => ?_)
                    simp only [Act.put, List.setIfInBounds_toArray, List.set_cons_zero, List.set_cons_succ]
                    refine wpAnyL_pure (i := 14) (v := .int .i64 (j : Int)) (by simp only [List.getElem?_toArray, List.getElem?_cons_zero, List.getElem?_cons_succ] <;> rfl) (by kernel_rfl) (by kernel_rfl) (by kernel_rfl) (by exact fun _ _ _ h => h) (by decide) (.inr ⟨hc1_0.out, hc1_1.out, hc1_2.out⟩) (Or.inl ⟨by rfl, fun w _ => (by simp [execOp, go_sem, Act.eval])⟩) (fun _ => ?_)
                    simp only [Act.put, List.setIfInBounds_toArray, List.set_cons_zero, List.set_cons_succ]
                    refine wpAnyL_pure (i := 15) (v := .pointer (some ⟨b1, o1 + j * 2, none⟩)) (by simp only [List.getElem?_toArray, List.getElem?_cons_zero, List.getElem?_cons_succ] <;> rfl) (by kernel_rfl) (by kernel_rfl) (by kernel_rfl) (by exact fun _ _ _ h => h) (by decide) (.inr ⟨hc1_0.out, hc1_1.out, hc1_2.out⟩) (Or.inl ⟨by rfl, fun w _ => (by simp [execOp, go_sem, Act.eval, zj])⟩) (fun _ => ?_)
                    simp only [Act.put, List.setIfInBounds_toArray, List.set_cons_zero, List.set_cons_succ]
                    refine wpAnyL_load2 (i := 16) (v := encS (s2)) (by simp only [List.getElem?_toArray, List.getElem?_cons_zero, List.getElem?_cons_succ] <;> rfl) (by kernel_rfl) (by kernel_rfl) (by kernel_rfl) (by exact fun _ _ _ h => h) (by decide) (Waits.more (j := 20) rfl ⟨⟨20, .data⟩, by simp, rfl, rfl⟩ (Waits.more (j := 18) rfl ⟨⟨18, .chain⟩, by simp, rfl, rfl⟩ (Waits.one rfl ⟨⟨16, .data⟩, by simp, rfl, rfl⟩))) (by kernel_rfl) (by kernel_rfl) (.inr ⟨hc1_0.out, hc1_1.out, hc1_2.out⟩) (Or.inl ⟨by rfl, fun w hw => (by obtain ⟨_, _, ⟨y2, z2⟩⟩ := hw; simp [execOp, go_sem, Act.eval, y2, z2])⟩) (fun _ => ?_)
                    simp only [Act.put, List.setIfInBounds_toArray, List.set_cons_zero, List.set_cons_succ]
                    refine wpAnyL_pure (i := 17) (v := .int .i64 v) (by simp only [List.getElem?_toArray, List.getElem?_cons_zero, List.getElem?_cons_succ] <;> rfl) (by kernel_rfl) (by kernel_rfl) (by kernel_rfl) (by exact fun _ _ _ h => h) (by decide) (.inr ⟨hc1_0.out, hc1_1.out, hc1_2.out⟩) (Or.inl ⟨by rfl, fun w _ => (by simp [execOp, go_sem, Act.eval])⟩) (fun _ => ?_)
                    simp only [Act.put, List.setIfInBounds_toArray, List.set_cons_zero, List.set_cons_succ]
                    refine wpAnyL_one (i := 18) (by kernel_rfl) (by simp only [List.getElem?_toArray, List.getElem?_cons_zero, List.getElem?_cons_succ] <;> rfl) (by rfl) ?_
                    refine opwp_call (f := 64) (args := #[encS (s2), .int .i64 v]) (w' := w9) (by simp [go_sem, Act.eval]) ?_
                    refine (rHas_c s2 v w9).mono ?_
                    rintro e w10 ⟨rfl, hb10⟩
                    have hc2_0 := hid (hc1_0.out.below hb10 hc1_0.out.lt)
                    have hc2_1 := hid (show (w10.cell? ⟨b1, o1 + k * 2, none⟩ = some (.int .u64 ((lw (s)).toNat : Int)) ∧ w10.cell? ⟨b1, o1 + k * 2 + 1, none⟩ = some (.int .u64 ((hw (s)).toNat : Int))) from ⟨(hb10.cell (cell_lt hc1_1.out.1)).trans hc1_1.out.1, (hb10.cell (cell_lt hc1_1.out.2)).trans hc1_1.out.2⟩)
                    have hc2_2 := hid (show (w10.cell? ⟨b1, o1 + j * 2, none⟩ = some (.int .u64 ((lw (s2)).toNat : Int)) ∧ w10.cell? ⟨b1, o1 + j * 2 + 1, none⟩ = some (.int .u64 ((hw (s2)).toNat : Int))) from ⟨(hb10.cell (cell_lt hc1_2.out.1)).trans hc1_2.out.1, (hb10.cell (cell_lt hc1_2.out.2)).trans hc1_2.out.2⟩)
                    rw [hh2]
                    refine .inl ⟨_, rfl, .inr ⟨hc2_0.out, hc2_1.out, hc2_2.out⟩, ?_⟩
                    simp only [Act.put, List.setIfInBounds_toArray, List.set_cons_zero, List.set_cons_succ]
                    refine wpAnyL_pure (i := 19) (v := .bool false) (by simp only [List.getElem?_toArray, List.getElem?_cons_zero, List.getElem?_cons_succ] <;> rfl) (by kernel_rfl) (by kernel_rfl) (by kernel_rfl) (by exact fun _ _ _ h => h) (by decide) (.inr ⟨hc2_0.out, hc2_1.out, hc2_2.out⟩) (Or.inl ⟨by rfl, fun w _ => (by simp [execOp, go_sem, Act.eval])⟩) (fun _ => ?_)
                    simp only [Act.put, List.setIfInBounds_toArray, List.set_cons_zero, List.set_cons_succ]
                    refine wpAnyL_pure (i := 20) (v := .bool false) (by simp only [List.getElem?_toArray, List.getElem?_cons_zero, List.getElem?_cons_succ] <;> rfl) (by kernel_rfl) (by kernel_rfl) (by kernel_rfl) (by exact fun _ _ _ h => h) (by decide) (.inr ⟨hc2_0.out, hc2_1.out, hc2_2.out⟩) (Or.inl ⟨by rfl, fun w _ => (by simp [execOp, go_sem, Act.eval])⟩) (fun _ => ?_)
                    simp only [Act.put, List.setIfInBounds_toArray, List.set_cons_zero, List.set_cons_succ]
                    refine wpAnyL_pure (i := 21) (v := undef) (by simp only [List.getElem?_toArray, List.getElem?_cons_zero, List.getElem?_cons_succ] <;> rfl) (by kernel_rfl) (by kernel_rfl) (by kernel_rfl) (by exact fun _ _ _ h => h) (by decide) (.inr ⟨hc2_0.out, hc2_1.out, hc2_2.out⟩) (Or.inr ⟨by rfl, rfl⟩) (fun _ => ?_)
                    simp only [Act.put, List.setIfInBounds_toArray, List.set_cons_zero, List.set_cons_succ]
                    refine wpAnyL_pure (i := 22) (v := undef) (by simp only [List.getElem?_toArray, List.getElem?_cons_zero, List.getElem?_cons_succ] <;> rfl) (by kernel_rfl) (by kernel_rfl) (by kernel_rfl) (by exact fun _ _ _ h => h) (by decide) (.inr ⟨hc2_0.out, hc2_1.out, hc2_2.out⟩) (Or.inr ⟨by rfl, rfl⟩) (fun _ => ?_)
                    simp only [Act.put, List.setIfInBounds_toArray, List.set_cons_zero, List.set_cons_succ]
                    refine wpAnyL_pure (i := 23) (v := undef) (by simp only [List.getElem?_toArray, List.getElem?_cons_zero, List.getElem?_cons_succ] <;> rfl) (by kernel_rfl) (by kernel_rfl) (by kernel_rfl) (by exact fun _ _ _ h => h) (by decide) (.inr ⟨hc2_0.out, hc2_1.out, hc2_2.out⟩) (Or.inr ⟨by rfl, rfl⟩) (fun _ => ?_)
                    simp only [Act.put, List.setIfInBounds_toArray, List.set_cons_zero, List.set_cons_succ]
                    refine wpAnyL_pure (i := 24) (v := undef) (by simp only [List.getElem?_toArray, List.getElem?_cons_zero, List.getElem?_cons_succ] <;> rfl) (by kernel_rfl) (by kernel_rfl) (by kernel_rfl) (by exact fun _ _ _ h => h) (by decide) (.inr ⟨hc2_0.out, hc2_1.out, hc2_2.out⟩) (Or.inr ⟨by rfl, rfl⟩) (fun _ => ?_)
                    simp only [Act.put, List.setIfInBounds_toArray, List.set_cons_zero, List.set_cons_succ]
                    refine wpAnyL_pure (i := 25) (v := undef) (by simp only [List.getElem?_toArray, List.getElem?_cons_zero, List.getElem?_cons_succ] <;> rfl) (by kernel_rfl) (by kernel_rfl) (by kernel_rfl) (by exact fun _ _ _ h => h) (by decide) (.inr ⟨hc2_0.out, hc2_1.out, hc2_2.out⟩) (Or.inr ⟨by rfl, rfl⟩) (fun _ => ?_)
                    simp only [Act.put, List.setIfInBounds_toArray, List.set_cons_zero, List.set_cons_succ]
                    refine wpAnyL_pure (i := 26) (v := undef) (by simp only [List.getElem?_toArray, List.getElem?_cons_zero, List.getElem?_cons_succ] <;> rfl) (by kernel_rfl) (by kernel_rfl) (by kernel_rfl) (by exact fun _ _ _ h => h) (by decide) (.inr ⟨hc2_0.out, hc2_1.out, hc2_2.out⟩) (Or.inr ⟨by rfl, rfl⟩) (fun _ => ?_)
                    simp only [Act.put, List.setIfInBounds_toArray, List.set_cons_zero, List.set_cons_succ]
                    refine wpAnyL_pure (i := 27) (v := undef) (by simp only [List.getElem?_toArray, List.getElem?_cons_zero, List.getElem?_cons_succ] <;> rfl) (by kernel_rfl) (by kernel_rfl) (by kernel_rfl) (by exact fun _ _ _ h => h) (by decide) (.inr ⟨hc2_0.out, hc2_1.out, hc2_2.out⟩) (Or.inr ⟨by rfl, rfl⟩) (fun _ => ?_)
                    simp only [Act.put, List.setIfInBounds_toArray, List.set_cons_zero, List.set_cons_succ]
                    refine wpAnyL_pure (i := 28) (v := undef) (by simp only [List.getElem?_toArray, List.getElem?_cons_zero, List.getElem?_cons_succ] <;> rfl) (by kernel_rfl) (by kernel_rfl) (by kernel_rfl) (by exact fun _ _ _ h => h) (by decide) (.inr ⟨hc2_0.out, hc2_1.out, hc2_2.out⟩) (Or.inr ⟨by rfl, rfl⟩) (fun _ => ?_)
                    simp only [Act.put, List.setIfInBounds_toArray, List.set_cons_zero, List.set_cons_succ]
                    refine wpAnyL_pure (i := 29) (v := undef) (by simp only [List.getElem?_toArray, List.getElem?_cons_zero, List.getElem?_cons_succ] <;> rfl) (by kernel_rfl) (by kernel_rfl) (by kernel_rfl) (by exact fun _ _ _ h => h) (by decide) (.inr ⟨hc2_0.out, hc2_1.out, hc2_2.out⟩) (Or.inr ⟨by rfl, rfl⟩) (fun _ => ?_)
                    simp only [Act.put, List.setIfInBounds_toArray, List.set_cons_zero, List.set_cons_succ]
                    refine wpAnyL_one (i := 30) (by kernel_rfl) (by simp only [List.getElem?_toArray, List.getElem?_cons_zero, List.getElem?_cons_succ] <;> rfl) (by rfl) ?_
                    refine opwp_value (v := .bool false) (w' := w10) (by simp [execOp, go_sem, Act.eval]) ⟨.inl (by kernel_rfl), ?_⟩
                    simp only [Act.put, List.setIfInBounds_toArray, List.set_cons_zero, List.set_cons_succ]
                    refine wpAnyL_done (by kernel_rfl) ?_ _
                    have HM3 := hid (HM.out.below (((Below.refl _ wr).drew.trans hb9).trans (hb10.mono hb9.size)))
                    clear HM
                    go_wp2_with fail
                    go_roundw
                    case rel => exact ⟨k + 1, by omega, by go_num, by rw [HST.out, HS.out]; exact HM3.out⟩
                    case measure => simp [intOf]; omega
                  · have HH1 := hid hh1
                    have HH2 := hid hh2
                    cases hx : wet F k <;> rw [hx] at FK HST0 HST1 <;> cases hy : wet F j <;> rw [hy] at FJ HST0 HST1
                    · have HS := hid (HST0.out (.inr rfl))
                      refine Go.Proofs.YtmlecpapoeodkaaDoor.wp_region_L 31 30 (fun w' => Box2 w' (w.heap.size) 33 (.slice (some ⟨b1, o1, none⟩) B.length c) (.slice (some ⟨bu, ou, none⟩) U.length d) ∧ (w'.cell? ⟨b1, o1 + k * 2, none⟩ = some (.int .u64 ((lw (s)).toNat : Int)) ∧ w'.cell? ⟨b1, o1 + k * 2 + 1, none⟩ = some (.int .u64 ((hw (s)).toNat : Int))) ∧ (w'.cell? ⟨b1, o1 + j * 2, none⟩ = some (.int .u64 ((lw (s2)).toNat : Int)) ∧ w'.cell? ⟨b1, o1 + j * 2 + 1, none⟩ = some (.int .u64 ((hw (s2)).toNat : Int))) ∧ w'.cell? ⟨g, k, none⟩ = some (.bool false) ∧ w'.cell? ⟨g, j, none⟩ = some (.bool false)) (by kernel_rfl) rfl ⟨BX.out, RS.out, RJ.out, FK.out, FJ.out⟩ (fun _ => ?_)
                      refine wpAnyL_pure (i := 0) (v := .int .i64 (j : Int)) (by simp only [List.getElem?_toArray, List.getElem?_cons_zero] <;> rfl) (by kernel_rfl) (by kernel_rfl) (by kernel_rfl) (by exact fun _ _ _ h => h) (by decide) (.inr ⟨BX.out, RS.out, RJ.out, FK.out, FJ.out⟩) (Or.inl ⟨by rfl, fun w _ => (by simp [execOp, go_sem, Act.eval])⟩) (fun _ => ?_)
                      simp only [Act.put, List.setIfInBounds_toArray, List.set_cons_zero, List.set_cons_succ]
                      refine wpAnyL_pure (i := 1) (v := .bool true) (by simp only [List.getElem?_toArray, List.getElem?_cons_zero, List.getElem?_cons_succ] <;> rfl) (by kernel_rfl) (by kernel_rfl) (by kernel_rfl) (by exact fun _ _ _ h => h) (by decide) (.inr ⟨BX.out, RS.out, RJ.out, FK.out, FJ.out⟩) (Or.inl ⟨by rfl, fun w _ => (by simp [execOp, go_sem, Act.eval])⟩) (fun _ => ?_)
                      simp only [Act.put, List.setIfInBounds_toArray, List.set_cons_zero, List.set_cons_succ]
                      refine wpAnyL_pure (i := 2) (v := .bool true) (by simp only [List.getElem?_toArray, List.getElem?_cons_zero, List.getElem?_cons_succ] <;> rfl) (by kernel_rfl) (by kernel_rfl) (by kernel_rfl) (by exact fun _ _ _ h => h) (by decide) (.inr ⟨BX.out, RS.out, RJ.out, FK.out, FJ.out⟩) (Or.inl ⟨by rfl, fun w _ => (by simp [execOp, go_sem, Act.eval])⟩) (fun _ => ?_)
                      simp only [Act.put, List.setIfInBounds_toArray, List.set_cons_zero, List.set_cons_succ]
                      refine wpAnyL_pure (i := 3) (v := .pointer (some ⟨w.heap.size, 0, none⟩)) (by simp only [List.getElem?_toArray, List.getElem?_cons_zero, List.getElem?_cons_succ] <;> rfl) (by kernel_rfl) (by kernel_rfl) (by kernel_rfl) (by exact fun _ _ _ h => h) (by decide) (.inr ⟨BX.out, RS.out, RJ.out, FK.out, FJ.out⟩) (Or.inl ⟨by rfl, fun w _ => (by simp [execOp, go_sem, Act.eval])⟩) (fun _ => ?_)
                      simp only [Act.put, List.setIfInBounds_toArray, List.set_cons_zero, List.set_cons_succ]
                      refine wpAnyL_load2 (i := 4) (v := .slice (some ⟨b1, o1, none⟩) B.length c) (by simp only [List.getElem?_toArray, List.getElem?_cons_zero, List.getElem?_cons_succ] <;> rfl) (by kernel_rfl) (by kernel_rfl) (by kernel_rfl) (by exact fun _ _ _ h => h) (by decide) (Waits.more (j := 20) rfl ⟨⟨20, .data⟩, by simp, rfl, rfl⟩ (Waits.more (j := 19) rfl ⟨⟨19, .data⟩, by simp, rfl, rfl⟩ (Waits.more (j := 11) rfl ⟨⟨11, .data⟩, by simp, rfl, rfl⟩ (Waits.more (j := 9) rfl ⟨⟨9, .chain⟩, by simp, rfl, rfl⟩ (Waits.more (j := 7) rfl ⟨⟨7, .data⟩, by simp, rfl, rfl⟩ (Waits.more (j := 6) rfl ⟨⟨6, .data⟩, by simp, rfl, rfl⟩ (Waits.one rfl ⟨⟨4, .data⟩, by simp, rfl, rfl⟩))))))) (by kernel_rfl) (by kernel_rfl) (.inr ⟨BX.out, RS.out, RJ.out, FK.out, FJ.out⟩) (Or.inl ⟨by rfl, fun w hw => (by obtain ⟨x0, _, _, _, _⟩ := hw; simp [execOp, go_sem, Act.eval, x0.cells.1])⟩) (fun _ => ?_)
                      simp only [Act.put, List.setIfInBounds_toArray, List.set_cons_zero, List.set_cons_succ]
                      refine wpAnyL_pure (i := 5) (v := .int .i64 (k : Int)) (by simp only [List.getElem?_toArray, List.getElem?_cons_zero, List.getElem?_cons_succ] <;> rfl) (by kernel_rfl) (by kernel_rfl) (by kernel_rfl) (by exact fun _ _ _ h => h) (by decide) (.inr ⟨BX.out, RS.out, RJ.out, FK.out, FJ.out⟩) (Or.inl ⟨by rfl, fun w _ => (by simp [execOp, go_sem, Act.eval])⟩) (fun _ => ?_)
                      simp only [Act.put, List.setIfInBounds_toArray, List.set_cons_zero, List.set_cons_succ]
                      refine wpAnyL_pure (i := 6) (v := .pointer (some ⟨b1, o1 + k * 2, none⟩)) (by simp only [List.getElem?_toArray, List.getElem?_cons_zero, List.getElem?_cons_succ] <;> rfl) (by kernel_rfl) (by kernel_rfl) (by kernel_rfl) (by exact fun _ _ _ h => h) (by decide) (.inr ⟨BX.out, RS.out, RJ.out, FK.out, FJ.out⟩) (Or.inl ⟨by rfl, fun w _ => (by simp [execOp, go_sem, Act.eval, zk])⟩) (fun _ => ?_)
                      simp only [Act.put, List.setIfInBounds_toArray, List.set_cons_zero, List.set_cons_succ]
                      refine wpAnyL_load2 (i := 7) (v := encS (s)) (by simp only [List.getElem?_toArray, List.getElem?_cons_zero, List.getElem?_cons_succ] <;> rfl) (by kernel_rfl) (by kernel_rfl) (by kernel_rfl) (by exact fun _ _ _ h => h) (by decide) (Waits.more (j := 20) rfl ⟨⟨20, .data⟩, by simp, rfl, rfl⟩ (Waits.more (j := 19) rfl ⟨⟨19, .data⟩, by simp, rfl, rfl⟩ (Waits.more (j := 11) rfl ⟨⟨11, .data⟩, by simp, rfl, rfl⟩ (Waits.more (j := 9) rfl ⟨⟨9, .chain⟩, by simp, rfl, rfl⟩ (Waits.one rfl ⟨⟨7, .data⟩, by simp, rfl, rfl⟩))))) (by kernel_rfl) (by kernel_rfl) (.inr ⟨BX.out, RS.out, RJ.out, FK.out, FJ.out⟩) (Or.inl ⟨by rfl, fun w hw => (by obtain ⟨_, ⟨y1, z1⟩, _, _, _⟩ := hw; simp [execOp, go_sem, Act.eval, y1, z1])⟩) (fun _ => ?_)
                      simp only [Act.put, List.setIfInBounds_toArray, List.set_cons_zero, List.set_cons_succ]
                      refine wpAnyL_pure (i := 8) (v := .int .i64 v) (by simp only [List.getElem?_toArray, List.getElem?_cons_zero, List.getElem?_cons_succ] <;> rfl) (by kernel_rfl) (by kernel_rfl) (by kernel_rfl) (by exact fun _ _ _ h => h) (by decide) (.inr ⟨BX.out, RS.out, RJ.out, FK.out, FJ.out⟩) (Or.inl ⟨by rfl, fun w _ => (by simp [execOp, go_sem, Act.eval])⟩) (fun _ => ?_)
                      simp only [Act.put, List.setIfInBounds_toArray, List.set_cons_zero, List.set_cons_succ]
                      refine wpAnyL_one (i := 9) (by kernel_rfl) (by simp only [List.getElem?_toArray, List.getElem?_cons_zero, List.getElem?_cons_succ] <;> rfl) (by rfl) ?_
                      refine opwp_call (f := 64) (args := #[encS (s), .int .i64 v]) (w' := wr.drew) (by simp [go_sem, Act.eval]) ?_
                      refine (rHas_c s v wr.drew).mono ?_
                      rintro e w9 ⟨rfl, hb9⟩
                      have hc1_0 := hid (BX.out.below hb9 BX.out.lt)
                      have hc1_1 := hid (show (w9.cell? ⟨b1, o1 + k * 2, none⟩ = some (.int .u64 ((lw (s)).toNat : Int)) ∧ w9.cell? ⟨b1, o1 + k * 2 + 1, none⟩ = some (.int .u64 ((hw (s)).toNat : Int))) from ⟨(hb9.cell (cell_lt RS.out.1)).trans RS.out.1, (hb9.cell (cell_lt RS.out.2)).trans RS.out.2⟩)
                      have hc1_2 := hid (show (w9.cell? ⟨b1, o1 + j * 2, none⟩ = some (.int .u64 ((lw (s2)).toNat : Int)) ∧ w9.cell? ⟨b1, o1 + j * 2 + 1, none⟩ = some (.int .u64 ((hw (s2)).toNat : Int))) from ⟨(hb9.cell (cell_lt RJ.out.1)).trans RJ.out.1, (hb9.cell (cell_lt RJ.out.2)).trans RJ.out.2⟩)
                      have hc1_3 := hid ((hb9.cell (cell_lt FK.out)).trans FK.out)
                      have hc1_4 := hid ((hb9.cell (cell_lt FJ.out)).trans FJ.out)
                      rw [hh1]
                      refine .inl ⟨_, rfl, .inr ⟨hc1_0.out, hc1_1.out, hc1_2.out, hc1_3.out, hc1_4.out⟩, ?_⟩
                      simp only [Act.put, List.setIfInBounds_toArray, List.set_cons_zero, List.set_cons_succ]
                      refine wpAnyL_pure (i := 10) (v := .bool true) (by simp only [List.getElem?_toArray, List.getElem?_cons_zero, List.getElem?_cons_succ] <;> rfl) (by kernel_rfl) (by kernel_rfl) (by kernel_rfl) (by exact fun _ _ _ h => h) (by decide) (.inr ⟨hc1_0.out, hc1_1.out, hc1_2.out, hc1_3.out, hc1_4.out⟩) (Or.inl ⟨by rfl, fun w _ => (by simp [execOp, go_sem, Act.eval])⟩) (fun _ => ?_)
                      simp only [Act.put, List.setIfInBounds_toArray, List.set_cons_zero, List.set_cons_succ]
                      refine wpAnyL_pure (i := 11) (v := .bool true) (by simp only [List.getElem?_toArray, List.getElem?_cons_zero, List.getElem?_cons_succ] <;> rfl) (by kernel_rfl) (by kernel_rfl) (by kernel_rfl) (by exact fun _ _ _ h => h) (by decide) (.inr ⟨hc1_0.out, hc1_1.out, hc1_2.out, hc1_3.out, hc1_4.out⟩) (Or.inl ⟨by rfl, fun w _ => (by simp [execOp, go_sem, Act.eval])⟩) (fun _ => ?_)
                      simp only [Act.put, List.setIfInBounds_toArray, List.set_cons_zero, List.set_cons_succ]
                      refine wpAnyL_pure (i := 12) (v := .pointer (some ⟨w.heap.size, 0, none⟩)) (by simp only [List.getElem?_toArray, List.getElem?_cons_zero, List.getElem?_cons_succ] <;> rfl) (by kernel_rfl) (by kernel_rfl) (by kernel_rfl) (by exact fun _ _ _ h => h) (by decide) (.inr ⟨hc1_0.out, hc1_1.out, hc1_2.out, hc1_3.out, hc1_4.out⟩) (Or.inl ⟨by rfl, fun w _ => (by simp [execOp, go_sem, Act.eval])⟩) (fun _ => ?_)
                      simp only [Act.put, List.setIfInBounds_toArray, List.set_cons_zero, List.set_cons_succ]
                      refine wpAnyL_load2 (i := 13) (v := .slice (some ⟨b1, o1, none⟩) B.length c) (by simp only [List.getElem?_toArray, List.getElem?_cons_zero, List.getElem?_cons_succ] <;> rfl) (by kernel_rfl) (by kernel_rfl) (by kernel_rfl) (by exact fun _ _ _ h => h) (by decide) (Waits.more (j := 20) rfl ⟨⟨20, .data⟩, by simp, rfl, rfl⟩ (Waits.more (j := 18) rfl ⟨⟨18, .chain⟩, by simp, rfl, rfl⟩ (Waits.more (j := 16) rfl ⟨⟨16, .data⟩, by simp, rfl, rfl⟩ (Waits.more (j := 15) rfl ⟨⟨15, .data⟩, by simp, rfl, rfl⟩ (Waits.one rfl ⟨⟨13, .data⟩, by simp, rfl, rfl⟩))))) (by kernel_rfl) (by kernel_rfl) (.inr ⟨hc1_0.out, hc1_1.out, hc1_2.out, hc1_3.out, hc1_4.out⟩) (Or.inl ⟨by rfl, fun w hw => (by obtain ⟨x0, _, _, _, _⟩ := hw; simp [execOp, go_sem, Act.eval, x0.cells.1])⟩) (fun _ => ?_)
                      simp only [Act.put, List.setIfInBounds_toArray, List.set_cons_zero, List.set_cons_succ]
                      refine wpAnyL_pure (i := 14) (v := .int .i64 (j : Int)) (by simp only [List.getElem?_toArray, List.getElem?_cons_zero, List.getElem?_cons_succ] <;> rfl) (by kernel_rfl) (by kernel_rfl) (by kernel_rfl) (by exact fun _ _ _ h => h) (by decide) (.inr ⟨hc1_0.out, hc1_1.out, hc1_2.out, hc1_3.out, hc1_4.out⟩) (Or.inl ⟨by rfl, fun w _ => (by simp [execOp, go_sem, Act.eval])⟩) (fun _ => ?_)
                      simp only [Act.put, List.setIfInBounds_toArray, List.set_cons_zero, List.set_cons_succ]
                      refine wpAnyL_pure (i := 15) (v := .pointer (some ⟨b1, o1 + j * 2, none⟩)) (by simp only [List.getElem?_toArray, List.getElem?_cons_zero, List.getElem?_cons_succ] <;> rfl) (by kernel_rfl) (by kernel_rfl) (by kernel_rfl) (by exact fun _ _ _ h => h) (by decide) (.inr ⟨hc1_0.out, hc1_1.out, hc1_2.out, hc1_3.out, hc1_4.out⟩) (Or.inl ⟨by rfl, fun w _ => (by simp [execOp, go_sem, Act.eval, zj])⟩) (fun _ => ?_)
                      simp only [Act.put, List.setIfInBounds_toArray, List.set_cons_zero, List.set_cons_succ]
                      refine wpAnyL_load2 (i := 16) (v := encS (s2)) (by simp only [List.getElem?_toArray, List.getElem?_cons_zero, List.getElem?_cons_succ] <;> rfl) (by kernel_rfl) (by kernel_rfl) (by kernel_rfl) (by exact fun _ _ _ h => h) (by decide) (Waits.more (j := 20) rfl ⟨⟨20, .data⟩, by simp, rfl, rfl⟩ (Waits.more (j := 18) rfl ⟨⟨18, .chain⟩, by simp, rfl, rfl⟩ (Waits.one rfl ⟨⟨16, .data⟩, by simp, rfl, rfl⟩))) (by kernel_rfl) (by kernel_rfl) (.inr ⟨hc1_0.out, hc1_1.out, hc1_2.out, hc1_3.out, hc1_4.out⟩) (Or.inl ⟨by rfl, fun w hw => (by obtain ⟨_, _, ⟨y2, z2⟩, _, _⟩ := hw; simp [execOp, go_sem, Act.eval, y2, z2])⟩) (fun _ => ?_)
                      simp only [Act.put, List.setIfInBounds_toArray, List.set_cons_zero, List.set_cons_succ]
                      refine wpAnyL_pure (i := 17) (v := .int .i64 v) (by simp only [List.getElem?_toArray, List.getElem?_cons_zero, List.getElem?_cons_succ] <;> rfl) (by kernel_rfl) (by kernel_rfl) (by kernel_rfl) (by exact fun _ _ _ h => h) (by decide) (.inr ⟨hc1_0.out, hc1_1.out, hc1_2.out, hc1_3.out, hc1_4.out⟩) (Or.inl ⟨by rfl, fun w _ => (by simp [execOp, go_sem, Act.eval])⟩) (fun _ => ?_)
                      simp only [Act.put, List.setIfInBounds_toArray, List.set_cons_zero, List.set_cons_succ]
                      refine wpAnyL_one (i := 18) (by kernel_rfl) (by simp only [List.getElem?_toArray, List.getElem?_cons_zero, List.getElem?_cons_succ] <;> rfl) (by rfl) ?_
                      refine opwp_call (f := 64) (args := #[encS (s2), .int .i64 v]) (w' := w9) (by simp [go_sem, Act.eval]) ?_
                      refine (rHas_c s2 v w9).mono ?_
                      rintro e w10 ⟨rfl, hb10⟩
                      have hc2_0 := hid (hc1_0.out.below hb10 hc1_0.out.lt)
                      have hc2_1 := hid (show (w10.cell? ⟨b1, o1 + k * 2, none⟩ = some (.int .u64 ((lw (s)).toNat : Int)) ∧ w10.cell? ⟨b1, o1 + k * 2 + 1, none⟩ = some (.int .u64 ((hw (s)).toNat : Int))) from ⟨(hb10.cell (cell_lt hc1_1.out.1)).trans hc1_1.out.1, (hb10.cell (cell_lt hc1_1.out.2)).trans hc1_1.out.2⟩)
                      have hc2_2 := hid (show (w10.cell? ⟨b1, o1 + j * 2, none⟩ = some (.int .u64 ((lw (s2)).toNat : Int)) ∧ w10.cell? ⟨b1, o1 + j * 2 + 1, none⟩ = some (.int .u64 ((hw (s2)).toNat : Int))) from ⟨(hb10.cell (cell_lt hc1_2.out.1)).trans hc1_2.out.1, (hb10.cell (cell_lt hc1_2.out.2)).trans hc1_2.out.2⟩)
                      have hc2_3 := hid ((hb10.cell (cell_lt hc1_3.out)).trans hc1_3.out)
                      have hc2_4 := hid ((hb10.cell (cell_lt hc1_4.out)).trans hc1_4.out)
                      rw [hh2]
                      refine .inl ⟨_, rfl, .inr ⟨hc2_0.out, hc2_1.out, hc2_2.out, hc2_3.out, hc2_4.out⟩, ?_⟩
                      simp only [Act.put, List.setIfInBounds_toArray, List.set_cons_zero, List.set_cons_succ]
                      refine wpAnyL_pure (i := 19) (v := .bool true) (by simp only [List.getElem?_toArray, List.getElem?_cons_zero, List.getElem?_cons_succ] <;> rfl) (by kernel_rfl) (by kernel_rfl) (by kernel_rfl) (by exact fun _ _ _ h => h) (by decide) (.inr ⟨hc2_0.out, hc2_1.out, hc2_2.out, hc2_3.out, hc2_4.out⟩) (Or.inl ⟨by rfl, fun w _ => (by simp [execOp, go_sem, Act.eval])⟩) (fun _ => ?_)
                      simp only [Act.put, List.setIfInBounds_toArray, List.set_cons_zero, List.set_cons_succ]
                      refine wpAnyL_pure (i := 20) (v := .bool true) (by simp only [List.getElem?_toArray, List.getElem?_cons_zero, List.getElem?_cons_succ] <;> rfl) (by kernel_rfl) (by kernel_rfl) (by kernel_rfl) (by exact fun _ _ _ h => h) (by decide) (.inr ⟨hc2_0.out, hc2_1.out, hc2_2.out, hc2_3.out, hc2_4.out⟩) (Or.inl ⟨by rfl, fun w _ => (by simp [execOp, go_sem, Act.eval])⟩) (fun _ => ?_)
                      simp only [Act.put, List.setIfInBounds_toArray, List.set_cons_zero, List.set_cons_succ]
                      refine wpAnyL_pure (i := 21) (v := .slice (some ⟨g, 0, none⟩) B.length B.length) (by simp only [List.getElem?_toArray, List.getElem?_cons_zero, List.getElem?_cons_succ] <;> rfl) (by kernel_rfl) (by kernel_rfl) (by kernel_rfl) (by exact fun _ _ _ h => h) (by decide) (.inr ⟨hc2_0.out, hc2_1.out, hc2_2.out, hc2_3.out, hc2_4.out⟩) (Or.inl ⟨by rfl, fun w _ => (by simp [execOp, go_sem, Act.eval])⟩) (fun _ => ?_)
                      simp only [Act.put, List.setIfInBounds_toArray, List.set_cons_zero, List.set_cons_succ]
                      refine wpAnyL_pure (i := 22) (v := .int .i64 (k : Int)) (by simp only [List.getElem?_toArray, List.getElem?_cons_zero, List.getElem?_cons_succ] <;> rfl) (by kernel_rfl) (by kernel_rfl) (by kernel_rfl) (by exact fun _ _ _ h => h) (by decide) (.inr ⟨hc2_0.out, hc2_1.out, hc2_2.out, hc2_3.out, hc2_4.out⟩) (Or.inl ⟨by rfl, fun w _ => (by simp [execOp, go_sem, Act.eval])⟩) (fun _ => ?_)
                      simp only [Act.put, List.setIfInBounds_toArray, List.set_cons_zero, List.set_cons_succ]
                      refine wpAnyL_pure (i := 23) (v := .pointer (some ⟨g, k, none⟩)) (by simp only [List.getElem?_toArray, List.getElem?_cons_zero, List.getElem?_cons_succ] <;> rfl) (by kernel_rfl) (by kernel_rfl) (by kernel_rfl) (by exact fun _ _ _ h => h) (by decide) (.inr ⟨hc2_0.out, hc2_1.out, hc2_2.out, hc2_3.out, hc2_4.out⟩) (Or.inl ⟨by rfl, fun w _ => (by simp [execOp, go_sem, Act.eval, zk])⟩) (fun _ => ?_)
                      simp only [Act.put, List.setIfInBounds_toArray, List.set_cons_zero, List.set_cons_succ]
                      refine wpAnyL_load2 (i := 24) (v := .bool false) (by simp only [List.getElem?_toArray, List.getElem?_cons_zero, List.getElem?_cons_succ] <;> rfl) (by kernel_rfl) (by kernel_rfl) (by kernel_rfl) (by exact fun _ _ _ h => h) (by decide) (Waits.more (j := 29) rfl ⟨⟨29, .data⟩, by simp, rfl, rfl⟩ (Waits.one rfl ⟨⟨24, .data⟩, by simp, rfl, rfl⟩)) (by kernel_rfl) (by kernel_rfl) (.inr ⟨hc2_0.out, hc2_1.out, hc2_2.out, hc2_3.out, hc2_4.out⟩) (Or.inl ⟨by rfl, fun w hw => (by obtain ⟨_, _, _, x3, _⟩ := hw; simp [execOp, go_sem, Act.eval, x3])⟩) (fun _ => ?_)
                      simp only [Act.put, List.setIfInBounds_toArray, List.set_cons_zero, List.set_cons_succ]
                      refine wpAnyL_pure (i := 25) (v := .slice (some ⟨g, 0, none⟩) B.length B.length) (by simp only [List.getElem?_toArray, List.getElem?_cons_zero, List.getElem?_cons_succ] <;> rfl) (by kernel_rfl) (by kernel_rfl) (by kernel_rfl) (by exact fun _ _ _ h => h) (by decide) (.inr ⟨hc2_0.out, hc2_1.out, hc2_2.out, hc2_3.out, hc2_4.out⟩) (Or.inl ⟨by rfl, fun w _ => (by simp [execOp, go_sem, Act.eval])⟩) (fun _ => ?_)
                      simp only [Act.put, List.setIfInBounds_toArray, List.set_cons_zero, List.set_cons_succ]
                      refine wpAnyL_pure (i := 26) (v := .int .i64 (j : Int)) (by simp only [List.getElem?_toArray, List.getElem?_cons_zero, List.getElem?_cons_succ] <;> rfl) (by kernel_rfl) (by kernel_rfl) (by kernel_rfl) (by exact fun _ _ _ h => h) (by decide) (.inr ⟨hc2_0.out, hc2_1.out, hc2_2.out, hc2_3.out, hc2_4.out⟩) (Or.inl ⟨by rfl, fun w _ => (by simp [execOp, go_sem, Act.eval])⟩) (fun _ => ?_)
                      simp only [Act.put, List.setIfInBounds_toArray, List.set_cons_zero, List.set_cons_succ]
                      refine wpAnyL_pure (i := 27) (v := .pointer (some ⟨g, j, none⟩)) (by simp only [List.getElem?_toArray, List.getElem?_cons_zero, List.getElem?_cons_succ] <;> rfl) (by kernel_rfl) (by kernel_rfl) (by kernel_rfl) (by exact fun _ _ _ h => h) (by decide) (.inr ⟨hc2_0.out, hc2_1.out, hc2_2.out, hc2_3.out, hc2_4.out⟩) (Or.inl ⟨by rfl, fun w _ => (by simp [execOp, go_sem, Act.eval, zj])⟩) (fun _ => ?_)
                      simp only [Act.put, List.setIfInBounds_toArray, List.set_cons_zero, List.set_cons_succ]
                      refine wpAnyL_load2 (i := 28) (v := .bool false) (by simp only [List.getElem?_toArray, List.getElem?_cons_zero, List.getElem?_cons_succ] <;> rfl) (by kernel_rfl) (by kernel_rfl) (by kernel_rfl) (by exact fun _ _ _ h => h) (by decide) (Waits.more (j := 29) rfl ⟨⟨29, .data⟩, by simp, rfl, rfl⟩ (Waits.one rfl ⟨⟨28, .data⟩, by simp, rfl, rfl⟩)) (by kernel_rfl) (by kernel_rfl) (.inr ⟨hc2_0.out, hc2_1.out, hc2_2.out, hc2_3.out, hc2_4.out⟩) (Or.inl ⟨by rfl, fun w hw => (by obtain ⟨_, _, _, _, x4⟩ := hw; simp [execOp, go_sem, Act.eval, x4])⟩) (fun _ => ?_)
                      simp only [Act.put, List.setIfInBounds_toArray, List.set_cons_zero, List.set_cons_succ]
                      refine wpAnyL_pure (i := 29) (v := .bool false) (by simp only [List.getElem?_toArray, List.getElem?_cons_zero, List.getElem?_cons_succ] <;> rfl) (by kernel_rfl) (by kernel_rfl) (by kernel_rfl) (by exact fun _ _ _ h => h) (by decide) (.inr ⟨hc2_0.out, hc2_1.out, hc2_2.out, hc2_3.out, hc2_4.out⟩) (Or.inl ⟨by rfl, fun w _ => (by simp [execOp, go_sem, Act.eval])⟩) (fun _ => ?_)
                      simp only [Act.put, List.setIfInBounds_toArray, List.set_cons_zero, List.set_cons_succ]
                      refine wpAnyL_one (i := 30) (by kernel_rfl) (by simp only [List.getElem?_toArray, List.getElem?_cons_zero, List.getElem?_cons_succ] <;> rfl) (by rfl) ?_
                      refine opwp_value (v := .bool false) (w' := w10) (by simp [execOp, go_sem, Act.eval]) ⟨.inl (by kernel_rfl), ?_⟩
                      simp only [Act.put, List.setIfInBounds_toArray, List.set_cons_zero, List.set_cons_succ]
                      refine wpAnyL_done (by kernel_rfl) ?_ _
                      have HM3 := hid (HM.out.below (((Below.refl _ wr).drew.trans hb9).trans (hb10.mono hb9.size)))
                      clear HM
                      go_wp2_with fail
                      go_roundw
                      case rel => exact ⟨k + 1, by omega, by go_num, by rw [HST.out, HS.out]; exact HM3.out⟩
                      case measure => simp [intOf]; omega
                    · have HS := hid (HST1.out ⟨⟨hj, HH1.out, HH2.out⟩, by simp⟩)
                      refine Go.Proofs.YtmlecpapoeodkaaDoor.wp_region_L 31 30 (fun w' => Box2 w' (w.heap.size) 33 (.slice (some ⟨b1, o1, none⟩) B.length c) (.slice (some ⟨bu, ou, none⟩) U.length d) ∧ (w'.cell? ⟨b1, o1 + k * 2, none⟩ = some (.int .u64 ((lw (s)).toNat : Int)) ∧ w'.cell? ⟨b1, o1 + k * 2 + 1, none⟩ = some (.int .u64 ((hw (s)).toNat : Int))) ∧ (w'.cell? ⟨b1, o1 + j * 2, none⟩ = some (.int .u64 ((lw (s2)).toNat : Int)) ∧ w'.cell? ⟨b1, o1 + j * 2 + 1, none⟩ = some (.int .u64 ((hw (s2)).toNat : Int))) ∧ w'.cell? ⟨g, k, none⟩ = some (.bool false) ∧ w'.cell? ⟨g, j, none⟩ = some (.bool true)) (by kernel_rfl) rfl ⟨BX.out, RS.out, RJ.out, FK.out, FJ.out⟩ (fun _ => ?_)
                      refine wpAnyL_pure (i := 0) (v := .int .i64 (j : Int)) (by simp only [List.getElem?_toArray, List.getElem?_cons_zero] <;> rfl) (by kernel_rfl) (by kernel_rfl) (by kernel_rfl) (by exact fun _ _ _ h => h) (by decide) (.inr ⟨BX.out, RS.out, RJ.out, FK.out, FJ.out⟩) (Or.inl ⟨by rfl, fun w _ => (by simp [execOp, go_sem, Act.eval])⟩) (fun _ => ?_)
                      simp only [Act.put, List.setIfInBounds_toArray, List.set_cons_zero, List.set_cons_succ]
                      refine wpAnyL_pure (i := 1) (v := .bool true) (by simp only [List.getElem?_toArray, List.getElem?_cons_zero, List.getElem?_cons_succ] <;> rfl) (by kernel_rfl) (by kernel_rfl) (by kernel_rfl) (by exact fun _ _ _ h => h) (by decide) (.inr ⟨BX.out, RS.out, RJ.out, FK.out, FJ.out⟩) (Or.inl ⟨by rfl, fun w _ => (by simp [execOp, go_sem, Act.eval])⟩) (fun _ => ?_)
                      simp only [Act.put, List.setIfInBounds_toArray, List.set_cons_zero, List.set_cons_succ]
                      refine wpAnyL_pure (i := 2) (v := .bool true) (by simp only [List.getElem?_toArray, List.getElem?_cons_zero, List.getElem?_cons_succ] <;> rfl) (by kernel_rfl) (by kernel_rfl) (by kernel_rfl) (by exact fun _ _ _ h => h) (by decide) (.inr ⟨BX.out, RS.out, RJ.out, FK.out, FJ.out⟩) (Or.inl ⟨by rfl, fun w _ => (by simp [execOp, go_sem, Act.eval])⟩) (fun _ => ?_)
                      simp only [Act.put, List.setIfInBounds_toArray, List.set_cons_zero, List.set_cons_succ]
                      refine wpAnyL_pure (i := 3) (v := .pointer (some ⟨w.heap.size, 0, none⟩)) (by simp only [List.getElem?_toArray, List.getElem?_cons_zero, List.getElem?_cons_succ] <;> rfl) (by kernel_rfl) (by kernel_rfl) (by kernel_rfl) (by exact fun _ _ _ h => h) (by decide) (.inr ⟨BX.out, RS.out, RJ.out, FK.out, FJ.out⟩) (Or.inl ⟨by rfl, fun w _ => (by simp [execOp, go_sem, Act.eval])⟩) (fun _ => ?_)
                      simp only [Act.put, List.setIfInBounds_toArray, List.set_cons_zero, List.set_cons_succ]
                      refine wpAnyL_load2 (i := 4) (v := .slice (some ⟨b1, o1, none⟩) B.length c) (by simp only [List.getElem?_toArray, List.getElem?_cons_zero, List.getElem?_cons_succ] <;> rfl) (by kernel_rfl) (by kernel_rfl) (by kernel_rfl) (by exact fun _ _ _ h => h) (by decide) (Waits.more (j := 20) rfl ⟨⟨20, .data⟩, by simp, rfl, rfl⟩ (Waits.more (j := 19) rfl ⟨⟨19, .data⟩, by simp, rfl, rfl⟩ (Waits.more (j := 11) rfl ⟨⟨11, .data⟩, by simp, rfl, rfl⟩ (Waits.more (j := 9) rfl ⟨⟨9, .chain⟩, by simp, rfl, rfl⟩ (Waits.more (j := 7) rfl ⟨⟨7, .data⟩, by simp, rfl, rfl⟩ (Waits.more (j := 6) rfl ⟨⟨6, .data⟩, by simp, rfl, rfl⟩ (Waits.one rfl ⟨⟨4, .data⟩, by simp, rfl, rfl⟩))))))) (by kernel_rfl) (by kernel_rfl) (.inr ⟨BX.out, RS.out, RJ.out, FK.out, FJ.out⟩) (Or.inl ⟨by rfl, fun w hw => (by obtain ⟨x0, _, _, _, _⟩ := hw; simp [execOp, go_sem, Act.eval, x0.cells.1])⟩) (fun _ => ?_)
                      simp only [Act.put, List.setIfInBounds_toArray, List.set_cons_zero, List.set_cons_succ]
                      refine wpAnyL_pure (i := 5) (v := .int .i64 (k : Int)) (by simp only [List.getElem?_toArray, List.getElem?_cons_zero, List.getElem?_cons_succ] <;> rfl) (by kernel_rfl) (by kernel_rfl) (by kernel_rfl) (by exact fun _ _ _ h => h) (by decide) (.inr ⟨BX.out, RS.out, RJ.out, FK.out, FJ.out⟩) (Or.inl ⟨by rfl, fun w _ => (by simp [execOp, go_sem, Act.eval])⟩) (fun _ => ?_)
                      simp only [Act.put, List.setIfInBounds_toArray, List.set_cons_zero, List.set_cons_succ]
                      refine wpAnyL_pure (i := 6) (v := .pointer (some ⟨b1, o1 + k * 2, none⟩)) (by simp only [List.getElem?_toArray, List.getElem?_cons_zero, List.getElem?_cons_succ] <;> rfl) (by kernel_rfl) (by kernel_rfl) (by kernel_rfl) (by exact fun _ _ _ h => h) (by decide) (.inr ⟨BX.out, RS.out, RJ.out, FK.out, FJ.out⟩) (Or.inl ⟨by rfl, fun w _ => (by simp [execOp, go_sem, Act.eval, zk])⟩) (fun _ => ?_)
                      simp only [Act.put, List.setIfInBounds_toArray, List.set_cons_zero, List.set_cons_succ]
                      refine wpAnyL_load2 (i := 7) (v := encS (s)) (by simp only [List.getElem?_toArray, List.getElem?_cons_zero, List.getElem?_cons_succ] <;> rfl) (by kernel_rfl) (by kernel_rfl) (by kernel_rfl) (by exact fun _ _ _ h => h) (by decide) (Waits.more (j := 20) rfl ⟨⟨20, .data⟩, by simp, rfl, rfl⟩ (Waits.more (j := 19) rfl ⟨⟨19, .data⟩, by simp, rfl, rfl⟩ (Waits.more (j := 11) rfl ⟨⟨11, .data⟩, by simp, rfl, rfl⟩ (Waits.more (j := 9) rfl ⟨⟨9, .chain⟩, by simp, rfl, rfl⟩ (Waits.one rfl ⟨⟨7, .data⟩, by simp, rfl, rfl⟩))))) (by kernel_rfl) (by kernel_rfl) (.inr ⟨BX.out, RS.out, RJ.out, FK.out, FJ.out⟩) (Or.inl ⟨by rfl, fun w hw => (by obtain ⟨_, ⟨y1, z1⟩, _, _, _⟩ := hw; simp [execOp, go_sem, Act.eval, y1, z1])⟩) (fun _ => ?_)
                      simp only [Act.put, List.setIfInBounds_toArray, List.set_cons_zero, List.set_cons_succ]
                      refine wpAnyL_pure (i := 8) (v := .int .i64 v) (by simp only [List.getElem?_toArray, List.getElem?_cons_zero, List.getElem?_cons_succ] <;> rfl) (by kernel_rfl) (by kernel_rfl) (by kernel_rfl) (by exact fun _ _ _ h => h) (by decide) (.inr ⟨BX.out, RS.out, RJ.out, FK.out, FJ.out⟩) (Or.inl ⟨by rfl, fun w _ => (by simp [execOp, go_sem, Act.eval])⟩) (fun _ => ?_)
                      simp only [Act.put, List.setIfInBounds_toArray, List.set_cons_zero, List.set_cons_succ]
                      refine wpAnyL_one (i := 9) (by kernel_rfl) (by simp only [List.getElem?_toArray, List.getElem?_cons_zero, List.getElem?_cons_succ] <;> rfl) (by rfl) ?_
                      refine opwp_call (f := 64) (args := #[encS (s), .int .i64 v]) (w' := wr.drew) (by simp [go_sem, Act.eval]) ?_
                      refine (rHas_c s v wr.drew).mono ?_
                      rintro e w9 ⟨rfl, hb9⟩
                      have hc1_0 := hid (BX.out.below hb9 BX.out.lt)
                      have hc1_1 := hid (show (w9.cell? ⟨b1, o1 + k * 2, none⟩ = some (.int .u64 ((lw (s)).toNat : Int)) ∧ w9.cell? ⟨b1, o1 + k * 2 + 1, none⟩ = some (.int .u64 ((hw (s)).toNat : Int))) from ⟨(hb9.cell (cell_lt RS.out.1)).trans RS.out.1, (hb9.cell (cell_lt RS.out.2)).trans RS.out.2⟩)
                      have hc1_2 := hid (show (w9.cell? ⟨b1, o1 + j * 2, none⟩ = some (.int .u64 ((lw (s2)).toNat : Int)) ∧ w9.cell? ⟨b1, o1 + j * 2 + 1, none⟩ = some (.int .u64 ((hw (s2)).toNat : Int))) from ⟨(hb9.cell (cell_lt RJ.out.1)).trans RJ.out.1, (hb9.cell (cell_lt RJ.out.2)).trans RJ.out.2⟩)
                      have hc1_3 := hid ((hb9.cell (cell_lt FK.out)).trans FK.out)
                      have hc1_4 := hid ((hb9.cell (cell_lt FJ.out)).trans FJ.out)
                      rw [hh1]
                      refine .inl ⟨_, rfl, .inr ⟨hc1_0.out, hc1_1.out, hc1_2.out, hc1_3.out, hc1_4.out⟩, ?_⟩
                      simp only [Act.put, List.setIfInBounds_toArray, List.set_cons_zero, List.set_cons_succ]
                      refine wpAnyL_pure (i := 10) (v := .bool true) (by simp only [List.getElem?_toArray, List.getElem?_cons_zero, List.getElem?_cons_succ] <;> rfl) (by kernel_rfl) (by kernel_rfl) (by kernel_rfl) (by exact fun _ _ _ h => h) (by decide) (.inr ⟨hc1_0.out, hc1_1.out, hc1_2.out, hc1_3.out, hc1_4.out⟩) (Or.inl ⟨by rfl, fun w _ => (by simp [execOp, go_sem, Act.eval])⟩) (fun _ => ?_)
                      simp only [Act.put, List.setIfInBounds_toArray, List.set_cons_zero, List.set_cons_succ]
                      refine wpAnyL_pure (i := 11) (v := .bool true) (by simp only [List.getElem?_toArray, List.getElem?_cons_zero, List.getElem?_cons_succ] <;> rfl) (by kernel_rfl) (by kernel_rfl) (by kernel_rfl) (by exact fun _ _ _ h => h) (by decide) (.inr ⟨hc1_0.out, hc1_1.out, hc1_2.out, hc1_3.out, hc1_4.out⟩) (Or.inl ⟨by rfl, fun w _ => (by simp [execOp, go_sem, Act.eval])⟩) (fun _ => ?_)
                      simp only [Act.put, List.setIfInBounds_toArray, List.set_cons_zero, List.set_cons_succ]
                      refine wpAnyL_pure (i := 12) (v := .pointer (some ⟨w.heap.size, 0, none⟩)) (by simp only [List.getElem?_toArray, List.getElem?_cons_zero, List.getElem?_cons_succ] <;> rfl) (by kernel_rfl) (by kernel_rfl) (by kernel_rfl) (by exact fun _ _ _ h => h) (by decide) (.inr ⟨hc1_0.out, hc1_1.out, hc1_2.out, hc1_3.out, hc1_4.out⟩) (Or.inl ⟨by rfl, fun w _ => (by simp [execOp, go_sem, Act.eval])⟩) (fun _ => ?_)
                      simp only [Act.put, List.setIfInBounds_toArray, List.set_cons_zero, List.set_cons_succ]
                      refine wpAnyL_load2 (i := 13) (v := .slice (some ⟨b1, o1, none⟩) B.length c) (by simp only [List.getElem?_toArray, List.getElem?_cons_zero, List.getElem?_cons_succ] <;> rfl) (by kernel_rfl) (by kernel_rfl) (by kernel_rfl) (by exact fun _ _ _ h => h) (by decide) (Waits.more (j := 20) rfl ⟨⟨20, .data⟩, by simp, rfl, rfl⟩ (Waits.more (j := 18) rfl ⟨⟨18, .chain⟩, by simp, rfl, rfl⟩ (Waits.more (j := 16) rfl ⟨⟨16, .data⟩, by simp, rfl, rfl⟩ (Waits.more (j := 15) rfl ⟨⟨15, .data⟩, by simp, rfl, rfl⟩ (Waits.one rfl ⟨⟨13, .data⟩, by simp, rfl, rfl⟩))))) (by kernel_rfl) (by kernel_rfl) (.inr ⟨hc1_0.out, hc1_1.out, hc1_2.out, hc1_3.out, hc1_4.out⟩) (Or.inl ⟨by rfl, fun w hw => (by obtain ⟨x0, _, _, _, _⟩ := hw; simp [execOp, go_sem, Act.eval, x0.cells.1])⟩) (fun _ => ?_)
                      simp only [Act.put, List.setIfInBounds_toArray, List.set_cons_zero, List.set_cons_succ]
                      refine wpAnyL_pure (i := 14) (v := .int .i64 (j : Int)) (by simp only [List.getElem?_toArray, List.getElem?_cons_zero, List.getElem?_cons_succ] <;> rfl) (by kernel_rfl) (by kernel_rfl) (by kernel_rfl) (by exact fun _ _ _ h => h) (by decide) (.inr ⟨hc1_0.out, hc1_1.out, hc1_2.out, hc1_3.out, hc1_4.out⟩) (Or.inl ⟨by rfl, fun w _ => (by simp [execOp, go_sem, Act.eval])⟩) (fun _ => ?_)
                      simp only [Act.put, List.setIfInBounds_toArray, List.set_cons_zero, List.set_cons_succ]
                      refine wpAnyL_pure (i := 15) (v := .pointer (some ⟨b1, o1 + j * 2, none⟩)) (by simp only [List.getElem?_toArray, List.getElem?_cons_zero, List.getElem?_cons_succ] <;> rfl) (by kernel_rfl) (by kernel_rfl) (by kernel_rfl) (by exact fun _ _ _ h => h) (by decide) (.inr ⟨hc1_0.out, hc1_1.out, hc1_2.out, hc1_3.out, hc1_4.out⟩) (Or.inl ⟨by rfl, fun w _ => (by simp [execOp, go_sem, Act.eval, zj])⟩) (fun _ => ?_)
                      simp only [Act.put, List.setIfInBounds_toArray, List.set_cons_zero, List.set_cons_succ]
                      refine wpAnyL_load2 (i := 16) (v := encS (s2)) (by simp only [List.getElem?_toArray, List.getElem?_cons_zero, List.getElem?_cons_succ] <;> rfl) (by kernel_rfl) (by kernel_rfl) (by kernel_rfl) (by exact fun _ _ _ h => h) (by decide) (Waits.more (j := 20) rfl ⟨⟨20, .data⟩, by simp, rfl, rfl⟩ (Waits.more (j := 18) rfl ⟨⟨18, .chain⟩, by simp, rfl, rfl⟩ (Waits.one rfl ⟨⟨16, .data⟩, by simp, rfl, rfl⟩))) (by kernel_rfl) (by kernel_rfl) (.inr ⟨hc1_0.out, hc1_1.out, hc1_2.out, hc1_3.out, hc1_4.out⟩) (Or.inl ⟨by rfl, fun w hw => (by obtain ⟨_, _, ⟨y2, z2⟩, _, _⟩ := hw; simp [execOp, go_sem, Act.eval, y2, z2])⟩) (fun _ => ?_)
                      simp only [Act.put, List.setIfInBounds_toArray, List.set_cons_zero, List.set_cons_succ]
                      refine wpAnyL_pure (i := 17) (v := .int .i64 v) (by simp only [List.getElem?_toArray, List.getElem?_cons_zero, List.getElem?_cons_succ] <;> rfl) (by kernel_rfl) (by kernel_rfl) (by kernel_rfl) (by exact fun _ _ _ h => h) (by decide) (.inr ⟨hc1_0.out, hc1_1.out, hc1_2.out, hc1_3.out, hc1_4.out⟩) (Or.inl ⟨by rfl, fun w _ => (by simp [execOp, go_sem, Act.eval])⟩) (fun _ => ?_)
                      simp only [Act.put, List.setIfInBounds_toArray, List.set_cons_zero, List.set_cons_succ]
                      refine wpAnyL_one (i := 18) (by kernel_rfl) (by simp only [List.getElem?_toArray, List.getElem?_cons_zero, List.getElem?_cons_succ] <;> rfl) (by rfl) ?_
                      refine opwp_call (f := 64) (args := #[encS (s2), .int .i64 v]) (w' := w9) (by simp [go_sem, Act.eval]) ?_
                      refine (rHas_c s2 v w9).mono ?_
                      rintro e w10 ⟨rfl, hb10⟩
                      have hc2_0 := hid (hc1_0.out.below hb10 hc1_0.out.lt)
                      have hc2_1 := hid (show (w10.cell? ⟨b1, o1 + k * 2, none⟩ = some (.int .u64 ((lw (s)).toNat : Int)) ∧ w10.cell? ⟨b1, o1 + k * 2 + 1, none⟩ = some (.int .u64 ((hw (s)).toNat : Int))) from ⟨(hb10.cell (cell_lt hc1_1.out.1)).trans hc1_1.out.1, (hb10.cell (cell_lt hc1_1.out.2)).trans hc1_1.out.2⟩)
                      have hc2_2 := hid (show (w10.cell? ⟨b1, o1 + j * 2, none⟩ = some (.int .u64 ((lw (s2)).toNat : Int)) ∧ w10.cell? ⟨b1, o1 + j * 2 + 1, none⟩ = some (.int .u64 ((hw (s2)).toNat : Int))) from ⟨(hb10.cell (cell_lt hc1_2.out.1)).trans hc1_2.out.1, (hb10.cell (cell_lt hc1_2.out.2)).trans hc1_2.out.2⟩)
                      have hc2_3 := hid ((hb10.cell (cell_lt hc1_3.out)).trans hc1_3.out)
                      have hc2_4 := hid ((hb10.cell (cell_lt hc1_4.out)).trans hc1_4.out)
                      rw [hh2]
                      refine .inl ⟨_, rfl, .inr ⟨hc2_0.out, hc2_1.out, hc2_2.out, hc2_3.out, hc2_4.out⟩, ?_⟩
                      simp only [Act.put, List.setIfInBounds_toArray, List.set_cons_zero, List.set_cons_succ]
                      refine wpAnyL_pure (i := 19) (v := .bool true) (by simp only [List.getElem?_toArray, List.getElem?_cons_zero, List.getElem?_cons_succ] <;> rfl) (by kernel_rfl) (by kernel_rfl) (by kernel_rfl) (by exact fun _ _ _ h => h) (by decide) (.inr ⟨hc2_0.out, hc2_1.out, hc2_2.out, hc2_3.out, hc2_4.out⟩) (Or.inl ⟨by rfl, fun w _ => (by simp [execOp, go_sem, Act.eval])⟩) (fun _ => ?_)
                      simp only [Act.put, List.setIfInBounds_toArray, List.set_cons_zero, List.set_cons_succ]
                      refine wpAnyL_pure (i := 20) (v := .bool true) (by simp only [List.getElem?_toArray, List.getElem?_cons_zero, List.getElem?_cons_succ] <;> rfl) (by kernel_rfl) (by kernel_rfl) (by kernel_rfl) (by exact fun _ _ _ h => h) (by decide) (.inr ⟨hc2_0.out, hc2_1.out, hc2_2.out, hc2_3.out, hc2_4.out⟩) (Or.inl ⟨by rfl, fun w _ => (by simp [execOp, go_sem, Act.eval])⟩) (fun _ => ?_)
                      simp only [Act.put, List.setIfInBounds_toArray, List.set_cons_zero, List.set_cons_succ]
                      refine wpAnyL_pure (i := 21) (v := .slice (some ⟨g, 0, none⟩) B.length B.length) (by simp only [List.getElem?_toArray, List.getElem?_cons_zero, List.getElem?_cons_succ] <;> rfl) (by kernel_rfl) (by kernel_rfl) (by kernel_rfl) (by exact fun _ _ _ h => h) (by decide) (.inr ⟨hc2_0.out, hc2_1.out, hc2_2.out, hc2_3.out, hc2_4.out⟩) (Or.inl ⟨by rfl, fun w _ => (by simp [execOp, go_sem, Act.eval])⟩) (fun _ => ?_)
                      simp only [Act.put, List.setIfInBounds_toArray, List.set_cons_zero, List.set_cons_succ]
                      refine wpAnyL_pure (i := 22) (v := .int .i64 (k : Int)) (by simp only [List.getElem?_toArray, List.getElem?_cons_zero, List.getElem?_cons_succ] <;> rfl) (by kernel_rfl) (by kernel_rfl) (by kernel_rfl) (by exact fun _ _ _ h => h) (by decide) (.inr ⟨hc2_0.out, hc2_1.out, hc2_2.out, hc2_3.out, hc2_4.out⟩) (Or.inl ⟨by rfl, fun w _ => (by simp [execOp, go_sem, Act.eval])⟩) (fun _ => ?_)
                      simp only [Act.put, List.setIfInBounds_toArray, List.set_cons_zero, List.set_cons_succ]
                      refine wpAnyL_pure (i := 23) (v := .pointer (some ⟨g, k, none⟩)) (by simp only [List.getElem?_toArray, List.getElem?_cons_zero, List.getElem?_cons_succ] <;> rfl) (by kernel_rfl) (by kernel_rfl) (by kernel_rfl) (by exact fun _ _ _ h => h) (by decide) (.inr ⟨hc2_0.out, hc2_1.out, hc2_2.out, hc2_3.out, hc2_4.out⟩) (Or.inl ⟨by rfl, fun w _ => (by simp [execOp, go_sem, Act.eval, zk])⟩) (fun _ => ?_)
                      simp only [Act.put, List.setIfInBounds_toArray, List.set_cons_zero, List.set_cons_succ]
                      refine wpAnyL_load2 (i := 24) (v := .bool false) (by simp only [List.getElem?_toArray, List.getElem?_cons_zero, List.getElem?_cons_succ] <;> rfl) (by kernel_rfl) (by kernel_rfl) (by kernel_rfl) (by exact fun _ _ _ h => h) (by decide) (Waits.more (j := 29) rfl ⟨⟨29, .data⟩, by simp, rfl, rfl⟩ (Waits.one rfl ⟨⟨24, .data⟩, by simp, rfl, rfl⟩)) (by kernel_rfl) (by kernel_rfl) (.inr ⟨hc2_0.out, hc2_1.out, hc2_2.out, hc2_3.out, hc2_4.out⟩) (Or.inl ⟨by rfl, fun w hw => (by obtain ⟨_, _, _, x3, _⟩ := hw; simp [execOp, go_sem, Act.eval, x3])⟩) (fun _ => ?_)
                      simp only [Act.put, List.setIfInBounds_toArray, List.set_cons_zero, List.set_cons_succ]
                      refine wpAnyL_pure (i := 25) (v := .slice (some ⟨g, 0, none⟩) B.length B.length) (by simp only [List.getElem?_toArray, List.getElem?_cons_zero, List.getElem?_cons_succ] <;> rfl) (by kernel_rfl) (by kernel_rfl) (by kernel_rfl) (by exact fun _ _ _ h => h) (by decide) (.inr ⟨hc2_0.out, hc2_1.out, hc2_2.out, hc2_3.out, hc2_4.out⟩) (Or.inl ⟨by rfl, fun w _ => (by simp [execOp, go_sem, Act.eval])⟩) (fun _ => ?_)
                      simp only [Act.put, List.setIfInBounds_toArray, List.set_cons_zero, List.set_cons_succ]
                      refine wpAnyL_pure (i := 26) (v := .int .i64 (j : Int)) (by simp only [List.getElem?_toArray, List.getElem?_cons_zero, List.getElem?_cons_succ] <;> rfl) (by kernel_rfl) (by kernel_rfl) (by kernel_rfl) (by exact fun _ _ _ h => h) (by decide) (.inr ⟨hc2_0.out, hc2_1.out, hc2_2.out, hc2_3.out, hc2_4.out⟩) (Or.inl ⟨by rfl, fun w _ => (by simp [execOp, go_sem, Act.eval])⟩) (fun _ => ?_)
                      simp only [Act.put, List.setIfInBounds_toArray, List.set_cons_zero, List.set_cons_succ]
                      refine wpAnyL_pure (i := 27) (v := .pointer (some ⟨g, j, none⟩)) (by simp only [List.getElem?_toArray, List.getElem?_cons_zero, List.getElem?_cons_succ] <;> rfl) (by kernel_rfl) (by kernel_rfl) (by kernel_rfl) (by exact fun _ _ _ h => h) (by decide) (.inr ⟨hc2_0.out, hc2_1.out, hc2_2.out, hc2_3.out, hc2_4.out⟩) (Or.inl ⟨by rfl, fun w _ => (by simp [execOp, go_sem, Act.eval, zj])⟩) (fun _ => ?_)
                      simp only [Act.put, List.setIfInBounds_toArray, List.set_cons_zero, List.set_cons_succ]
                      refine wpAnyL_load2 (i := 28) (v := .bool true) (by simp only [List.getElem?_toArray, List.getElem?_cons_zero, List.getElem?_cons_succ] <;> rfl) (by kernel_rfl) (by kernel_rfl) (by kernel_rfl) (by exact fun _ _ _ h => h) (by decide) (Waits.more (j := 29) rfl ⟨⟨29, .data⟩, by simp, rfl, rfl⟩ (Waits.one rfl ⟨⟨28, .data⟩, by simp, rfl, rfl⟩)) (by kernel_rfl) (by kernel_rfl) (.inr ⟨hc2_0.out, hc2_1.out, hc2_2.out, hc2_3.out, hc2_4.out⟩) (Or.inl ⟨by rfl, fun w hw => (by obtain ⟨_, _, _, _, x4⟩ := hw; simp [execOp, go_sem, Act.eval, x4])⟩) (fun _ => ?_)
                      simp only [Act.put, List.setIfInBounds_toArray, List.set_cons_zero, List.set_cons_succ]
                      refine wpAnyL_pure (i := 29) (v := .bool true) (by simp only [List.getElem?_toArray, List.getElem?_cons_zero, List.getElem?_cons_succ] <;> rfl) (by kernel_rfl) (by kernel_rfl) (by kernel_rfl) (by exact fun _ _ _ h => h) (by decide) (.inr ⟨hc2_0.out, hc2_1.out, hc2_2.out, hc2_3.out, hc2_4.out⟩) (Or.inl ⟨by rfl, fun w _ => (by simp [execOp, go_sem, Act.eval])⟩) (fun _ => ?_)
                      simp only [Act.put, List.setIfInBounds_toArray, List.set_cons_zero, List.set_cons_succ]
                      refine wpAnyL_one (i := 30) (by kernel_rfl) (by simp only [List.getElem?_toArray, List.getElem?_cons_zero, List.getElem?_cons_succ] <;> rfl) (by rfl) ?_
                      refine opwp_value (v := .bool true) (w' := w10) (by simp [execOp, go_sem, Act.eval]) ⟨.inl (by kernel_rfl), ?_⟩
                      simp only [Act.put, List.setIfInBounds_toArray, List.set_cons_zero, List.set_cons_succ]
                      refine wpAnyL_done (by kernel_rfl) ?_ _
                      have HM3 := hid (HM.out.below (((Below.refl _ wr).drew.trans hb9).trans (hb10.mono hb9.size)))
                      have HM4 := hid (HM3.out.store hgw k)
                      have HM5 := hid (HM4.out.store hgw j)
                      obtain ⟨y0, y1⟩ := HM3.out.row.at k (by omega)
                      obtain ⟨y2, y3⟩ := HM4.out.row.at j (by rw [List.length_set]; omega)
                      clear HM hh1 hh2 hx hy
                      go_wp2_with fail
                      go_roundw
                      case rel => exact ⟨k + 1, by omega, by go_num, by rw [HST.out, HS.out]; exact HM5.out⟩
                      case measure => simp [intOf]; omega
                    · have HS := hid (HST1.out ⟨⟨hj, HH1.out, HH2.out⟩, by simp⟩)
                      refine Go.Proofs.YtmlecpapoeodkaaDoor.wp_region_L 31 30 (fun w' => Box2 w' (w.heap.size) 33 (.slice (some ⟨b1, o1, none⟩) B.length c) (.slice (some ⟨bu, ou, none⟩) U.length d) ∧ (w'.cell? ⟨b1, o1 + k * 2, none⟩ = some (.int .u64 ((lw (s)).toNat : Int)) ∧ w'.cell? ⟨b1, o1 + k * 2 + 1, none⟩ = some (.int .u64 ((hw (s)).toNat : Int))) ∧ (w'.cell? ⟨b1, o1 + j * 2, none⟩ = some (.int .u64 ((lw (s2)).toNat : Int)) ∧ w'.cell? ⟨b1, o1 + j * 2 + 1, none⟩ = some (.int .u64 ((hw (s2)).toNat : Int))) ∧ w'.cell? ⟨g, k, none⟩ = some (.bool true) ∧ w'.cell? ⟨g, j, none⟩ = some (.bool false)) (by kernel_rfl) rfl ⟨BX.out, RS.out, RJ.out, FK.out, FJ.out⟩ (fun _ => ?_)
                      refine wpAnyL_pure (i := 0) (v := .int .i64 (j : Int)) (by simp only [List.getElem?_toArray, List.getElem?_cons_zero] <;> rfl) (by kernel_rfl) (by kernel_rfl) (by kernel_rfl) (by exact fun _ _ _ h => h) (by decide) (.inr ⟨BX.out, RS.out, RJ.out, FK.out, FJ.out⟩) (Or.inl ⟨by rfl, fun w _ => (by simp [execOp, go_sem, Act.eval])⟩) (fun _ => ?_)
                      simp only [Act.put, List.setIfInBounds_toArray, List.set_cons_zero, List.set_cons_succ]
                      refine wpAnyL_pure (i := 1) (v := .bool true) (by simp only [List.getElem?_toArray, List.getElem?_cons_zero, List.getElem?_cons_succ] <;> rfl) (by kernel_rfl) (by kernel_rfl) (by kernel_rfl) (by exact fun _ _ _ h => h) (by decide) (.inr ⟨BX.out, RS.out, RJ.out, FK.out, FJ.out⟩) (Or.inl ⟨by rfl, fun w _ => (by simp [execOp, go_sem, Act.eval])⟩) (fun _ => ?_)
                      simp only [Act.put, List.setIfInBounds_toArray, List.set_cons_zero, List.set_cons_succ]
                      refine wpAnyL_pure (i := 2) (v := .bool true) (by simp only [List.getElem?_toArray, List.getElem?_cons_zero, List.getElem?_cons_succ] <;> rfl) (by kernel_rfl) (by kernel_rfl) (by kernel_rfl) (by exact fun _ _ _ h => h) (by decide) (.inr ⟨BX.out, RS.out, RJ.out, FK.out, FJ.out⟩) (Or.inl ⟨by rfl, fun w _ => (by simp [execOp, go_sem, Act.eval])⟩) (fun _ => ?_)
                      simp only [Act.put, List.setIfInBounds_toArray, List.set_cons_zero, List.set_cons_succ]
                      refine wpAnyL_pure (i := 3) (v := .pointer (some ⟨w.heap.size, 0, none⟩)) (by simp only [List.getElem?_toArray, List.getElem?_cons_zero, List.getElem?_cons_succ] <;> rfl) (by kernel_rfl) (by kernel_rfl) (by kernel_rfl) (by exact fun _ _ _ h => h) (by decide) (.inr ⟨BX.out, RS.out, RJ.out, FK.out, FJ.out⟩) (Or.inl ⟨by rfl, fun w _ => (by simp [execOp, go_sem, Act.eval])⟩) (fun _ => ?_)
                      simp only [Act.put, List.setIfInBounds_toArray, List.set_cons_zero, List.set_cons_succ]
                      refine wpAnyL_load2 (i := 4) (v := .slice (some ⟨b1, o1, none⟩) B.length c) (by simp only [List.getElem?_toArray, List.getElem?_cons_zero, List.getElem?_cons_succ] <;> rfl) (by kernel_rfl) (by kernel_rfl) (by kernel_rfl) (by exact fun _ _ _ h => h) (by decide) (Waits.more (j := 20) rfl ⟨⟨20, .data⟩, by simp, rfl, rfl⟩ (Waits.more (j := 19) rfl ⟨⟨19, .data⟩, by simp, rfl, rfl⟩ (Waits.more (j := 11) rfl ⟨⟨11, .data⟩, by simp, rfl, rfl⟩ (Waits.more (j := 9) rfl ⟨⟨9, .chain⟩, by simp, rfl, rfl⟩ (Waits.more (j := 7) rfl ⟨⟨7, .data⟩, by simp, rfl, rfl⟩ (Waits.more (j := 6) rfl ⟨⟨6, .data⟩, by simp, rfl, rfl⟩ (Waits.one rfl ⟨⟨4, .data⟩, by simp, rfl, rfl⟩))))))) (by kernel_rfl) (by kernel_rfl) (.inr ⟨BX.out, RS.out, RJ.out, FK.out, FJ.out⟩) (Or.inl ⟨by rfl, fun w hw => (by obtain ⟨x0, _, _, _, _⟩ := hw; simp [execOp, go_sem, Act.eval, x0.cells.1])⟩) (fun _ => ?_)
                      simp only [Act.put, List.setIfInBounds_toArray, List.set_cons_zero, List.set_cons_succ]
                      refine wpAnyL_pure (i := 5) (v := .int .i64 (k : Int)) (by simp only [List.getElem?_toArray, List.getElem?_cons_zero, List.getElem?_cons_succ] <;> rfl) (by kernel_rfl) (by kernel_rfl) (by kernel_rfl) (by exact fun _ _ _ h => h) (by decide) (.inr ⟨BX.out, RS.out, RJ.out, FK.out, FJ.out⟩) (Or.inl ⟨by rfl, fun w _ => (by simp [execOp, go_sem, Act.eval])⟩) (fun _ => ?_)
                      simp only [Act.put, List.setIfInBounds_toArray, List.set_cons_zero, List.set_cons_succ]
                      refine wpAnyL_pure (i := 6) (v := .pointer (some ⟨b1, o1 + k * 2, none⟩)) (by simp only [List.getElem?_toArray, List.getElem?_cons_zero, List.getElem?_cons_succ] <;> rfl) (by kernel_rfl) (by kernel_rfl) (by kernel_rfl) (by exact fun _ _ _ h => h) (by decide) (.inr ⟨BX.out, RS.out, RJ.out, FK.out, FJ.out⟩) (Or.inl ⟨by rfl, fun w _ => (by simp [execOp, go_sem, Act.eval, zk])⟩) (fun _ => ?_)
                      simp only [Act.put, List.setIfInBounds_toArray, List.set_cons_zero, List.set_cons_succ]
                      refine wpAnyL_load2 (i := 7) (v := encS (s)) (by simp only [List.getElem?_toArray, List.getElem?_cons_zero, List.getElem?_cons_succ] <;> rfl) (by kernel_rfl) (by kernel_rfl) (by kernel_rfl) (by exact fun _ _ _ h => h) (by decide) (Waits.more (j := 20) rfl ⟨⟨20, .data⟩, by simp, rfl, rfl⟩ (Waits.more (j := 19) rfl ⟨⟨19, .data⟩, by simp, rfl, rfl⟩ (Waits.more (j := 11) rfl ⟨⟨11, .data⟩, by simp, rfl, rfl⟩ (Waits.more (j := 9) rfl ⟨⟨9, .chain⟩, by simp, rfl, rfl⟩ (Waits.one rfl ⟨⟨7, .data⟩, by simp, rfl, rfl⟩))))) (by kernel_rfl) (by kernel_rfl) (.inr ⟨BX.out, RS.out, RJ.out, FK.out, FJ.out⟩) (Or.inl ⟨by rfl, fun w hw => (by obtain ⟨_, ⟨y1, z1⟩, _, _, _⟩ := hw; simp [execOp, go_sem, Act.eval, y1, z1])⟩) (fun _ => ?_)
                      simp only [Act.put, List.setIfInBounds_toArray, List.set_cons_zero, List.set_cons_succ]
                      refine wpAnyL_pure (i := 8) (v := .int .i64 v) (by simp only [List.getElem?_toArray, List.getElem?_cons_zero, List.getElem?_cons_succ] <;> rfl) (by kernel_rfl) (by kernel_rfl) (by kernel_rfl) (by exact fun _ _ _ h => h) (by decide) (.inr ⟨BX.out, RS.out, RJ.out, FK.out, FJ.out⟩) (Or.inl ⟨by rfl, fun w _ => (by simp [execOp, go_sem, Act.eval])⟩) (fun _ => ?_)
                      simp only [Act.put, List.setIfInBounds_toArray, List.set_cons_zero, List.set_cons_succ]
                      refine wpAnyL_one (i := 9) (by kernel_rfl) (by simp only [List.getElem?_toArray, List.getElem?_cons_zero, List.getElem?_cons_succ] <;> rfl) (by rfl) ?_
                      refine opwp_call (f := 64) (args := #[encS (s), .int .i64 v]) (w' := wr.drew) (by simp [go_sem, Act.eval]) ?_
                      refine (rHas_c s v wr.drew).mono ?_
                      rintro e w9 ⟨rfl, hb9⟩
                      have hc1_0 := hid (BX.out.below hb9 BX.out.lt)
                      have hc1_1 := hid (show (w9.cell? ⟨b1, o1 + k * 2, none⟩ = some (.int .u64 ((lw (s)).toNat : Int)) ∧ w9.cell? ⟨b1, o1 + k * 2 + 1, none⟩ = some (.int .u64 ((hw (s)).toNat : Int))) from ⟨(hb9.cell (cell_lt RS.out.1)).trans RS.out.1, (hb9.cell (cell_lt RS.out.2)).trans RS.out.2⟩)
                      have hc1_2 := hid (show (w9.cell? ⟨b1, o1 + j * 2, none⟩ = some (.int .u64 ((lw (s2)).toNat : Int)) ∧ w9.cell? ⟨b1, o1 + j * 2 + 1, none⟩ = some (.int .u64 ((hw (s2)).toNat : Int))) from ⟨(hb9.cell (cell_lt RJ.out.1)).trans RJ.out.1, (hb9.cell (cell_lt RJ.out.2)).trans RJ.out.2⟩)
                      have hc1_3 := hid ((hb9.cell (cell_lt FK.out)).trans FK.out)
                      have hc1_4 := hid ((hb9.cell (cell_lt FJ.out)).trans FJ.out)
                      rw [hh1]
                      refine .inl ⟨_, rfl, .inr ⟨hc1_0.out, hc1_1.out, hc1_2.out, hc1_3.out, hc1_4.out⟩, ?_⟩
                      simp only [Act.put, List.setIfInBounds_toArray, List.set_cons_zero, List.set_cons_succ]
                      refine wpAnyL_pure (i := 10) (v := .bool true) (by simp only [List.getElem?_toArray, List.getElem?_cons_zero, List.getElem?_cons_succ] <;> rfl) (by kernel_rfl) (by kernel_rfl) (by kernel_rfl) (by exact fun _ _ _ h => h) (by decide) (.inr ⟨hc1_0.out, hc1_1.out, hc1_2.out, hc1_3.out, hc1_4.out⟩) (Or.inl ⟨by rfl, fun w _ => (by simp [execOp, go_sem, Act.eval])⟩) (fun _ => ?_)
                      simp only [Act.put, List.setIfInBounds_toArray, List.set_cons_zero, List.set_cons_succ]
                      refine wpAnyL_pure (i := 11) (v := .bool true) (by simp only [List.getElem?_toArray, List.getElem?_cons_zero, List.getElem?_cons_succ] <;> rfl) (by kernel_rfl) (by kernel_rfl) (by kernel_rfl) (by exact fun _ _ _ h => h) (by decide) (.inr ⟨hc1_0.out, hc1_1.out, hc1_2.out, hc1_3.out, hc1_4.out⟩) (Or.inl ⟨by rfl, fun w _ => (by simp [execOp, go_sem, Act.eval])⟩) (fun _ => ?_)
                      simp only [Act.put, List.setIfInBounds_toArray, List.set_cons_zero, List.set_cons_succ]
                      refine wpAnyL_pure (i := 12) (v := .pointer (some ⟨w.heap.size, 0, none⟩)) (by simp only [List.getElem?_toArray, List.getElem?_cons_zero, List.getElem?_cons_succ] <;> rfl) (by kernel_rfl) (by kernel_rfl) (by kernel_rfl) (by exact fun _ _ _ h => h) (by decide) (.inr ⟨hc1_0.out, hc1_1.out, hc1_2.out, hc1_3.out, hc1_4.out⟩) (Or.inl ⟨by rfl, fun w _ => (by simp [execOp, go_sem, Act.eval])⟩) (fun _ => ?_)
                      simp only [Act.put, List.setIfInBounds_toArray, List.set_cons_zero, List.set_cons_succ]
                      refine wpAnyL_load2 (i := 13) (v := .slice (some ⟨b1, o1, none⟩) B.length c) (by simp only [List.getElem?_toArray, List.getElem?_cons_zero, List.getElem?_cons_succ] <;> rfl) (by kernel_rfl) (by kernel_rfl) (by kernel_rfl) (by exact fun _ _ _ h => h) (by decide) (Waits.more (j := 20) rfl ⟨⟨20, .data⟩, by simp, rfl, rfl⟩ (Waits.more (j := 18) rfl ⟨⟨18, .chain⟩, by simp, rfl, rfl⟩ (Waits.more (j := 16) rfl ⟨⟨16, .data⟩, by simp, rfl, rfl⟩ (Waits.more (j := 15) rfl ⟨⟨15, .data⟩, by simp, rfl, rfl⟩ (Waits.one rfl ⟨⟨13, .data⟩, by simp, rfl, rfl⟩))))) (by kernel_rfl) (by kernel_rfl) (.inr ⟨hc1_0.out, hc1_1.out, hc1_2.out, hc1_3.out, hc1_4.out⟩) (Or.inl ⟨by rfl, fun w hw => (by obtain ⟨x0, _, _, _, _⟩ := hw; simp [execOp, go_sem, Act.eval, x0.cells.1])⟩) (fun _ => ?_)
                      simp only [Act.put, List.setIfInBounds_toArray, List.set_cons_zero, List.set_cons_succ]
                      refine wpAnyL_pure (i := 14) (v := .int .i64 (j : Int)) (by simp only [List.getElem?_toArray, List.getElem?_cons_zero, List.getElem?_cons_succ] <;> rfl) (by kernel_rfl) (by kernel_rfl) (by kernel_rfl) (by exact fun _ _ _ h => h) (by decide) (.inr ⟨hc1_0.out, hc1_1.out, hc1_2.out, hc1_3.out, hc1_4.out⟩) (Or.inl ⟨by rfl, fun w _ => (by simp [execOp, go_sem, Act.eval])⟩) (fun _ => ?_)
                      simp only [Act.put, List.setIfInBounds_toArray, List.set_cons_zero, List.set_cons_succ]
                      refine wpAnyL_pure (i := 15) (v := .pointer (some ⟨b1, o1 + j * 2, none⟩)) (by simp only [List.getElem?_toArray, List.getElem?_cons_zero, List.getElem?_cons_succ] <;> rfl) (by kernel_rfl) (by kernel_rfl) (by kernel_rfl) (by exact fun _ _ _ h => h) (by decide) (.inr ⟨hc1_0.out, hc1_1.out, hc1_2.out, hc1_3.out, hc1_4.out⟩) (Or.inl ⟨by rfl, fun w _ => (by simp [execOp, go_sem, Act.eval, zj])⟩) (fun _ => ?_)
                      simp only [Act.put, List.setIfInBounds_toArray, List.set_cons_zero, List.set_cons_succ]
                      refine wpAnyL_load2 (i := 16) (v := encS (s2)) (by simp only [List.getElem?_toArray, List.getElem?_cons_zero, List.getElem?_cons_succ] <;> rfl) (by kernel_rfl) (by kernel_rfl) (by kernel_rfl) (by exact fun _ _ _ h => h) (by decide) (Waits.more (j := 20) rfl ⟨⟨20, .data⟩, by simp, rfl, rfl⟩ (Waits.more (j := 18) rfl ⟨⟨18, .chain⟩, by simp, rfl, rfl⟩ (Waits.one rfl ⟨⟨16, .data⟩, by simp, rfl, rfl⟩))) (by kernel_rfl) (by kernel_rfl) (.inr ⟨hc1_0.out, hc1_1.out, hc1_2.out, hc1_3.out, hc1_4.out⟩) (Or.inl ⟨by rfl, fun w hw => (by obtain ⟨_, _, ⟨y2, z2⟩, _, _⟩ := hw; simp [execOp, go_sem, Act.eval, y2, z2])⟩) (fun _ => ?_)
                      simp only [Act.put, List.setIfInBounds_toArray, List.set_cons_zero, List.set_cons_succ]
                      refine wpAnyL_pure (i := 17) (v := .int .i64 v) (by simp only [List.getElem?_toArray, List.getElem?_cons_zero, List.getElem?_cons_succ] <;> rfl) (by kernel_rfl) (by kernel_rfl) (by kernel_rfl) (by exact fun _ _ _ h => h) (by decide) (.inr ⟨hc1_0.out, hc1_1.out, hc1_2.out, hc1_3.out, hc1_4.out⟩) (Or.inl ⟨by rfl, fun w _ => (by simp [execOp, go_sem, Act.eval])⟩) (fun _ => ?_)
                      simp only [Act.put, List.setIfInBounds_toArray, List.set_cons_zero, List.set_cons_succ]
                      refine wpAnyL_one (i := 18) (by kernel_rfl) (by simp only [List.getElem?_toArray, List.getElem?_cons_zero, List.getElem?_cons_succ] <;> rfl) (by rfl) ?_
                      refine opwp_call (f := 64) (args := #[encS (s2), .int .i64 v]) (w' := w9) (by simp [go_sem, Act.eval]) ?_
                      refine (rHas_c s2 v w9).mono ?_
                      rintro e w10 ⟨rfl, hb10⟩
                      have hc2_0 := hid (hc1_0.out.below hb10 hc1_0.out.lt)
                      have hc2_1 := hid (show (w10.cell? ⟨b1, o1 + k * 2, none⟩ = some (.int .u64 ((lw (s)).toNat : Int)) ∧ w10.cell? ⟨b1, o1 + k * 2 + 1, none⟩ = some (.int .u64 ((hw (s)).toNat : Int))) from ⟨(hb10.cell (cell_lt hc1_1.out.1)).trans hc1_1.out.1, (hb10.cell (cell_lt hc1_1.out.2)).trans hc1_1.out.2⟩)
                      have hc2_2 := hid (show (w10.cell? ⟨b1, o1 + j * 2, none⟩ = some (.int .u64 ((lw (s2)).toNat : Int)) ∧ w10.cell? ⟨b1, o1 + j * 2 + 1, none⟩ = some (.int .u64 ((hw (s2)).toNat : Int))) from ⟨(hb10.cell (cell_lt hc1_2.out.1)).trans hc1_2.out.1, (hb10.cell (cell_lt hc1_2.out.2)).trans hc1_2.out.2⟩)
                      have hc2_3 := hid ((hb10.cell (cell_lt hc1_3.out)).trans hc1_3.out)
                      have hc2_4 := hid ((hb10.cell (cell_lt hc1_4.out)).trans hc1_4.out)
                      rw [hh2]
                      refine .inl ⟨_, rfl, .inr ⟨hc2_0.out, hc2_1.out, hc2_2.out, hc2_3.out, hc2_4.out⟩, ?_⟩
                      simp only [Act.put, List.setIfInBounds_toArray, List.set_cons_zero, List.set_cons_succ]
                      refine wpAnyL_pure (i := 19) (v := .bool true) (by simp only [List.getElem?_toArray, List.getElem?_cons_zero, List.getElem?_cons_succ] <;> rfl) (by kernel_rfl) (by kernel_rfl) (by kernel_rfl) (by exact fun _ _ _ h => h) (by decide) (.inr ⟨hc2_0.out, hc2_1.out, hc2_2.out, hc2_3.out, hc2_4.out⟩) (Or.inl ⟨by rfl, fun w _ => (by simp [execOp, go_sem, Act.eval])⟩) (fun _ => ?_)
                      simp only [Act.put, List.setIfInBounds_toArray, List.set_cons_zero, List.set_cons_succ]
                      refine wpAnyL_pure (i := 20) (v := .bool true) (by simp only [List.getElem?_toArray, List.getElem?_cons_zero, List.getElem?_cons_succ] <;> rfl) (by kernel_rfl) (by kernel_rfl) (by kernel_rfl) (by exact fun _ _ _ h => h) (by decide) (.inr ⟨hc2_0.out, hc2_1.out, hc2_2.out, hc2_3.out, hc2_4.out⟩) (Or.inl ⟨by rfl, fun w _ => (by simp [execOp, go_sem, Act.eval])⟩) (fun _ => ?_)
                      simp only [Act.put, List.setIfInBounds_toArray, List.set_cons_zero, List.set_cons_succ]
                      refine wpAnyL_pure (i := 21) (v := .slice (some ⟨g, 0, none⟩) B.length B.length) (by simp only [List.getElem?_toArray, List.getElem?_cons_zero, List.getElem?_cons_succ] <;> rfl) (by kernel_rfl) (by kernel_rfl) (by kernel_rfl) (by exact fun _ _ _ h => h) (by decide) (.inr ⟨hc2_0.out, hc2_1.out, hc2_2.out, hc2_3.out, hc2_4.out⟩) (Or.inl ⟨by rfl, fun w _ => (by simp [execOp, go_sem, Act.eval])⟩) (fun _ => ?_)
                      simp only [Act.put, List.setIfInBounds_toArray, List.set_cons_zero, List.set_cons_succ]
                      refine wpAnyL_pure (i := 22) (v := .int .i64 (k : Int)) (by simp only [List.getElem?_toArray, List.getElem?_cons_zero, List.getElem?_cons_succ] <;> rfl) (by kernel_rfl) (by kernel_rfl) (by kernel_rfl) (by exact fun _ _ _ h => h) (by decide) (.inr ⟨hc2_0.out, hc2_1.out, hc2_2.out, hc2_3.out, hc2_4.out⟩) (Or.inl ⟨by rfl, fun w _ => (by simp [execOp, go_sem, Act.eval])⟩) (fun _ => ?_)
                      simp only [Act.put, List.setIfInBounds_toArray, List.set_cons_zero, List.set_cons_succ]
                      refine wpAnyL_pure (i := 23) (v := .pointer (some ⟨g, k, none⟩)) (by simp only [List.getElem?_toArray, List.getElem?_cons_zero, List.getElem?_cons_succ] <;> rfl) (by kernel_rfl) (by kernel_rfl) (by kernel_rfl) (by exact fun _ _ _ h => h) (by decide) (.inr ⟨hc2_0.out, hc2_1.out, hc2_2.out, hc2_3.out, hc2_4.out⟩) (Or.inl ⟨by rfl, fun w _ => (by simp [execOp, go_sem, Act.eval, zk])⟩) (fun _ => ?_)
                      simp only [Act.put, List.setIfInBounds_toArray, List.set_cons_zero, List.set_cons_succ]
                      refine wpAnyL_load2 (i := 24) (v := .bool true) (by simp only [List.getElem?_toArray, List.getElem?_cons_zero, List.getElem?_cons_succ] <;> rfl) (by kernel_rfl) (by kernel_rfl) (by kernel_rfl) (by exact fun _ _ _ h => h) (by decide) (Waits.more (j := 29) rfl ⟨⟨29, .data⟩, by simp, rfl, rfl⟩ (Waits.one rfl ⟨⟨24, .data⟩, by simp, rfl, rfl⟩)) (by kernel_rfl) (by kernel_rfl) (.inr ⟨hc2_0.out, hc2_1.out, hc2_2.out, hc2_3.out, hc2_4.out⟩) (Or.inl ⟨by rfl, fun w hw => (by obtain ⟨_, _, _, x3, _⟩ := hw; simp [execOp, go_sem, Act.eval, x3])⟩) (fun _ => ?_)
                      simp only [Act.put, List.setIfInBounds_toArray, List.set_cons_zero, List.set_cons_succ]
                      refine wpAnyL_pure (i := 25) (v := .slice (some ⟨g, 0, none⟩) B.length B.length) (by simp only [List.getElem?_toArray, List.getElem?_cons_zero, List.getElem?_cons_succ] <;> rfl) (by kernel_rfl) (by kernel_rfl) (by kernel_rfl) (by exact fun _ _ _ h => h) (by decide) (.inr ⟨hc2_0.out, hc2_1.out, hc2_2.out, hc2_3.out, hc2_4.out⟩) (Or.inl ⟨by rfl, fun w _ => (by simp [execOp, go_sem, Act.eval])⟩) (fun _ => ?_)
                      simp only [Act.put, List.setIfInBounds_toArray, List.set_cons_zero, List.set_cons_succ]
                      refine wpAnyL_pure (i := 26) (v := .int .i64 (j : Int)) (by simp only [List.getElem?_toArray, List.getElem?_cons_zero, List.getElem?_cons_succ] <;> rfl) (by kernel_rfl) (by kernel_rfl) (by kernel_rfl) (by exact fun _ _ _ h => h) (by decide) (.inr ⟨hc2_0.out, hc2_1.out, hc2_2.out, hc2_3.out, hc2_4.out⟩) (Or.inl ⟨by rfl, fun w _ => (by simp [execOp, go_sem, Act.eval])⟩) (fun _ => ?_)
                      simp only [Act.put, List.setIfInBounds_toArray, List.set_cons_zero, List.set_cons_succ]
                      refine wpAnyL_pure (i := 27) (v := .pointer (some ⟨g, j, none⟩)) (by simp only [List.getElem?_toArray, List.getElem?_cons_zero, List.getElem?_cons_succ] <;> rfl) (by kernel_rfl) (by kernel_rfl) (by kernel_rfl) (by exact fun _ _ _ h => h) (by decide) (.inr ⟨hc2_0.out, hc2_1.out, hc2_2.out, hc2_3.out, hc2_4.out⟩) (Or.inl ⟨by rfl, fun w _ => (by simp [execOp, go_sem, Act.eval, zj])⟩) (fun _ => ?_)
                      simp only [Act.put, List.setIfInBounds_toArray, List.set_cons_zero, List.set_cons_succ]
                      refine wpAnyL_load2 (i := 28) (v := .bool false) (by simp only [List.getElem?_toArray, List.getElem?_cons_zero, List.getElem?_cons_succ] <;> rfl) (by kernel_rfl) (by kernel_rfl) (by kernel_rfl) (by exact fun _ _ _ h => h) (by decide) (Waits.more (j := 29) rfl ⟨⟨29, .data⟩, by simp, rfl, rfl⟩ (Waits.one rfl ⟨⟨28, .data⟩, by simp, rfl, rfl⟩)) (by kernel_rfl) (by kernel_rfl) (.inr ⟨hc2_0.out, hc2_1.out, hc2_2.out, hc2_3.out, hc2_4.out⟩) (Or.inl ⟨by rfl, fun w hw => (by obtain ⟨_, _, _, _, x4⟩ := hw; simp [execOp, go_sem, Act.eval, x4])⟩) (fun _ => ?_)
                      simp only [Act.put, List.setIfInBounds_toArray, List.set_cons_zero, List.set_cons_succ]
                      refine wpAnyL_pure (i := 29) (v := .bool true) (by simp only [List.getElem?_toArray, List.getElem?_cons_zero, List.getElem?_cons_succ] <;> rfl) (by kernel_rfl) (by kernel_rfl) (by kernel_rfl) (by exact fun _ _ _ h => h) (by decide) (.inr ⟨hc2_0.out, hc2_1.out, hc2_2.out, hc2_3.out, hc2_4.out⟩) (Or.inl ⟨by rfl, fun w _ => (by simp [execOp, go_sem, Act.eval])⟩) (fun _ => ?_)
                      simp only [Act.put, List.setIfInBounds_toArray, List.set_cons_zero, List.set_cons_succ]
                      refine wpAnyL_one (i := 30) (by kernel_rfl) (by simp only [List.getElem?_toArray, List.getElem?_cons_zero, List.getElem?_cons_succ] <;> rfl) (by rfl) ?_
                      refine opwp_value (v := .bool true) (w' := w10) (by simp [execOp, go_sem, Act.eval]) ⟨.inl (by kernel_rfl), ?_⟩
                      simp only [Act.put, List.setIfInBounds_toArray, List.set_cons_zero, List.set_cons_succ]
                      refine wpAnyL_done (by kernel_rfl) ?_ _
                      have HM3 := hid (HM.out.below (((Below.refl _ wr).drew.trans hb9).trans (hb10.mono hb9.size)))
                      have HM4 := hid (HM3.out.store hgw k)
                      have HM5 := hid (HM4.out.store hgw j)
                      obtain ⟨y0, y1⟩ := HM3.out.row.at k (by omega)
                      obtain ⟨y2, y3⟩ := HM4.out.row.at j (by rw [List.length_set]; omega)
                      clear HM hh1 hh2 hx hy
                      go_wp2_with fail
                      go_roundw
                      case rel => exact ⟨k + 1, by omega, by go_num, by rw [HST.out, HS.out]; exact HM5.out⟩
                      case measure => simp [intOf]; omega
                    · have HS := hid (HST0.out (.inr rfl))
                      refine Go.Proofs.YtmlecpapoeodkaaDoor.wp_region_L 31 30 (fun w' => Box2 w' (w.heap.size) 33 (.slice (some ⟨b1, o1, none⟩) B.length c) (.slice (some ⟨bu, ou, none⟩) U.length d) ∧ (w'.cell? ⟨b1, o1 + k * 2, none⟩ = some (.int .u64 ((lw (s)).toNat : Int)) ∧ w'.cell? ⟨b1, o1 + k * 2 + 1, none⟩ = some (.int .u64 ((hw (s)).toNat : Int))) ∧ (w'.cell? ⟨b1, o1 + j * 2, none⟩ = some (.int .u64 ((lw (s2)).toNat : Int)) ∧ w'.cell? ⟨b1, o1 + j * 2 + 1, none⟩ = some (.int .u64 ((hw (s2)).toNat : Int))) ∧ w'.cell? ⟨g, k, none⟩ = some (.bool true) ∧ w'.cell? ⟨g, j, none⟩ = some (.bool true)) (by kernel_rfl) rfl ⟨BX.out, RS.out, RJ.out, FK.out, FJ.out⟩ (fun _ => ?_)
                      refine wpAnyL_pure (i := 0) (v := .int .i64 (j : Int)) (by simp only [List.getElem?_toArray, List.getElem?_cons_zero] <;> rfl) (by kernel_rfl) (by kernel_rfl) (by kernel_rfl) (by exact fun _ _ _ h => h) (by decide) (.inr ⟨BX.out, RS.out, RJ.out, FK.out, FJ.out⟩) (Or.inl ⟨by rfl, fun w _ => (by simp [execOp, go_sem, Act.eval])⟩) (fun _ => ?_)
                      simp only [Act.put, List.setIfInBounds_toArray, List.set_cons_zero, List.set_cons_succ]
                      refine wpAnyL_pure (i := 1) (v := .bool true) (by simp only [List.getElem?_toArray, List.getElem?_cons_zero, List.getElem?_cons_succ] <;> rfl) (by kernel_rfl) (by kernel_rfl) (by kernel_rfl) (by exact fun _ _ _ h => h) (by decide) (.inr ⟨BX.out, RS.out, RJ.out, FK.out, FJ.out⟩) (Or.inl ⟨by rfl, fun w _ => (by simp [execOp, go_sem, Act.eval])⟩) (fun _ => ?_)
                      simp only [Act.put, List.setIfInBounds_toArray, List.set_cons_zero, List.set_cons_succ]
                      refine wpAnyL_pure (i := 2) (v := .bool true) (by simp only [List.getElem?_toArray, List.getElem?_cons_zero, List.getElem?_cons_succ] <;> rfl) (by kernel_rfl) (by kernel_rfl) (by kernel_rfl) (by exact fun _ _ _ h => h) (by decide) (.inr ⟨BX.out, RS.out, RJ.out, FK.out, FJ.out⟩) (Or.inl ⟨by rfl, fun w _ => (by simp [execOp, go_sem, Act.eval])⟩) (fun _ => ?_)
                      simp only [Act.put, List.setIfInBounds_toArray, List.set_cons_zero, List.set_cons_succ]
                      refine wpAnyL_pure (i := 3) (v := .pointer (some ⟨w.heap.size, 0, none⟩)) (by simp only [List.getElem?_toArray, List.getElem?_cons_zero, List.getElem?_cons_succ] <;> rfl) (by kernel_rfl) (by kernel_rfl) (by kernel_rfl) (by exact fun _ _ _ h => h) (by decide) (.inr ⟨BX.out, RS.out, RJ.out, FK.out, FJ.out⟩) (Or.inl ⟨by rfl, fun w _ => (by simp [execOp, go_sem, Act.eval])⟩) (fun _ => ?_)
                      simp only [Act.put, List.setIfInBounds_toArray, List.set_cons_zero, List.set_cons_succ]
                      refine wpAnyL_load2 (i := 4) (v := .slice (some ⟨b1, o1, none⟩) B.length c) (by simp only [List.getElem?_toArray, List.getElem?_cons_zero, List.getElem?_cons_succ] <;> rfl) (by kernel_rfl) (by kernel_rfl) (by kernel_rfl) (by exact fun _ _ _ h => h) (by decide) (Waits.more (j := 20) rfl ⟨⟨20, .data⟩, by simp, rfl, rfl⟩ (Waits.more (j := 19) rfl ⟨⟨19, .data⟩, by simp, rfl, rfl⟩ (Waits.more (j := 11) rfl ⟨⟨11, .data⟩, by simp, rfl, rfl⟩ (Waits.more (j := 9) rfl ⟨⟨9, .chain⟩, by simp, rfl, rfl⟩ (Waits.more (j := 7) rfl ⟨⟨7, .data⟩, by simp, rfl, rfl⟩ (Waits.more (j := 6) rfl ⟨⟨6, .data⟩, by simp, rfl, rfl⟩ (Waits.one rfl ⟨⟨4, .data⟩, by simp, rfl, rfl⟩))))))) (by kernel_rfl) (by kernel_rfl) (.inr ⟨BX.out, RS.out, RJ.out, FK.out, FJ.out⟩) (Or.inl ⟨by rfl, fun w hw => (by obtain ⟨x0, _, _, _, _⟩ := hw; simp [execOp, go_sem, Act.eval, x0.cells.1])⟩) (fun _ => ?_)
                      simp only [Act.put, List.setIfInBounds_toArray, List.set_cons_zero, List.set_cons_succ]
                      refine wpAnyL_pure (i := 5) (v := .int .i64 (k : Int)) (by simp only [List.getElem?_toArray, List.getElem?_cons_zero, List.getElem?_cons_succ] <;> rfl) (by kernel_rfl) (by kernel_rfl) (by kernel_rfl) (by exact fun _ _ _ h => h) (by decide) (.inr ⟨BX.out, RS.out, RJ.out, FK.out, FJ.out⟩) (Or.inl ⟨by rfl, fun w _ => (by simp [execOp, go_sem, Act.eval])⟩) (fun _ => ?_)
                      simp only [Act.put, List.setIfInBounds_toArray, List.set_cons_zero, List.set_cons_succ]
                      refine wpAnyL_pure (i := 6) (v := .pointer (some ⟨b1, o1 + k * 2, none⟩)) (by simp only [List.getElem?_toArray, List.getElem?_cons_zero, List.getElem?_cons_succ] <;> rfl) (by kernel_rfl) (by kernel_rfl) (by kernel_rfl) (by exact fun _ _ _ h => h) (by decide) (.inr ⟨BX.out, RS.out, RJ.out, FK.out, FJ.out⟩) (Or.inl ⟨by rfl, fun w _ => (by simp [execOp, go_sem, Act.eval, zk])⟩) (fun _ => ?_)
                      simp only [Act.put, List.setIfInBounds_toArray, List.set_cons_zero, List.set_cons_succ]
                      refine wpAnyL_load2 (i := 7) (v := encS (s)) (by simp only [List.getElem?_toArray, List.getElem?_cons_zero, List.getElem?_cons_succ] <;> rfl) (by kernel_rfl) (by kernel_rfl) (by kernel_rfl) (by exact fun _ _ _ h => h) (by decide) (Waits.more (j := 20) rfl ⟨⟨20, .data⟩, by simp, rfl, rfl⟩ (Waits.more (j := 19) rfl ⟨⟨19, .data⟩, by simp, rfl, rfl⟩ (Waits.more (j := 11) rfl ⟨⟨11, .data⟩, by simp, rfl, rfl⟩ (Waits.more (j := 9) rfl ⟨⟨9, .chain⟩, by simp, rfl, rfl⟩ (Waits.one rfl ⟨⟨7, .data⟩, by simp, rfl, rfl⟩))))) (by kernel_rfl) (by kernel_rfl) (.inr ⟨BX.out, RS.out, RJ.out, FK.out, FJ.out⟩) (Or.inl ⟨by rfl, fun w hw => (by obtain ⟨_, ⟨y1, z1⟩, _, _, _⟩ := hw; simp [execOp, go_sem, Act.eval, y1, z1])⟩) (fun _ => ?_)
                      simp only [Act.put, List.setIfInBounds_toArray, List.set_cons_zero, List.set_cons_succ]
                      refine wpAnyL_pure (i := 8) (v := .int .i64 v) (by simp only [List.getElem?_toArray, List.getElem?_cons_zero, List.getElem?_cons_succ] <;> rfl) (by kernel_rfl) (by kernel_rfl) (by kernel_rfl) (by exact fun _ _ _ h => h) (by decide) (.inr ⟨BX.out, RS.out, RJ.out, FK.out, FJ.out⟩) (Or.inl ⟨by rfl, fun w _ => (by simp [execOp, go_sem, Act.eval])⟩) (fun _ => ?_)
                      simp only [Act.put, List.setIfInBounds_toArray, List.set_cons_zero, List.set_cons_succ]
                      refine wpAnyL_one (i := 9) (by kernel_rfl) (by simp only [List.getElem?_toArray, List.getElem?_cons_zero, List.getElem?_cons_succ] <;> rfl) (by rfl) ?_
                      refine opwp_call (f := 64) (args := #[encS (s), .int .i64 v]) (w' := wr.drew) (by simp [go_sem, Act.eval]) ?_
                      refine (rHas_c s v wr.drew).mono ?_
                      rintro e w9 ⟨rfl, hb9⟩
                      have hc1_0 := hid (BX.out.below hb9 BX.out.lt)
                      have hc1_1 := hid (show (w9.cell? ⟨b1, o1 + k * 2, none⟩ = some (.int .u64 ((lw (s)).toNat : Int)) ∧ w9.cell? ⟨b1, o1 + k * 2 + 1, none⟩ = some (.int .u64 ((hw (s)).toNat : Int))) from ⟨(hb9.cell (cell_lt RS.out.1)).trans RS.out.1, (hb9.cell (cell_lt RS.out.2)).trans RS.out.2⟩)
                      have hc1_2 := hid (show (w9.cell? ⟨b1, o1 + j * 2, none⟩ = some (.int .u64 ((lw (s2)).toNat : Int)) ∧ w9.cell? ⟨b1, o1 + j * 2 + 1, none⟩ = some (.int .u64 ((hw (s2)).toNat : Int))) from ⟨(hb9.cell (cell_lt RJ.out.1)).trans RJ.out.1, (hb9.cell (cell_lt RJ.out.2)).trans RJ.out.2⟩)
                      have hc1_3 := hid ((hb9.cell (cell_lt FK.out)).trans FK.out)
                      have hc1_4 := hid ((hb9.cell (cell_lt FJ.out)).trans FJ.out)
                      rw [hh1]
                      refine .inl ⟨_, rfl, .inr ⟨hc1_0.out, hc1_1.out, hc1_2.out, hc1_3.out, hc1_4.out⟩, ?_⟩
                      simp only [Act.put, List.setIfInBounds_toArray, List.set_cons_zero, List.set_cons_succ]
                      refine wpAnyL_pure (i := 10) (v := .bool true) (by simp only [List.getElem?_toArray, List.getElem?_cons_zero, List.getElem?_cons_succ] <;> rfl) (by kernel_rfl) (by kernel_rfl) (by kernel_rfl) (by exact fun _ _ _ h => h) (by decide) (.inr ⟨hc1_0.out, hc1_1.out, hc1_2.out, hc1_3.out, hc1_4.out⟩) (Or.inl ⟨by rfl, fun w _ => (by simp [execOp, go_sem, Act.eval])⟩) (fun _ => ?_)
                      simp only [Act.put, List.setIfInBounds_toArray, List.set_cons_zero, List.set_cons_succ]
                      refine wpAnyL_pure (i := 11) (v := .bool true) (by simp only [List.getElem?_toArray, List.getElem?_cons_zero, List.getElem?_cons_succ] <;> rfl) (by kernel_rfl) (by kernel_rfl) (by kernel_rfl) (by exact fun _ _ _ h => h) (by decide) (.inr ⟨hc1_0.out, hc1_1.out, hc1_2.out, hc1_3.out, hc1_4.out⟩) (Or.inl ⟨by rfl, fun w _ => (by simp [execOp, go_sem, Act.eval])⟩) (fun _ => ?_)
                      simp only [Act.put, List.setIfInBounds_toArray, List.set_cons_zero, List.set_cons_succ]
                      refine wpAnyL_pure (i := 12) (v := .pointer (some ⟨w.heap.size, 0, none⟩)) (by simp only [List.getElem?_toArray, List.getElem?_cons_zero, List.getElem?_cons_succ] <;> rfl) (by kernel_rfl) (by kernel_rfl) (by kernel_rfl) (by exact fun _ _ _ h => h) (by decide) (.inr ⟨hc1_0.out, hc1_1.out, hc1_2.out, hc1_3.out, hc1_4.out⟩) (Or.inl ⟨by rfl, fun w _ => (by simp [execOp, go_sem, Act.eval])⟩) (fun _ => ?_)
                      simp only [Act.put, List.setIfInBounds_toArray, List.set_cons_zero, List.set_cons_succ]
                      refine wpAnyL_load2 (i := 13) (v := .slice (some ⟨b1, o1, none⟩) B.length c) (by simp only [List.getElem?_toArray, List.getElem?_cons_zero, List.getElem?_cons_succ] <;> rfl) (by kernel_rfl) (by kernel_rfl) (by kernel_rfl) (by exact fun _ _ _ h => h) (by decide) (Waits.more (j := 20) rfl ⟨⟨20, .data⟩, by simp, rfl, rfl⟩ (Waits.more (j := 18) rfl ⟨⟨18, .chain⟩, by simp, rfl, rfl⟩ (Waits.more (j := 16) rfl ⟨⟨16, .data⟩, by simp, rfl, rfl⟩ (Waits.more (j := 15) rfl ⟨⟨15, .data⟩, by simp, rfl, rfl⟩ (Waits.one rfl ⟨⟨13, .data⟩, by simp, rfl, rfl⟩))))) (by kernel_rfl) (by kernel_rfl) (.inr ⟨hc1_0.out, hc1_1.out, hc1_2.out, hc1_3.out, hc1_4.out⟩) (Or.inl ⟨by rfl, fun w hw => (by obtain ⟨x0, _, _, _, _⟩ := hw; simp [execOp, go_sem, Act.eval, x0.cells.1])⟩) (fun _ => ?_)
                      simp only [Act.put, List.setIfInBounds_toArray, List.set_cons_zero, List.set_cons_succ]
                      refine wpAnyL_pure (i := 14) (v := .int .i64 (j : Int)) (by simp only [List.getElem?_toArray, List.getElem?_cons_zero, List.getElem?_cons_succ] <;> rfl) (by kernel_rfl) (by kernel_rfl) (by kernel_rfl) (by exact fun _ _ _ h => h) (by decide) (.inr ⟨hc1_0.out, hc1_1.out, hc1_2.out, hc1_3.out, hc1_4.out⟩) (Or.inl ⟨by rfl, fun w _ => (by simp [execOp, go_sem, Act.eval])⟩) (fun _ => ?_)
                      simp only [Act.put, List.setIfInBounds_toArray, List.set_cons_zero, List.set_cons_succ]
                      refine wpAnyL_pure (i := 15) (v := .pointer (some ⟨b1, o1 + j * 2, none⟩)) (by simp only [List.getElem?_toArray, List.getElem?_cons_zero, List.getElem?_cons_succ] <;> rfl) (by kernel_rfl) (by kernel_rfl) (by kernel_rfl) (by exact fun _ _ _ h => h) (by decide) (.inr ⟨hc1_0.out, hc1_1.out, hc1_2.out, hc1_3.out, hc1_4.out⟩) (Or.inl ⟨by rfl, fun w _ => (by simp [execOp, go_sem, Act.eval, zj])⟩) (fun _ => ?_)
                      simp only [Act.put, List.setIfInBounds_toArray, List.set_cons_zero, List.set_cons_succ]
                      refine wpAnyL_load2 (i := 16) (v := encS (s2)) (by simp only [List.getElem?_toArray, List.getElem?_cons_zero, List.getElem?_cons_succ] <;> rfl) (by kernel_rfl) (by kernel_rfl) (by kernel_rfl) (by exact fun _ _ _ h => h) (by decide) (Waits.more (j := 20) rfl ⟨⟨20, .data⟩, by simp, rfl, rfl⟩ (Waits.more (j := 18) rfl ⟨⟨18, .chain⟩, by simp, rfl, rfl⟩ (Waits.one rfl ⟨⟨16, .data⟩, by simp, rfl, rfl⟩))) (by kernel_rfl) (by kernel_rfl) (.inr ⟨hc1_0.out, hc1_1.out, hc1_2.out, hc1_3.out, hc1_4.out⟩) (Or.inl ⟨by rfl, fun w hw => (by obtain ⟨_, _, ⟨y2, z2⟩, _, _⟩ := hw; simp [execOp, go_sem, Act.eval, y2, z2])⟩) (fun _ => ?_)
                      simp only [Act.put, List.setIfInBounds_toArray, List.set_cons_zero, List.set_cons_succ]
                      refine wpAnyL_pure (i := 17) (v := .int .i64 v) (by simp only [List.getElem?_toArray, List.getElem?_cons_zero, List.getElem?_cons_succ] <;> rfl) (by kernel_rfl) (by kernel_rfl) (by kernel_rfl) (by exact fun _ _ _ h => h) (by decide) (.inr ⟨hc1_0.out, hc1_1.out, hc1_2.out, hc1_3.out, hc1_4.out⟩) (Or.inl ⟨by rfl, fun w _ => (by simp [execOp, go_sem, Act.eval])⟩) (fun _ => ?_)
                      simp only [Act.put, List.setIfInBounds_toArray, List.set_cons_zero, List.set_cons_succ]
                      refine wpAnyL_one (i := 18) (by kernel_rfl) (by simp only [List.getElem?_toArray, List.getElem?_cons_zero, List.getElem?_cons_succ] <;> rfl) (by rfl) ?_
                      refine opwp_call (f := 64) (args := #[encS (s2), .int .i64 v]) (w' := w9) (by simp [go_sem, Act.eval]) ?_
                      refine (rHas_c s2 v w9).mono ?_
                      rintro e w10 ⟨rfl, hb10⟩
                      have hc2_0 := hid (hc1_0.out.below hb10 hc1_0.out.lt)
                      have hc2_1 := hid (show (w10.cell? ⟨b1, o1 + k * 2, none⟩ = some (.int .u64 ((lw (s)).toNat : Int)) ∧ w10.cell? ⟨b1, o1 + k * 2 + 1, none⟩ = some (.int .u64 ((hw (s)).toNat : Int))) from ⟨(hb10.cell (cell_lt hc1_1.out.1)).trans hc1_1.out.1, (hb10.cell (cell_lt hc1_1.out.2)).trans hc1_1.out.2⟩)
                      have hc2_2 := hid (show (w10.cell? ⟨b1, o1 + j * 2, none⟩ = some (.int .u64 ((lw (s2)).toNat : Int)) ∧ w10.cell? ⟨b1, o1 + j * 2 + 1, none⟩ = some (.int .u64 ((hw (s2)).toNat : Int))) from ⟨(hb10.cell (cell_lt hc1_2.out.1)).trans hc1_2.out.1, (hb10.cell (cell_lt hc1_2.out.2)).trans hc1_2.out.2⟩)
                      have hc2_3 := hid ((hb10.cell (cell_lt hc1_3.out)).trans hc1_3.out)
                      have hc2_4 := hid ((hb10.cell (cell_lt hc1_4.out)).trans hc1_4.out)
                      rw [hh2]
                      refine .inl ⟨_, rfl, .inr ⟨hc2_0.out, hc2_1.out, hc2_2.out, hc2_3.out, hc2_4.out⟩, ?_⟩
                      simp only [Act.put, List.setIfInBounds_toArray, List.set_cons_zero, List.set_cons_succ]
                      refine wpAnyL_pure (i := 19) (v := .bool true) (by simp only [List.getElem?_toArray, List.getElem?_cons_zero, List.getElem?_cons_succ] <;> rfl) (by kernel_rfl) (by kernel_rfl) (by kernel_rfl) (by exact fun _ _ _ h => h) (by decide) (.inr ⟨hc2_0.out, hc2_1.out, hc2_2.out, hc2_3.out, hc2_4.out⟩) (Or.inl ⟨by rfl, fun w _ => (by simp [execOp, go_sem, Act.eval])⟩) (fun _ => ?_)
                      simp only [Act.put, List.setIfInBounds_toArray, List.set_cons_zero, List.set_cons_succ]
                      refine wpAnyL_pure (i := 20) (v := .bool true) (by simp only [List.getElem?_toArray, List.getElem?_cons_zero, List.getElem?_cons_succ] <;> rfl) (by kernel_rfl) (by kernel_rfl) (by kernel_rfl) (by exact fun _ _ _ h => h) (by decide) (.inr ⟨hc2_0.out, hc2_1.out, hc2_2.out, hc2_3.out, hc2_4.out⟩) (Or.inl ⟨by rfl, fun w _ => (by simp [execOp, go_sem, Act.eval])⟩) (fun _ => ?_)
                      simp only [Act.put, List.setIfInBounds_toArray, List.set_cons_zero, List.set_cons_succ]
                      refine wpAnyL_pure (i := 21) (v := .slice (some ⟨g, 0, none⟩) B.length B.length) (by simp only [List.getElem?_toArray, List.getElem?_cons_zero, List.getElem?_cons_succ] <;> rfl) (by kernel_rfl) (by kernel_rfl) (by kernel_rfl) (by exact fun _ _ _ h => h) (by decide) (.inr ⟨hc2_0.out, hc2_1.out, hc2_2.out, hc2_3.out, hc2_4.out⟩) (Or.inl ⟨by rfl, fun w _ => (by simp [execOp, go_sem, Act.eval])⟩) (fun _ => ?_)
                      simp only [Act.put, List.setIfInBounds_toArray, List.set_cons_zero, List.set_cons_succ]
                      refine wpAnyL_pure (i := 22) (v := .int .i64 (k : Int)) (by simp only [List.getElem?_toArray, List.getElem?_cons_zero, List.getElem?_cons_succ] <;> rfl) (by kernel_rfl) (by kernel_rfl) (by kernel_rfl) (by exact fun _ _ _ h => h) (by decide) (.inr ⟨hc2_0.out, hc2_1.out, hc2_2.out, hc2_3.out, hc2_4.out⟩) (Or.inl ⟨by rfl, fun w _ => (by simp [execOp, go_sem, Act.eval])⟩) (fun _ => ?_)
                      simp only [Act.put, List.setIfInBounds_toArray, List.set_cons_zero, List.set_cons_succ]
                      refine wpAnyL_pure (i := 23) (v := .pointer (some ⟨g, k, none⟩)) (by simp only [List.getElem?_toArray, List.getElem?_cons_zero, List.getElem?_cons_succ] <;> rfl) (by kernel_rfl) (by kernel_rfl) (by kernel_rfl) (by exact fun _ _ _ h => h) (by decide) (.inr ⟨hc2_0.out, hc2_1.out, hc2_2.out, hc2_3.out, hc2_4.out⟩) (Or.inl ⟨by rfl, fun w _ => (by simp [execOp, go_sem, Act.eval, zk])⟩) (fun _ => ?_)
                      simp only [Act.put, List.setIfInBounds_toArray, List.set_cons_zero, List.set_cons_succ]
                      refine wpAnyL_load2 (i := 24) (v := .bool true) (by simp only [List.getElem?_toArray, List.getElem?_cons_zero, List.getElem?_cons_succ] <;> rfl) (by kernel_rfl) (by kernel_rfl) (by kernel_rfl) (by exact fun _ _ _ h => h) (by decide) (Waits.more (j := 29) rfl ⟨⟨29, .data⟩, by simp, rfl, rfl⟩ (Waits.one rfl ⟨⟨24, .data⟩, by simp, rfl, rfl⟩)) (by kernel_rfl) (by kernel_rfl) (.inr ⟨hc2_0.out, hc2_1.out, hc2_2.out, hc2_3.out, hc2_4.out⟩) (Or.inl ⟨by rfl, fun w hw => (by obtain ⟨_, _, _, x3, _⟩ := hw; simp [execOp, go_sem, Act.eval, x3])⟩) (fun _ => ?_)
                      simp only [Act.put, List.setIfInBounds_toArray, List.set_cons_zero, List.set_cons_succ]
                      refine wpAnyL_pure (i := 25) (v := .slice (some ⟨g, 0, none⟩) B.length B.length) (by simp only [List.getElem?_toArray, List.getElem?_cons_zero, List.getElem?_cons_succ] <;> rfl) (by kernel_rfl) (by kernel_rfl) (by kernel_rfl) (by exact fun _ _ _ h => h) (by decide) (.inr ⟨hc2_0.out, hc2_1.out, hc2_2.out, hc2_3.out, hc2_4.out⟩) (Or.inl ⟨by rfl, fun w _ => (by simp [execOp, go_sem, Act.eval])⟩) (fun _ => ?_)
                      simp only [Act.put, List.setIfInBounds_toArray, List.set_cons_zero, List.set_cons_succ]
                      refine wpAnyL_pure (i := 26) (v := .int .i64 (j : Int)) (by simp only [List.getElem?_toArray, List.getElem?_cons_zero, List.getElem?_cons_succ] <;> rfl) (by kernel_rfl) (by kernel_rfl) (by kernel_rfl) (by exact fun _ _ _ h => h) (by decide) (.inr ⟨hc2_0.out, hc2_1.out, hc2_2.out, hc2_3.out, hc2_4.out⟩) (Or.inl ⟨by rfl, fun w _ => (by simp [execOp, go_sem, Act.eval])⟩) (fun _ => ?_)
                      simp only [Act.put, List.setIfInBounds_toArray, List.set_cons_zero, List.set_cons_succ]
                      refine wpAnyL_pure (i := 27) (v := .pointer (some ⟨g, j, none⟩)) (by simp only [List.getElem?_toArray, List.getElem?_cons_zero, List.getElem?_cons_succ] <;> rfl) (by kernel_rfl) (by kernel_rfl) (by kernel_rfl) (by exact fun _ _ _ h => h) (by decide) (.inr ⟨hc2_0.out, hc2_1.out, hc2_2.out, hc2_3.out, hc2_4.out⟩) (Or.inl ⟨by rfl, fun w _ => (by simp [execOp, go_sem, Act.eval, zj])⟩) (fun _ => ?_)
                      simp only [Act.put, List.setIfInBounds_toArray, List.set_cons_zero, List.set_cons_succ]
                      refine wpAnyL_load2 (i := 28) (v := .bool true) (by simp only [List.getElem?_toArray, List.getElem?_cons_zero, List.getElem?_cons_succ] <;> rfl) (by kernel_rfl) (by kernel_rfl) (by kernel_rfl) (by exact fun _ _ _ h => h) (by decide) (Waits.more (j := 29) rfl ⟨⟨29, .data⟩, by simp, rfl, rfl⟩ (Waits.one rfl ⟨⟨28, .data⟩, by simp, rfl, rfl⟩)) (by kernel_rfl) (by kernel_rfl) (.inr ⟨hc2_0.out, hc2_1.out, hc2_2.out, hc2_3.out, hc2_4.out⟩) (Or.inl ⟨by rfl, fun w hw => (by obtain ⟨_, _, _, _, x4⟩ := hw; simp [execOp, go_sem, Act.eval, x4])⟩) (fun _ => ?_)
                      simp only [Act.put, List.setIfInBounds_toArray, List.set_cons_zero, List.set_cons_succ]
                      refine wpAnyL_pure (i := 29) (v := .bool false) (by simp only [List.getElem?_toArray, List.getElem?_cons_zero, List.getElem?_cons_succ] <;> rfl) (by kernel_rfl) (by kernel_rfl) (by kernel_rfl) (by exact fun _ _ _ h => h) (by decide) (.inr ⟨hc2_0.out, hc2_1.out, hc2_2.out, hc2_3.out, hc2_4.out⟩) (Or.inl ⟨by rfl, fun w _ => (by simp [execOp, go_sem, Act.eval])⟩) (fun _ => ?_)
                      simp only [Act.put, List.setIfInBounds_toArray, List.set_cons_zero, List.set_cons_succ]
                      refine wpAnyL_one (i := 30) (by kernel_rfl) (by simp only [List.getElem?_toArray, List.getElem?_cons_zero, List.getElem?_cons_succ] <;> rfl) (by rfl) ?_
                      refine opwp_value (v := .bool false) (w' := w10) (by simp [execOp, go_sem, Act.eval]) ⟨.inl (by kernel_rfl), ?_⟩
                      simp only [Act.put, List.setIfInBounds_toArray, List.set_cons_zero, List.set_cons_succ]
                      refine wpAnyL_done (by kernel_rfl) ?_ _
                      have HM3 := hid (HM.out.below (((Below.refl _ wr).drew.trans hb9).trans (hb10.mono hb9.size)))
                      clear HM
                      go_wp2_with fail
                      go_roundw
                      case rel => exact ⟨k + 1, by omega, by go_num, by rw [HST.out, HS.out]; exact HM3.out⟩
                      case measure => simp [intOf]; omega
              · have HS := hid (HST0.out (.inl fun h => hj h.1))
                go_wp2_with fail
                refine Go.Proofs.YtmlecpapoeodkaaDoor.wp_region_L 31 30 (fun w' => True) (by kernel_rfl) rfl trivial (fun _ => ?_)
                refine wpAnyL_pure (i := 0) (v := .int .i64 u) (by simp only [List.getElem?_toArray, List.getElem?_cons_zero] <;> rfl) (by kernel_rfl) (by kernel_rfl) (by kernel_rfl) (by exact fun _ _ _ h => h) (by decide) (.inr trivial) (Or.inl ⟨by rfl, fun w _ => (by simp [execOp, go_sem, Act.eval])⟩) (fun _ => ?_)
                simp only [Act.put, List.setIfInBounds_toArray, List.set_cons_zero, List.set_cons_succ]
                refine wpAnyL_pure (i := 1) (v := .bool false) (by simp only [List.getElem?_toArray, List.getElem?_cons_zero, List.getElem?_cons_succ] <;> rfl) (by kernel_rfl) (by kernel_rfl) (by kernel_rfl) (by exact fun _ _ _ h => h) (by decide) (.inr trivial) (Or.inl ⟨by rfl, fun w _ => (by simp [execOp, go_sem, Act.eval, hj])⟩) (fun _ => ?_)
                simp only [Act.put, List.setIfInBounds_toArray, List.set_cons_zero, List.set_cons_succ]
                refine wpAnyL_pure (i := 2) (v := .bool false) (by simp only [List.getElem?_toArray, List.getElem?_cons_zero, List.getElem?_cons_succ] <;> rfl) (by kernel_rfl) (by kernel_rfl) (by kernel_rfl) (by exact fun _ _ _ h => h) (by decide) (.inr trivial) (Or.inl ⟨by rfl, fun w _ => (by simp [execOp, go_sem, Act.eval])⟩) (fun _ => ?_)
                simp only [Act.put, List.setIfInBounds_toArray, List.set_cons_zero, List.set_cons_succ]
                refine wpAnyL_pure (i := 3) (v := undef) (by simp only [List.getElem?_toArray, List.getElem?_cons_zero, List.getElem?_cons_succ] <;> rfl) (by kernel_rfl) (by kernel_rfl) (by kernel_rfl) (by exact fun _ _ _ h => h) (by decide) (.inr trivial) (Or.inr ⟨by rfl, rfl⟩) (fun _ => ?_)
                simp only [Act.put, List.setIfInBounds_toArray, List.set_cons_zero, List.set_cons_succ]
                refine wpAnyL_pure (i := 4) (v := undef) (by simp only [List.getElem?_toArray, List.getElem?_cons_zero, List.getElem?_cons_succ] <;> rfl) (by kernel_rfl) (by kernel_rfl) (by kernel_rfl) (by exact fun _ _ _ h => h) (by decide) (.inr trivial) (Or.inr ⟨by rfl, rfl⟩) (fun _ => ?_)
                simp only [Act.put, List.setIfInBounds_toArray, List.set_cons_zero, List.set_cons_succ]
                refine wpAnyL_pure (i := 5) (v := undef) (by simp only [List.getElem?_toArray, List.getElem?_cons_zero, List.getElem?_cons_succ] <;> rfl) (by kernel_rfl) (by kernel_rfl) (by kernel_rfl) (by exact fun _ _ _ h => h) (by decide) (.inr trivial) (Or.inr ⟨by rfl, rfl⟩) (fun _ => ?_)
                simp only [Act.put, List.setIfInBounds_toArray, List.set_cons_zero, List.set_cons_succ]
                refine wpAnyL_pure (i := 6) (v := undef) (by simp only [List.getElem?_toArray, List.getElem?_cons_zero, List.getElem?_cons_succ] <;> rfl) (by kernel_rfl) (by kernel_rfl) (by kernel_rfl) (by exact fun _ _ _ h => h) (by decide) (.inr trivial) (Or.inr ⟨by rfl, rfl⟩) (fun _ => ?_)
                simp only [Act.put, List.setIfInBounds_toArray, List.set_cons_zero, List.set_cons_succ]
                refine wpAnyL_pure (i := 7) (v := undef) (by simp only [List.getElem?_toArray, List.getElem?_cons_zero, List.getElem?_cons_succ] <;> rfl) (by kernel_rfl) (by kernel_rfl) (by kernel_rfl) (by exact fun _ _ _ h => h) (by decide) (.inr trivial) (Or.inr ⟨by rfl, rfl⟩) (fun _ => ?_)
                simp only [Act.put, List.setIfInBounds_toArray, List.set_cons_zero, List.set_cons_succ]
                refine wpAnyL_pure (i := 8) (v := undef) (by simp only [List.getElem?_toArray, List.getElem?_cons_zero, List.getElem?_cons_succ] <;> rfl) (by kernel_rfl) (by kernel_rfl) (by kernel_rfl) (by exact fun _ _ _ h => h) (by decide) (.inr trivial) (Or.inr ⟨by rfl, rfl⟩) (fun _ => ?_)
                simp only [Act.put, List.setIfInBounds_toArray, List.set_cons_zero, List.set_cons_succ]
                refine wpAnyL_pure (i := 9) (v := undef) (by simp only [List.getElem?_toArray, List.getElem?_cons_zero, List.getElem?_cons_succ] <;> rfl) (by kernel_rfl) (by kernel_rfl) (by kernel_rfl) (by exact fun _ _ _ h => h) (by decide) (.inr trivial) (Or.inr ⟨by rfl, rfl⟩) (fun _ => ?_)
                simp only [Act.put, List.setIfInBounds_toArray, List.set_cons_zero, List.set_cons_succ]
                refine wpAnyL_pure (i := 10) (v := .bool false) (by simp only [List.getElem?_toArray, List.getElem?_cons_zero, List.getElem?_cons_succ] <;> rfl) (by kernel_rfl) (by kernel_rfl) (by kernel_rfl) (by exact fun _ _ _ h => h) (by decide) (.inr trivial) (Or.inl ⟨by rfl, fun w _ => (by simp [execOp, go_sem, Act.eval])⟩) (fun _ => ?_)
                simp only [Act.put, List.setIfInBounds_toArray, List.set_cons_zero, List.set_cons_succ]
                refine wpAnyL_pure (i := 11) (v := .bool false) (by simp only [List.getElem?_toArray, List.getElem?_cons_zero, List.getElem?_cons_succ] <;> rfl) (by kernel_rfl) (by kernel_rfl) (by kernel_rfl) (by exact fun _ _ _ h => h) (by decide) (.inr trivial) (Or.inl ⟨by rfl, fun w _ => (by simp [execOp, go_sem, Act.eval])⟩) (fun _ => ?_)
                simp only [Act.put, List.setIfInBounds_toArray, List.set_cons_zero, List.set_cons_succ]
                refine wpAnyL_pure (i := 12) (v := undef) (by simp only [List.getElem?_toArray, List.getElem?_cons_zero, List.getElem?_cons_succ] <;> rfl) (by kernel_rfl) (by kernel_rfl) (by kernel_rfl) (by exact fun _ _ _ h => h) (by decide) (.inr trivial) (Or.inr ⟨by rfl, rfl⟩) (fun _ => ?_)
                simp only [Act.put, List.setIfInBounds_toArray, List.set_cons_zero, List.set_cons_succ]
                refine wpAnyL_pure (i := 13) (v := undef) (by simp only [List.getElem?_toArray, List.getElem?_cons_zero, List.getElem?_cons_succ] <;> rfl) (by kernel_rfl) (by kernel_rfl) (by kernel_rfl) (by exact fun _ _ _ h => h) (by decide) (.inr trivial) (Or.inr ⟨by rfl, rfl⟩) (fun _ => ?_)
                simp only [Act.put, List.setIfInBounds_toArray, List.set_cons_zero, List.set_cons_succ]
                refine wpAnyL_pure (i := 14) (v := undef) (by simp only [List.getElem?_toArray, List.getElem?_cons_zero, List.getElem?_cons_succ] <;> rfl) (by kernel_rfl) (by kernel_rfl) (by kernel_rfl) (by exact fun _ _ _ h => h) (by decide) (.inr trivial) (Or.inr ⟨by rfl, rfl⟩) (fun _ => ?_)
                simp only [Act.put, List.setIfInBounds_toArray, List.set_cons_zero, List.set_cons_succ]
                refine wpAnyL_pure (i := 15) (v := undef) (by simp only [List.getElem?_toArray, List.getElem?_cons_zero, List.getElem?_cons_succ] <;> rfl) (by kernel_rfl) (by kernel_rfl) (by kernel_rfl) (by exact fun _ _ _ h => h) (by decide) (.inr trivial) (Or.inr ⟨by rfl, rfl⟩) (fun _ => ?_)
                simp only [Act.put, List.setIfInBounds_toArray, List.set_cons_zero, List.set_cons_succ]
                refine wpAnyL_pure (i := 16) (v := undef) (by simp only [List.getElem?_toArray, List.getElem?_cons_zero, List.getElem?_cons_succ] <;> rfl) (by kernel_rfl) (by kernel_rfl) (by kernel_rfl) (by exact fun _ _ _ h => h) (by decide) (.inr trivial) (Or.inr ⟨by rfl, rfl⟩) (fun _ => ?_)
                simp only [Act.put, List.setIfInBounds_toArray, List.set_cons_zero, List.set_cons_succ]
                refine wpAnyL_pure (i := 17) (v := undef) (by simp only [List.getElem?_toArray, List.getElem?_cons_zero, List.getElem?_cons_succ] <;> rfl) (by kernel_rfl) (by kernel_rfl) (by kernel_rfl) (by exact fun _ _ _ h => h) (by decide) (.inr trivial) (Or.inr ⟨by rfl, rfl⟩) (fun _ => ?_)
                simp only [Act.put, List.setIfInBounds_toArray, List.set_cons_zero, List.set_cons_succ]
                refine wpAnyL_pure (i := 18) (v := undef) (by simp only [List.getElem?_toArray, List.getElem?_cons_zero, List.getElem?_cons_succ] <;> rfl) (by kernel_rfl) (by kernel_rfl) (by kernel_rfl) (by exact fun _ _ _ h => h) (by decide) (.inr trivial) (Or.inr ⟨by rfl, rfl⟩) (fun _ => ?_)
                simp only [Act.put, List.setIfInBounds_toArray, List.set_cons_zero, List.set_cons_succ]
                refine wpAnyL_pure (i := 19) (v := .bool false) (by simp only [List.getElem?_toArray, List.getElem?_cons_zero, List.getElem?_cons_succ] <;> rfl) (by kernel_rfl) (by kernel_rfl) (by kernel_rfl) (by exact fun _ _ _ h => h) (by decide) (.inr trivial) (Or.inl ⟨by rfl, fun w _ => (by simp [execOp, go_sem, Act.eval])⟩) (fun _ => ?_)
                simp only [Act.put, List.setIfInBounds_toArray, List.set_cons_zero, List.set_cons_succ]
                refine wpAnyL_pure (i := 20) (v := .bool false) (by simp only [List.getElem?_toArray, List.getElem?_cons_zero, List.getElem?_cons_succ] <;> rfl) (by kernel_rfl) (by kernel_rfl) (by kernel_rfl) (by exact fun _ _ _ h => h) (by decide) (.inr trivial) (Or.inl ⟨by rfl, fun w _ => (by simp [execOp, go_sem, Act.eval])⟩) (fun _ => ?_)
                simp only [Act.put, List.setIfInBounds_toArray, List.set_cons_zero, List.set_cons_succ]
                refine wpAnyL_pure (i := 21) (v := undef) (by simp only [List.getElem?_toArray, List.getElem?_cons_zero, List.getElem?_cons_succ] <;> rfl) (by kernel_rfl) (by kernel_rfl) (by kernel_rfl) (by exact fun _ _ _ h => h) (by decide) (.inr trivial) (Or.inr ⟨by rfl, rfl⟩) (fun _ => ?_)
                simp only [Act.put, List.setIfInBounds_toArray, List.set_cons_zero, List.set_cons_succ]
                refine wpAnyL_pure (i := 22) (v := undef) (by simp only [List.getElem?_toArray, List.getElem?_cons_zero, List.getElem?_cons_succ] <;> rfl) (by kernel_rfl) (by kernel_rfl) (by kernel_rfl) (by exact fun _ _ _ h => h) (by decide) (.inr trivial) (Or.inr ⟨by rfl, rfl⟩) (fun _ => ?_)
                simp only [Act.put, List.setIfInBounds_toArray, List.set_cons_zero, List.set_cons_succ]
                refine wpAnyL_pure (i := 23) (v := undef) (by simp only [List.getElem?_toArray, List.getElem?_cons_zero, List.getElem?_cons_succ] <;> rfl) (by kernel_rfl) (by kernel_rfl) (by kernel_rfl) (by exact fun _ _ _ h => h) (by decide) (.inr trivial) (Or.inr ⟨by rfl, rfl⟩) (fun _ => ?_)
                simp only [Act.put, List.setIfInBounds_toArray, List.set_cons_zero, List.set_cons_succ]
                refine wpAnyL_pure (i := 24) (v := undef) (by simp only [List.getElem?_toArray, List.getElem?_cons_zero, List.getElem?_cons_succ] <;> rfl) (by kernel_rfl) (by kernel_rfl) (by kernel_rfl) (by exact fun _ _ _ h => h) (by decide) (.inr trivial) (Or.inr ⟨by rfl, rfl⟩) (fun _ => ?_)
                simp only [Act.put, List.setIfInBounds_toArray, List.set_cons_zero, List.set_cons_succ]
                refine wpAnyL_pure (i := 25) (v := undef) (by simp only [List.getElem?_toArray, List.getElem?_cons_zero, List.getElem?_cons_succ] <;> rfl) (by kernel_rfl) (by kernel_rfl) (by kernel_rfl) (by exact fun _ _ _ h => h) (by decide) (.inr trivial) (Or.inr ⟨by rfl, rfl⟩) (fun _ => ?_)
                simp only [Act.put, List.setIfInBounds_toArray, List.set_cons_zero, List.set_cons_succ]
                refine wpAnyL_pure (i := 26) (v := undef) (by simp only [List.getElem?_toArray, List.getElem?_cons_zero, List.getElem?_cons_succ] <;> rfl) (by kernel_rfl) (by kernel_rfl) (by kernel_rfl) (by exact fun _ _ _ h => h) (by decide) (.inr trivial) (Or.inr ⟨by rfl, rfl⟩) (fun _ => ?_)
                simp only [Act.put, List.setIfInBounds_toArray, List.set_cons_zero, List.set_cons_succ]
                refine wpAnyL_pure (i := 27) (v := undef) (by simp only [List.getElem?_toArray, List.getElem?_cons_zero, List.getElem?_cons_succ] <;> rfl) (by kernel_rfl) (by kernel_rfl) (by kernel_rfl) (by exact fun _ _ _ h => h) (by decide) (.inr trivial) (Or.inr ⟨by rfl, rfl⟩) (fun _ => ?_)
                simp only [Act.put, List.setIfInBounds_toArray, List.set_cons_zero, List.set_cons_succ]
                refine wpAnyL_pure (i := 28) (v := undef) (by simp only [List.getElem?_toArray, List.getElem?_cons_zero, List.getElem?_cons_succ] <;> rfl) (by kernel_rfl) (by kernel_rfl) (by kernel_rfl) (by exact fun _ _ _ h => h) (by decide) (.inr trivial) (Or.inr ⟨by rfl, rfl⟩) (fun _ => ?_)
                simp only [Act.put, List.setIfInBounds_toArray, List.set_cons_zero, List.set_cons_succ]
                refine wpAnyL_pure (i := 29) (v := undef) (by simp only [List.getElem?_toArray, List.getElem?_cons_zero, List.getElem?_cons_succ] <;> rfl) (by kernel_rfl) (by kernel_rfl) (by kernel_rfl) (by exact fun _ _ _ h => h) (by decide) (.inr trivial) (Or.inr ⟨by rfl, rfl⟩) (fun _ => ?_)
                simp only [Act.put, List.setIfInBounds_toArray, List.set_cons_zero, List.set_cons_succ]
                refine wpAnyL_one (i := 30) (by kernel_rfl) (by simp only [List.getElem?_toArray, List.getElem?_cons_zero, List.getElem?_cons_succ] <;> rfl) (by rfl) ?_
                refine opwp_value (v := .bool false) (w' := wr.drew) (by simp [execOp, go_sem, Act.eval]) ⟨.inl (by kernel_rfl), ?_⟩
                simp only [Act.put, List.setIfInBounds_toArray, List.set_cons_zero, List.set_cons_succ]
                refine wpAnyL_done (by kernel_rfl) ?_ _
                have HM3 := hid (HM.out.below (Below.refl _ wr).drew)
                clear HM
                go_wp2_with fail
                go_roundw
                case rel => exact ⟨k + 1, by omega, by go_num, by rw [HST.out, HS.out]; exact HM3.out⟩
                case measure => simp [intOf]; omega
            · obtain rfl : k = B.length := by omega
              have HM3 := hid hmem
              clear hmem
              go_wp2_with fail
              go_roundw
              case rel => exact ⟨r + 1, by omega, by go_num, by rw [HRS.out]; exact HM3.out⟩
              case measure => simp [intOf]; omega
        · obtain rfl : r = B.length := by omega
          have HM2 := hid hmem
          have HDI := hid (dry_iff (v := v) HF.out)
          have hlr := runs_length (B := B) (U := U) (v := v) B.length
          generalize runs B U v B.length = F at *
          clear hmem
          go_wp2_with fail
          clear c0 c1
          go_loopw [11] (fun i wr => ∃ k : Nat, k ≤ B.length ∧ i = .int .i64 k ∧ Hid (dryTo B v F k) ∧ ConnMem w wr g (.slice p B.length c) (.slice q U.length d) F) (fun i _ => B.length - (intOf i).toNat)
          case atStart => exact ⟨0, Nat.zero_le _, rfl, fun i h => by omega, HM2.out⟩
          case round =>
            obtain ⟨k, hk, rfl, hdry, hmem⟩ := hrel
            obtain ⟨c0, c1, _, _⟩ := hmem.bx.cells
            by_cases hkl : k < B.length
            · obtain ⟨b1, o1, c', e1, l1⟩ := (HX.out _ hmem.B).form (by omega)
              injection e1 with e1 _ e2
              subst e1; subst e2
              obtain ⟨s, hs, q0, q1⟩ := (HX.out _ hmem.B).get k hkl
              have HGS := hid ((gOf_nat B k hkl).trans hs)
              have zk : (0 : Int) ≤ (k : Int) ∧ (k : Int) < (B.length : Int) := by omega
              have HDS := hid (show (has s v = true → wet F k = true) → dryTo B v F (k + 1) from fun h i hi h2 => by
                by_cases e : i = k
                · subst e; exact h (by rw [← HGS.out]; exact h2)
                · exact hdry.out i (by omega) h2)
              have HNO := hid (show has s v = true → wet F k = false → ¬ Uniq B U v from fun h1 h2 hu => by
                have := HDI.out.2 hu k hkl (by rw [HGS.out]; exact h1)
                rw [h2] at this; cases this)
              have HH := hid (rHas_c s v wr)
              have HM := hid hmem
              clear hs hmem
              go_wp2_with fail
              refine HH.out.mono ?_
              rintro e w2 ⟨rfl, hb2⟩
              have HM3 := hid (HM.out.below hb2)
              clear hb2 c0 c1 q0 q1 HH HM
              cases hh : has s v
              · have HD := hid (HDS.out (by rw [hh]; simp))
                clear hh
                go_wp2_with fail
                go_roundw
                case rel => exact ⟨k + 1, by omega, by go_num, HD.out, HM3.out⟩
                case measure => simp [intOf]; omega
              · obtain ⟨y0, y1⟩ := HM3.out.row.at k (by omega)
                have HHH := hid hh
                clear hh
                cases hw : wet F k
                · have HN := hid (HNO.out HHH.out hw)
                  rw [hw] at y0
                  clear hw
                  go_wp2_with fail
                  go_ret
                  exact ⟨false, rfl, by simp [HN.out], HM3.out.B⟩
                · have HD := hid (HDS.out (fun _ => hw))
                  rw [hw] at y0
                  clear hw
                  go_wp2_with fail
                  go_roundw
                  case rel => exact ⟨k + 1, by omega, by go_num, HD.out, HM3.out⟩
                  case measure => simp [intOf]; omega
            · obtain rfl : k = B.length := by omega
              have HU := hid (HDI.out.1 hdry.out)
              go_wp2_with fail
              go_ret
              exact ⟨true, rfl, by simp [HU.out], hmem.B⟩
end Go.Proofs.YtmlecpapoeodkaaDoor
