/- Walks: the variables below the nodes of a net. -/
import Derived.Test.YtpdbfbjfodckgaaDoorHMem
namespace Go.Proofs.YtpdbfbjfodckgaaDoor
open Go.RowKit

theorem Box3.other {w : World} {b : Nat} {T : TypeId} {x y z : Value} (h : Box3 w b T x y z) {a : Addr} (ha : b ≠ a.block) (v : Value) : Box3 (w.setCell a v) b T x y z := h.same (Below.heap_setCell _ _ _ _ ha)
theorem grownBy_set2 (w : World) (g i j : Nat) (x y : Value) : w.grownBy ((w.setCell ⟨g, i, none⟩ x).setCell ⟨g, j, none⟩ y) (some g) :=
  ⟨rfl, rfl, rfl, by simp [World.setCell], fun k _ hne => by
    rw [Below.heap_setCell _ _ _ _ (by intro e; exact hne (by rw [e])), Below.heap_setCell _ _ _ _ (by intro e; exact hne (by rw [e]))]⟩
/-- What node.Vars returns of a valid net. -/
def VarsPost (L : List NodeT) (w : World) (e : Ending) (w' : World) : Prop := ∃ g, e = .returned (.slice (some ⟨g, 0, none⟩) L.length L.length) ∧ w.heap.size ≤ g ∧ SetRow w' g (vsOf L) ∧ Below w.heap.size w w'
set_option maxRecDepth 100000 in
set_option maxHeartbeats 4000000 in
theorem Vars_c (n : Int) (L : List NodeT) (v : Value) (w : World) (hN : NodesAt w v L) (hv : validNet ⟨n, L⟩ = true) :
    Calls Tryd.prog 35 #[.agg #[.int .i64 n, v]] w (VarsPost L w) := by
  obtain ⟨⟨r1, r2, r3, r4⟩, hft⟩ := (validNet_iff _).1 hv
  simp only at r1 r2 r3 r4 hft
  have hB1 : Below w.heap.size w (w.alloc (.cells #[.int .i64 n, v] 24)) := (Below.refl _ w).alloc (Nat.le_refl _) _
  have hCK := Check_c n L v _ (hN.below hB1)
  rw [checkNo_t hv] at hCK
  have HCK := hid hCK
  obtain ⟨p, c, rfl, h⟩ := hN
  obtain ⟨b, off, rfl, hN⟩ := h.resolve_left (by intro e; rw [e] at r3; simp at r3)
  have hx := NetVar.new w n (.slice (some ⟨b, off, none⟩) L.length c) 24
  obtain ⟨x0, x1⟩ := hx
  have HN := hid hN
  have HFT := hid hft
  have HX := hid (NetVar.new w n (.slice (some ⟨b, off, none⟩) L.length c) 24)
  have HB1 := hid hB1
  have hmk := fun w' => make_sets w' L.length (by omega) (L.length : Int) (L.length : Int) rfl rfl
  clear hCK hN h hv hft hB1
  go_enter Tryd.func35, Tryd.ntmps35
  go_wp2_with fail
  refine HCK.out.mono ?_
  rintro e w2 ⟨rfl, hb2⟩
  obtain ⟨y0, y1⟩ := HX.out.below hb2
  have hB2 := HB1.out.trans (hb2.mono HB1.out.size)
  have hrow := SetRow.made w2 L.length
  have hal : Below w2.heap.size w2 (w2.alloc (.cells (madeCells #[.int .u64 ((lw 0#128).toNat : Int), .int .u64 ((hw 0#128).toNat : Int)] (L.length * 2)) 42)) := (Below.refl _ w2).alloc (Nat.le_refl _) _
  obtain ⟨z0, z1⟩ := (HX.out.below hb2).below hal
  have HR0 := hid (show SetRow (w2.alloc (.cells (madeCells #[.int .u64 ((lw 0#128).toNat : Int), .int .u64 ((hw 0#128).toNat : Int)] (L.length * 2)) 42)) w2.heap.size (vsOf (L.take 0) ++ List.replicate (L.length - 0) 0) from hrow)
  have HAL := hid hal
  have HB2 := hid hB2
  clear x0 x1 hb2 hB2 hrow hal HCK HX HB1
  go_wp2_with fail
  generalize w2.alloc (.cells (madeCells #[.int .u64 ((lw 0#128).toNat : Int), .int .u64 ((hw 0#128).toNat : Int)] (L.length * 2)) 42) = w3 at *
  obtain ⟨g, hg⟩ : ∃ g, g = w2.heap.size := ⟨_, rfl⟩
  rw [← hg] at HR0 ⊢
  have HG := hid hg
  clear y0 y1 z0 z1 hmk hg
  go_loopw [18] (fun z wr => ∃ (k : Nat), k ≤ L.length ∧ z = .int .i64 k ∧ Hid (SetRow wr g (vsOf (L.take k) ++ List.replicate (L.length - k) 0)) ∧ Hid (Below w2.heap.size w2 wr)) (fun z _ => L.length - (intOf z).toNat)
  case atStart => exact ⟨0, Nat.zero_le _, rfl, HR0.out, HAL.out⟩
  case round =>
    clear HR0 HAL
    obtain ⟨k, hk, rfl, hrow, hbr⟩ := hrel
    by_cases hkl : k < L.length
    · obtain ⟨u, hu⟩ := HN.out k hkl
      have hu2 := hu.below HB2.out
      have hur := hu2.below hbr.out
      have d0 := hur.kind
      have d1 := hur.lit
      have d2 := hur.ins
      have HU := hid hu2
      have HIN := hid (ins_lt HFT.out hkl)
      have hle := hur.len
      have HRV := hid (show SetRow wr g (rowV L k 0) from by rw [← rowV_start hkl]; exact hrow.out)
      have HNX := hid (fun s hs => rowV_next hkl (s := s) hs)
      have zk : (0 : Int) ≤ (k : Int) ∧ (k : Int) < (L.length : Int) := by omega
      have hlg := hrow.out.lt
      have HLW := hid (show w2.heap.size ≤ g from by rw [HG.out]; exact Nat.le_refl _)
      clear hu hu2 hur hrow
      generalize hxx : L[k] = x at *
      obtain ⟨xk, xl, xi⟩ := x
      obtain ⟨p2, c2, e2, hdrop⟩ := HU.out.ints
      subst e2
      clear hdrop hxx
      have b3 := Box3.new wr 39 (.int .i64 xk) (.int .i64 xl) (.slice p2 xi.length c2)
      have HO := hid (Of_c _ [litVar xl] ((wr.alloc (.cells #[.int .i64 xk, .int .i64 xl, .slice p2 xi.length c2] 39)).alloc (.cells #[.int .i64 (litVar xl)] 3)) (one_int _ (litVar xl) 3) (by show 1 ≤ _; omega))
      rw [World.size_alloc] at HO
      have hba : Below wr.heap.size wr ((wr.alloc (.cells #[.int .i64 xk, .int .i64 xl, .slice p2 xi.length c2] 39)).alloc (.cells #[.int .i64 (litVar xl)] 3)) := ((Below.refl _ wr).alloc (Nat.le_refl _) _).alloc (by simp) _
      have HBA := hid hba
      have HBX := hid (((Below.refl _ (wr.alloc (.cells #[.int .i64 xk, .int .i64 xl, .slice p2 xi.length c2] 39))).alloc (Nat.le_refl _) (.cells #[.int .i64 (litVar xl)] 3)))
      have HB3 := hid b3
      have HBR := hid hbr.out
      have hlv := litVar_range xl
      clear hba b3 hbr
      go_wp2_with (go_at_call 56; refine (litVar_c _ _).mono ?_; rintro e w1 ⟨rfl, rfl⟩)
      refine HO.out.mono ?_
      rintro e w5 ⟨rfl, hb5⟩
      have hB5 := HBA.out.trans (hb5.mono (by simp; omega))
      have hB56 := hB5.mono (Nat.le_refl _)
      have hlg5 := hlg
      have q3 := (HB3.out.below HBX.out (by simp)).below hb5 (by simp; omega)
      have hro5 := HRV.out.below hB5 hlg
      obtain ⟨t, ht, y0, y1, y2, y3⟩ := hro5.getS k (by rw [rowV_length _ hkl]; exact hkl)
      have hne : g ≠ wr.heap.size := by omega
      have q6 := ((q3.other (a := ⟨g, k * 2, none⟩) (fun e => hne e.symm) (.int .u64 ((lw (ofL [litVar xl])).toNat : Int))).other (a := ⟨g, k * 2 + 1, none⟩) (fun e => hne e.symm) (.int .u64 ((hw (ofL [litVar xl])).toNat : Int))).cells.2.2
      have hro6 := hro5.store k (by rw [rowV_length _ hkl]; exact hkl) (ofL [litVar xl])
      rw [rowV_set _ _ hkl] at hro6
      have hbr6 := (HBR.out.trans (hB5.mono HBR.out.size)).grown (grownBy_set2 w5 g (k * 2) (k * 2 + 1) (.int .u64 ((lw (ofL [litVar xl])).toNat : Int)) (.int .u64 ((hw (ofL [litVar xl])).toNat : Int))) (by have := HBR.out.size; have := hB5.size; omega) (by intro k e; have e2 := Option.some.inj e; have := HLW.out; omega)
      have HR6 := hid hro6
      have HB6 := hid hbr6
      clear hB5 hB56 hlg5 q3 hro5 ht hne hro6 hbr6 HBA HRV HBR hb5 hlg
      go_wp2_with fail
      generalize (w5.setCell ⟨g, k * 2, none⟩ (.int .u64 ((lw (ofL [litVar xl])).toNat : Int))).setCell ⟨g, k * 2 + 1, none⟩ (.int .u64 ((hw (ofL [litVar xl])).toNat : Int)) = w6 at *
      clear y0 y1 y2 y3 q6
      obtain ⟨wo, hwo⟩ : ∃ wo : World, wo = wr := ⟨_, rfl⟩
      subst hwo
      go_loopw [34] (fun z wq => ∃ (j : Nat), j ≤ xi.length ∧ z = .int .i64 j ∧ Hid (SetRow wq g (rowV L k (orIns (vsOf (L.take k)) (ofL [litVar xl]) (xi.take j)))) ∧ Hid (Below w2.heap.size w2 wq)) (fun z _ => xi.length - (intOf z).toNat)
      case atStart => exact ⟨0, Nat.zero_le _, rfl, HR6.out, HB6.out⟩
      case round =>
        clear HR6 HB6
        obtain ⟨j, hj, rfl, hrow, hbr⟩ := hrel
        by_cases hjl : j < xi.length
        · obtain ⟨p3, c3, e3, h3⟩ := show IntsAt wr (.slice p2 xi.length c2) xi from (HU.out.below hbr.out).ints
          injection e3 with e1 _ e2
          subst e1; subst e2
          obtain ⟨b2, o2, rfl, hc⟩ := h3.resolve_left (by intro e; rw [e] at hjl; simp at hjl)
          have hcj := hc j hjl
          rw [List.getElem?_eq_getElem hjl, Option.getD_some] at hcj
          have hin := HIN.out _ (List.getElem_mem hjl)
          have HOR := hid (orIns_snoc (vsOf (L.take k)) (ofL [litVar xl]) (xi.take j) xi[j])
          rw [← List.take_succ_eq_append_getElem hjl] at HOR
          obtain ⟨u, hu⟩ : ∃ u : Nat, xi[j] = (u : Int) := ⟨xi[j].toNat, by omega⟩
          rw [hu] at hcj hin HOR
          have zj : (0 : Int) ≤ (j : Int) ∧ (j : Int) < (xi.length : Int) := by omega
          have zu : (0 : Int) ≤ (u : Int) ∧ (u : Int) < (L.length : Int) := by omega
          have hul : u < L.length := by omega
          obtain ⟨s1, hs1⟩ : ∃ s1, s1 = orIns (vsOf (L.take k)) (ofL [litVar xl]) (xi.take j) := ⟨_, rfl⟩
          rw [← hs1] at hrow HOR
          obtain ⟨t, ht, y0, y1, _, _⟩ := hrow.out.getS u (by rw [rowV_length _ hkl]; exact hul)
          obtain ⟨t', ht', z0, z1, _, _⟩ := hrow.out.getS k (by rw [rowV_length _ hkl]; exact hkl)
          rw [rowV_at _ hkl] at ht'
          subst ht'
          rw [rowV_low _ hkl _ (by omega)] at ht
          rw [ht] at HOR
          have RT : Hid (wr.drew.cell? ⟨g, u * 2, none⟩ = some (.int .u64 ((lw t).toNat : Int)) ∧ wr.drew.cell? ⟨g, u * 2 + 1, none⟩ = some (.int .u64 ((hw t).toNat : Int))) := ⟨y0, y1⟩
          have RK : Hid (wr.drew.cell? ⟨g, k * 2, none⟩ = some (.int .u64 ((lw s1).toNat : Int)) ∧ wr.drew.cell? ⟨g, k * 2 + 1, none⟩ = some (.int .u64 ((hw s1).toNat : Int))) := ⟨z0, z1⟩
          have HRW := hid hrow.out
          have HBQ := hid hbr.out
          clear h3 hc hin hu hs1 y0 y1 z0 z1 ht hrow hbr
          go_wp2_with fail
          refine Go.Proofs.YtpdbfbjfodckgaaDoor.wp_region_L 13 10 (fun w' => (w'.cell? ⟨g, u * 2, none⟩ = some (.int .u64 ((lw (t)).toNat : Int)) ∧ w'.cell? ⟨g, u * 2 + 1, none⟩ = some (.int .u64 ((hw (t)).toNat : Int))) ∧ (w'.cell? ⟨g, k * 2, none⟩ = some (.int .u64 ((lw (s1)).toNat : Int)) ∧ w'.cell? ⟨g, k * 2 + 1, none⟩ = some (.int .u64 ((hw (s1)).toNat : Int)))) (by kernel_rfl) rfl ⟨RT.out, RK.out⟩ (fun _ => ?_)
          refine wpAnyL_pure (i := 0) (v := .slice (some ⟨g, 0, none⟩) L.length L.length) (by simp only [List.getElem?_toArray, List.getElem?_cons_zero] <;> rfl) (by kernel_rfl) (by kernel_rfl) (by kernel_rfl) (by exact fun _ _ _ h => h) (by decide) (.inr ⟨RT.out, RK.out⟩) (Or.inl ⟨by rfl, fun w _ => (by simp [execOp, go_sem, Act.eval])⟩) (fun _ => ?_)
          simp only [Act.put, List.setIfInBounds_toArray, List.set_cons_zero, List.set_cons_succ]
          refine wpAnyL_pure (i := 1) (v := .int .i64 (k : Int)) (by simp only [List.getElem?_toArray, List.getElem?_cons_zero, List.getElem?_cons_succ] <;> rfl) (by kernel_rfl) (by kernel_rfl) (by kernel_rfl) (by exact fun _ _ _ h => h) (by decide) (.inr ⟨RT.out, RK.out⟩) (Or.inl ⟨by rfl, fun w _ => (by simp [execOp, go_sem, Act.eval])⟩) (fun _ => ?_)
          simp only [Act.put, List.setIfInBounds_toArray, List.set_cons_zero, List.set_cons_succ]
          refine wpAnyL_pure (i := 2) (v := .slice (some ⟨g, 0, none⟩) L.length L.length) (by simp only [List.getElem?_toArray, List.getElem?_cons_zero, List.getElem?_cons_succ] <;> rfl) (by kernel_rfl) (by kernel_rfl) (by kernel_rfl) (by exact fun _ _ _ h => h) (by decide) (.inr ⟨RT.out, RK.out⟩) (Or.inl ⟨by rfl, fun w _ => (by simp [execOp, go_sem, Act.eval])⟩) (fun _ => ?_)
          simp only [Act.put, List.setIfInBounds_toArray, List.set_cons_zero, List.set_cons_succ]
          refine wpAnyL_pure (i := 3) (v := .int .i64 (k : Int)) (by simp only [List.getElem?_toArray, List.getElem?_cons_zero, List.getElem?_cons_succ] <;> rfl) (by kernel_rfl) (by kernel_rfl) (by kernel_rfl) (by exact fun _ _ _ h => h) (by decide) (.inr ⟨RT.out, RK.out⟩) (Or.inl ⟨by rfl, fun w _ => (by simp [execOp, go_sem, Act.eval])⟩) (fun _ => ?_)
          simp only [Act.put, List.setIfInBounds_toArray, List.set_cons_zero, List.set_cons_succ]
          refine wpAnyL_pure (i := 4) (v := .pointer (some ⟨g, k * 2, none⟩)) (by simp only [List.getElem?_toArray, List.getElem?_cons_zero, List.getElem?_cons_succ] <;> rfl) (by kernel_rfl) (by kernel_rfl) (by kernel_rfl) (by exact fun _ _ _ h => h) (by decide) (.inr ⟨RT.out, RK.out⟩) (Or.inl ⟨by rfl, fun w _ => (by simp [execOp, go_sem, Act.eval, zk])⟩) (fun _ => ?_)
          simp only [Act.put, List.setIfInBounds_toArray, List.set_cons_zero, List.set_cons_succ]
          refine wpAnyL_load2 (i := 5) (v := encS (s1)) (by simp only [List.getElem?_toArray, List.getElem?_cons_zero, List.getElem?_cons_succ] <;> rfl) (by kernel_rfl) (by kernel_rfl) (by kernel_rfl) (by exact fun _ _ _ h => h) (by decide) (Waits.one rfl ⟨⟨5, .data⟩, by simp, rfl, rfl⟩) (by kernel_rfl) (by kernel_rfl) (.inr ⟨RT.out, RK.out⟩) (Or.inl ⟨by rfl, fun w hw => (by obtain ⟨_, ⟨y1, z1⟩⟩ := hw; simp [execOp, go_sem, Act.eval, y1, z1])⟩) (fun _ => ?_)
          simp only [Act.put, List.setIfInBounds_toArray, List.set_cons_zero, List.set_cons_succ]
          refine wpAnyL_pure (i := 6) (v := .slice (some ⟨g, 0, none⟩) L.length L.length) (by simp only [List.getElem?_toArray, List.getElem?_cons_zero, List.getElem?_cons_succ] <;> rfl) (by kernel_rfl) (by kernel_rfl) (by kernel_rfl) (by exact fun _ _ _ h => h) (by decide) (.inr ⟨RT.out, RK.out⟩) (Or.inl ⟨by rfl, fun w _ => (by simp [execOp, go_sem, Act.eval])⟩) (fun _ => ?_)
          simp only [Act.put, List.setIfInBounds_toArray, List.set_cons_zero, List.set_cons_succ]
          refine wpAnyL_pure (i := 7) (v := .int .i64 (u : Int)) (by simp only [List.getElem?_toArray, List.getElem?_cons_zero, List.getElem?_cons_succ] <;> rfl) (by kernel_rfl) (by kernel_rfl) (by kernel_rfl) (by exact fun _ _ _ h => h) (by decide) (.inr ⟨RT.out, RK.out⟩) (Or.inl ⟨by rfl, fun w _ => (by simp [execOp, go_sem, Act.eval])⟩) (fun _ => ?_)
          simp only [Act.put, List.setIfInBounds_toArray, List.set_cons_zero, List.set_cons_succ]
          refine wpAnyL_pure (i := 8) (v := .pointer (some ⟨g, u * 2, none⟩)) (by simp only [List.getElem?_toArray, List.getElem?_cons_zero, List.getElem?_cons_succ] <;> rfl) (by kernel_rfl) (by kernel_rfl) (by kernel_rfl) (by exact fun _ _ _ h => h) (by decide) (.inr ⟨RT.out, RK.out⟩) (Or.inl ⟨by rfl, fun w _ => (by simp [execOp, go_sem, Act.eval, zu])⟩) (fun _ => ?_)
          simp only [Act.put, List.setIfInBounds_toArray, List.set_cons_zero, List.set_cons_succ]
          refine wpAnyL_load2 (i := 9) (v := encS (t)) (by simp only [List.getElem?_toArray, List.getElem?_cons_zero, List.getElem?_cons_succ] <;> rfl) (by kernel_rfl) (by kernel_rfl) (by kernel_rfl) (by exact fun _ _ _ h => h) (by decide) (Waits.one rfl ⟨⟨9, .data⟩, by simp, rfl, rfl⟩) (by kernel_rfl) (by kernel_rfl) (.inr ⟨RT.out, RK.out⟩) (Or.inl ⟨by rfl, fun w hw => (by obtain ⟨⟨y0, z0⟩, _⟩ := hw; simp [execOp, go_sem, Act.eval, y0, z0])⟩) (fun _ => ?_)
          simp only [Act.put, List.setIfInBounds_toArray, List.set_cons_zero, List.set_cons_succ]
          refine wpAnyL_one (i := 10) (by kernel_rfl) (by simp only [List.getElem?_toArray, List.getElem?_cons_zero, List.getElem?_cons_succ] <;> rfl) (by rfl) ?_
          refine opwp_call (f := 46) (args := #[encS (s1), encS (t)]) (w' := wr.drew) (by simp [go_sem, Act.eval]) ?_
          refine (Union_c s1 t wr.drew).mono ?_
          rintro e w7 ⟨rfl, hb6⟩
          refine .inl ⟨_, rfl, .inl (by kernel_rfl), ?_⟩
          simp only [Act.put, List.setIfInBounds_toArray, List.set_cons_zero, List.set_cons_succ]
          refine wpAnyL_pure (i := 11) (v := .pointer (some ⟨g, k * 2, none⟩)) (by simp only [List.getElem?_toArray, List.getElem?_cons_zero, List.getElem?_cons_succ] <;> rfl) (by kernel_rfl) (by kernel_rfl) (by kernel_rfl) (by exact fun _ _ _ h => h) (by decide) (.inl (by kernel_rfl)) (Or.inl ⟨by rfl, fun w _ => (by simp [execOp, go_sem, Act.eval, zk])⟩) (fun _ => ?_)
          simp only [Act.put, List.setIfInBounds_toArray, List.set_cons_zero, List.set_cons_succ]
          have hro7 := HRW.out.same ((((Below.refl _ wr).drew.trans hb6)).block g HRW.out.lt)
          obtain ⟨t2, ht2, y0, y1, y2, y3⟩ := hro7.getS k (by rw [rowV_length _ hkl]; exact hkl)
          refine wpAnyL_one (i := 12) (by kernel_rfl) (by simp only [List.getElem?_toArray, List.getElem?_cons_zero, List.getElem?_cons_succ] <;> rfl) (by rfl) ?_
          refine opwp_skip (w' := ((w7.setCell ⟨g, k * 2, none⟩ (.int .u64 ((lw (s1 ||| t)).toNat : Int))).setCell ⟨g, k * 2 + 1, none⟩ (.int .u64 ((hw (s1 ||| t)).toNat : Int)))) (by simp [execOp, go_sem, Act.eval, y0, y1, y2, y3]) ⟨.inl (by kernel_rfl), ?_⟩
          simp only [Act.put]
          refine wpAnyL_done (by kernel_rfl) ?_ _
          have HR2 := hid (hro7.store k (by rw [rowV_length _ hkl]; exact hkl) (s1 ||| t))
          have HR3 := hid (show SetRow _ g (rowV L k (s1 ||| t)) from by rw [← rowV_set s1 _ hkl]; exact HR2.out)
          have hb7 := (Below.refl wr.heap.size wr).drew.trans hb6
          have HG2 := hid ((HBQ.out.trans (hb7.mono HBQ.out.size)).grown (grownBy_set2 w7 g (k * 2) (k * 2 + 1) (.int .u64 ((lw (s1 ||| t)).toNat : Int)) (.int .u64 ((hw (s1 ||| t)).toNat : Int))) (by have := HBQ.out.size; have := hb7.size; omega) (by intro k e; have e2 := Option.some.inj e; have := HLW.out; omega))
          clear hro7 y0 y1 y2 y3 hb6 ht2 hb7 HR2
          go_wp2_with fail
          go_roundw
          case rel => exact ⟨j + 1, by omega, by go_num, (by rw [HOR.out]; exact HR3.out), HG2.out⟩
          case measure => simp [intOf]; omega
        · obtain rfl : j = xi.length := by omega
          rw [List.take_length] at hrow
          have HN2 := HNX.out (orIns (vsOf (L.take k)) (ofL [litVar xl]) xi) rfl
          have HRW := hid (show SetRow wr g (vsOf (L.take (k + 1)) ++ List.replicate (L.length - (k + 1)) 0) from by rw [HN2]; exact hrow.out)
          have HBQ := hid hbr.out
          clear hrow hbr HN2 HNX HIN
          go_wp2_with fail
          go_roundw
          case rel => exact ⟨k + 1, by omega, by go_num, HRW.out, HBQ.out⟩
          case measure => simp [intOf]; omega
    · obtain rfl : k = L.length := by omega
      rw [List.take_length, Nat.sub_self, List.replicate_zero, List.append_nil] at hrow
      have HRW := hid hrow.out
      have HBQ := hid hbr.out
      clear hrow hbr
      go_wp2_with fail
      go_ret
      refine ⟨g, rfl, ?_, HRW.out, ?_⟩
      · have := HG.out; have := HB2.out.size; omega
      · exact HB2.out.trans (HBQ.out.mono HB2.out.size)
end Go.Proofs.YtpdbfbjfodckgaaDoor
