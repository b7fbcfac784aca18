/- Walks: which nets are smooth. -/
import Derived.Test.YtpdbfbjfodckgaaDoorHDec
namespace Go.Proofs.YtpdbfbjfodckgaaDoor
open Go.RowKit
attribute [local go_sem ↓] run_eqlS run_neqS run_eqlS0 run_neqS0

theorem smoothB_true {L : List NodeT} (h : ∀ k (hk : k < L.length), (L[k].kind != 4 || L[k].ins.all fun x => sOf (vsOf L) x == sOf (vsOf L) (k : Int)) = true) : smoothB L = true := by
  unfold smoothB
  rw [List.all_eq_true]
  intro k hk
  have hk2 := List.mem_range.1 hk
  rw [List.getD_eq_getElem?_getD, List.getElem?_eq_getElem hk2, Option.getD_some]
  exact h k hk2
theorem smoothB_false {L : List NodeT} {k : Nat} (hk : k < L.length) (h : (L[k].kind != 4 || L[k].ins.all fun x => sOf (vsOf L) x == sOf (vsOf L) (k : Int)) = false) : smoothB L = false := by
  cases e : smoothB L with
  | false => rfl
  | true =>
    unfold smoothB at e
    have := List.all_eq_true.1 e k (List.mem_range.2 hk)
    rw [List.getD_eq_getElem?_getD, List.getElem?_eq_getElem hk, Option.getD_some, h] at this
    cases this
set_option maxRecDepth 100000 in
set_option maxHeartbeats 4000000 in
theorem Smooth_c (n : Int) (L : List NodeT) (v : Value) (w : World) (hN : NodesAt w v L) :
    Calls Tryd.prog 17 #[.agg #[.int .i64 n, v]] w (DecPost (validNet ⟨n, L⟩ && smoothB L) w) := by
  have hB1 : Below w.heap.size w (w.alloc (.cells #[.int .i64 n, v] 24)) := (Below.refl _ w).alloc (Nat.le_refl _) _
  have hCK := Check_c n L v _ (hN.below hB1)
  cases hv : validNet ⟨n, L⟩ with
  | false =>
    unfold checkNo at hCK
    rw [hv, if_neg (by simp)] at hCK
    have HCK := hid hCK
    obtain ⟨x0, x1⟩ := NetVar.new w n v 24
    have HB1 := hid hB1
    clear hCK hB1 hN hv
    go_enter Tryd.func17, Tryd.ntmps17
    go_wp2_with fail
    refine HCK.out.mono ?_
    rintro e w2 ⟨rfl, hb2⟩
    go_wp2_with fail
    go_ret
    exact ⟨rfl, HB1.out.trans (hb2.mono HB1.out.size)⟩
  | true =>
  obtain ⟨⟨r1, r2, r3, r4⟩, hft⟩ := (validNet_iff _).1 hv
  simp only at r1 r2 r3 r4 hft
  rw [checkNo_t hv] at hCK
  have HCK := hid hCK
  have HNA := hid (hN.below hB1)
  obtain ⟨p, c, rfl, h⟩ := hN
  obtain ⟨b, off, rfl, hN⟩ := h.resolve_left (by intro e; rw [e] at r3; simp at r3)
  have HV := hid (fun w' (h : NodesAt w' (.slice (some ⟨b, off, none⟩) L.length c) L) => Vars_c n L _ w' h hv)
  have hx := NetVar.new w n (.slice (some ⟨b, off, none⟩) L.length c) 24
  obtain ⟨x0, x1⟩ := hx
  have HN := hid hN
  have HFT := hid hft
  have HX := hid (NetVar.new w n (.slice (some ⟨b, off, none⟩) L.length c) 24)
  have HB1 := hid hB1
  clear hCK hN h hv hft hB1
  go_enter Tryd.func17, Tryd.ntmps17
  go_wp2_with fail
  refine HCK.out.mono ?_
  rintro e w2 ⟨rfl, hb2⟩
  obtain ⟨y0, y1⟩ := HX.out.below hb2
  have HNA2 := hid (HNA.out.below hb2)
  have HX2 := hid (HX.out.below hb2)
  have HB2 := hid (HB1.out.trans (hb2.mono HB1.out.size))
  clear x0 x1 hb2 HCK HX HB1 HNA
  go_wp2_with fail
  refine (HV.out _ HNA2.out).mono ?_
  rintro e w3 ⟨g, rfl, hg, hrow, hb3⟩
  obtain ⟨z0, z1⟩ := HX2.out.below hb3
  have HB3 := hid (HB2.out.trans (hb3.mono HB2.out.size))
  have HR := hid hrow
  have hgl := hrow.lt
  clear y0 y1 hb3 hrow HX2 HB2 HNA2 HV
  go_wp2_with fail
  go_loopw [16] (fun z wr => ∃ (k : Nat), k ≤ L.length ∧ z = .int .i64 k ∧ Hid (∀ j (hj : j < L.length), j < k → (L[j].kind != 4 || L[j].ins.all fun x => sOf (vsOf L) x == sOf (vsOf L) (j : Int)) = true) ∧ Hid (Below w3.heap.size w3 wr)) (fun z _ => L.length - (intOf z).toNat)
  case atStart => exact ⟨0, Nat.zero_le _, rfl, fun j _ h => absurd h (Nat.not_lt_zero _), Below.refl _ _⟩
  case round =>
    obtain ⟨k, hk, rfl, hok, hbr⟩ := hrel
    by_cases hkl : k < L.length
    · obtain ⟨u, hu⟩ := HN.out k hkl
      have hbw := HB3.out.trans (hbr.out.mono HB3.out.size)
      have hur := hu.below hbw
      have d0 := hur.kind
      have d1 := hur.lit
      have d2 := hur.ins
      have HU := hid hur
      have HIN := hid (ins_lt HFT.out hkl)
      have hle := hur.len
      have zk : (0 : Int) ≤ (k : Int) ∧ (k : Int) < (L.length : Int) := by omega
      have HOK := hid (show (L[k].kind != 4 || L[k].ins.all fun x => sOf (vsOf L) x == sOf (vsOf L) (k : Int)) = true → ∀ j (hj : j < L.length), j < k + 1 → (L[j].kind != 4 || L[j].ins.all fun x => sOf (vsOf L) x == sOf (vsOf L) (j : Int)) = true from fun h j hj hlt => by
        by_cases e : j = k
        · subst e; exact h
        · exact hok.out j hj (by omega))
      have HNO := hid (show (L[k].kind != 4 || L[k].ins.all fun x => sOf (vsOf L) x == sOf (vsOf L) (k : Int)) = false → smoothB L = false from fun h => smoothB_false hkl h)
      have HBW := hid hbw
      have HBR := hid hbr.out
      clear hu hur hbw hok hbr
      generalize hxx : L[k] = x at *
      obtain ⟨xk, xl, xi⟩ := x
      obtain ⟨p2, c2, e2, hdrop⟩ := HU.out.ints
      subst e2
      clear hdrop hxx
      have b3 := Box3.new wr 39 (.int .i64 xk) (.int .i64 xl) (.slice p2 xi.length c2)
      by_cases h3 : xk = 4
      · subst h3
        have hgr : g < wr.heap.size := Nat.lt_of_lt_of_le hgl HBR.out.size
        have HAL := hid ((Below.refl _ wr).alloc (Nat.le_refl _) (.cells #[.int .i64 4, .int .i64 xl, .slice p2 xi.length c2] 39))
        obtain ⟨sk, hsk⟩ : ∃ sk, sk = sOf (vsOf L) (k : Int) := ⟨_, rfl⟩
        rw [← hsk] at HOK HNO
        go_wp2_with fail
        obtain ⟨wo, hwo⟩ : ∃ wo : World, wo = wr := ⟨_, rfl⟩
        subst hwo
        go_loopw [27] (fun z wr => ∃ (j : Nat), j ≤ xi.length ∧ z = .int .i64 j ∧ Hid (∀ i (hi : i < xi.length), i < j → (sOf (vsOf L) xi[i] == sk) = true) ∧ Hid (Below wo.heap.size wo wr)) (fun z _ => xi.length - (intOf z).toNat)
        case atStart => exact ⟨0, Nat.zero_le _, rfl, fun i _ h => absurd h (Nat.not_lt_zero _), HAL.out⟩
        case round =>
          clear HAL
          obtain ⟨j, hj, rfl, hdj, hbr⟩ := hrel
          by_cases hjl : j < xi.length
          · obtain ⟨p3, c3, e3, h3⟩ := show IntsAt wr (.slice p2 xi.length c2) xi from (HU.out.below hbr.out).ints
            injection e3 with e1 _ e2
            subst e1; subst e2
            obtain ⟨b2, o2, rfl, hc⟩ := h3.resolve_left (by intro e; rw [e] at hjl; simp at hjl)
            have hcj := hc j hjl
            rw [List.getElem?_eq_getElem hjl, Option.getD_some] at hcj
            have hin := HIN.out _ (List.getElem_mem hjl)
            have HDJ := hid (show (sOf (vsOf L) xi[j] == sk) = true → ∀ i (hi : i < xi.length), i < j + 1 → (sOf (vsOf L) xi[i] == sk) = true from fun h i hi hlt => by
              by_cases e : i = j
              · subst e; exact h
              · exact hdj.out i hi (by omega))
            have HBD := hid (fun h => HNO.out (show ((4 : Int) != 4 || xi.all fun x => sOf (vsOf L) x == sk) = false from by rw [all_not (k := j) hjl h]; rfl))
            obtain ⟨u, hu⟩ : ∃ u : Nat, xi[j] = (u : Int) := ⟨xi[j].toNat, by omega⟩
            rw [hu] at hcj hin HDJ HBD
            have zj : (0 : Int) ≤ (j : Int) ∧ (j : Int) < (xi.length : Int) := by omega
            have zu : (0 : Int) ≤ (u : Int) ∧ (u : Int) < (L.length : Int) := by omega
            have hul : u < L.length := by omega
            have hrr := (HR.out.below HBR.out hgl).below hbr.out hgr
            obtain ⟨t, ht, y0, y1, _, _⟩ := hrr.getS u (by rw [vsOf_length]; exact hul)
            obtain ⟨t', ht', z0, z1, _, _⟩ := hrr.getS k (by rw [vsOf_length]; exact hkl)
            rw [← hsk] at ht'
            subst ht'
            rw [ht] at HDJ HBD
            have HBQ := hid hbr.out
            have RT : Hid (wr.drew.cell? ⟨g, u * 2, none⟩ = some (.int .u64 ((lw t).toNat : Int)) ∧ wr.drew.cell? ⟨g, u * 2 + 1, none⟩ = some (.int .u64 ((hw t).toNat : Int))) := ⟨y0, y1⟩
            have RK : Hid (wr.drew.cell? ⟨g, k * 2, none⟩ = some (.int .u64 ((lw sk).toNat : Int)) ∧ wr.drew.cell? ⟨g, k * 2 + 1, none⟩ = some (.int .u64 ((hw sk).toNat : Int))) := ⟨z0, z1⟩
            clear h3 hc hin hu ht hdj hbr hrr y0 y1 z0 z1
            cases hd : (t == sk) with
            | false =>
              have HD := hid (HBD.out hd)
              have hd3 : ¬ (t = sk) := by simpa using hd
              clear HBD HDJ
              go_wp2_with fail
              refine Go.Proofs.YtpdbfbjfodckgaaDoor.wp_region_L 9 8 (fun w' => (w'.cell? ⟨g, u * 2, none⟩ = some (.int .u64 ((lw (t)).toNat : Int)) ∧ w'.cell? ⟨g, u * 2 + 1, none⟩ = some (.int .u64 ((hw (t)).toNat : Int))) ∧ (w'.cell? ⟨g, k * 2, none⟩ = some (.int .u64 ((lw (sk)).toNat : Int)) ∧ w'.cell? ⟨g, k * 2 + 1, none⟩ = some (.int .u64 ((hw (sk)).toNat : Int)))) (by kernel_rfl) rfl ⟨RT.out, RK.out⟩ (fun _ => ?_)
              refine wpAnyL_pure (i := 0) (v := .slice (some ⟨g, 0, none⟩) L.length L.length) (by simp only [List.getElem?_toArray, List.getElem?_cons_zero] <;> rfl) (by kernel_rfl) (by kernel_rfl) (by kernel_rfl) (by exact fun _ _ _ h => h) (by decide) (.inr ⟨RT.out, RK.out⟩) (Or.inl ⟨by rfl, fun w _ => (by simp [execOp, go_sem, Act.eval])⟩) (fun _ => ?_)
              simp only [Act.put, List.setIfInBounds_toArray, List.set_cons_zero, List.set_cons_succ]
              refine wpAnyL_pure (i := 1) (v := .int .i64 (u : Int)) (by simp only [List.getElem?_toArray, List.getElem?_cons_zero, List.getElem?_cons_succ] <;> rfl) (by kernel_rfl) (by kernel_rfl) (by kernel_rfl) (by exact fun _ _ _ h => h) (by decide) (.inr ⟨RT.out, RK.out⟩) (Or.inl ⟨by rfl, fun w _ => (by simp [execOp, go_sem, Act.eval])⟩) (fun _ => ?_)
              simp only [Act.put, List.setIfInBounds_toArray, List.set_cons_zero, List.set_cons_succ]
              refine wpAnyL_pure (i := 2) (v := .pointer (some ⟨g, u * 2, none⟩)) (by simp only [List.getElem?_toArray, List.getElem?_cons_zero, List.getElem?_cons_succ] <;> rfl) (by kernel_rfl) (by kernel_rfl) (by kernel_rfl) (by exact fun _ _ _ h => h) (by decide) (.inr ⟨RT.out, RK.out⟩) (Or.inl ⟨by rfl, fun w _ => (by simp [execOp, go_sem, Act.eval, zu])⟩) (fun _ => ?_)
              simp only [Act.put, List.setIfInBounds_toArray, List.set_cons_zero, List.set_cons_succ]
              refine wpAnyL_load2 (i := 3) (v := encS (t)) (by simp only [List.getElem?_toArray, List.getElem?_cons_zero, List.getElem?_cons_succ] <;> rfl) (by kernel_rfl) (by kernel_rfl) (by kernel_rfl) (by exact fun _ _ _ h => h) (by decide) (Waits.one rfl ⟨⟨3, .data⟩, by simp, rfl, rfl⟩) (by kernel_rfl) (by kernel_rfl) (.inr ⟨RT.out, RK.out⟩) (Or.inl ⟨by rfl, fun w hw => (by obtain ⟨⟨y0, z0⟩, _⟩ := hw; simp [execOp, go_sem, Act.eval, y0, z0])⟩) (fun _ => ?_)
              simp only [Act.put, List.setIfInBounds_toArray, List.set_cons_zero, List.set_cons_succ]
              refine wpAnyL_pure (i := 4) (v := .slice (some ⟨g, 0, none⟩) L.length L.length) (by simp only [List.getElem?_toArray, List.getElem?_cons_zero, List.getElem?_cons_succ] <;> rfl) (by kernel_rfl) (by kernel_rfl) (by kernel_rfl) (by exact fun _ _ _ h => h) (by decide) (.inr ⟨RT.out, RK.out⟩) (Or.inl ⟨by rfl, fun w _ => (by simp [execOp, go_sem, Act.eval])⟩) (fun _ => ?_)
              simp only [Act.put, List.setIfInBounds_toArray, List.set_cons_zero, List.set_cons_succ]
              refine wpAnyL_pure (i := 5) (v := .int .i64 (k : Int)) (by simp only [List.getElem?_toArray, List.getElem?_cons_zero, List.getElem?_cons_succ] <;> rfl) (by kernel_rfl) (by kernel_rfl) (by kernel_rfl) (by exact fun _ _ _ h => h) (by decide) (.inr ⟨RT.out, RK.out⟩) (Or.inl ⟨by rfl, fun w _ => (by simp [execOp, go_sem, Act.eval])⟩) (fun _ => ?_)
              simp only [Act.put, List.setIfInBounds_toArray, List.set_cons_zero, List.set_cons_succ]
              refine wpAnyL_pure (i := 6) (v := .pointer (some ⟨g, k * 2, none⟩)) (by simp only [List.getElem?_toArray, List.getElem?_cons_zero, List.getElem?_cons_succ] <;> rfl) (by kernel_rfl) (by kernel_rfl) (by kernel_rfl) (by exact fun _ _ _ h => h) (by decide) (.inr ⟨RT.out, RK.out⟩) (Or.inl ⟨by rfl, fun w _ => (by simp [execOp, go_sem, Act.eval, zk])⟩) (fun _ => ?_)
              simp only [Act.put, List.setIfInBounds_toArray, List.set_cons_zero, List.set_cons_succ]
              refine wpAnyL_load2 (i := 7) (v := encS (sk)) (by simp only [List.getElem?_toArray, List.getElem?_cons_zero, List.getElem?_cons_succ] <;> rfl) (by kernel_rfl) (by kernel_rfl) (by kernel_rfl) (by exact fun _ _ _ h => h) (by decide) (Waits.one rfl ⟨⟨7, .data⟩, by simp, rfl, rfl⟩) (by kernel_rfl) (by kernel_rfl) (.inr ⟨RT.out, RK.out⟩) (Or.inl ⟨by rfl, fun w hw => (by obtain ⟨_, ⟨y1, z1⟩⟩ := hw; simp [execOp, go_sem, Act.eval, y1, z1])⟩) (fun _ => ?_)
              simp only [Act.put, List.setIfInBounds_toArray, List.set_cons_zero, List.set_cons_succ]
              refine wpAnyL_one (i := 8) (by kernel_rfl) (by simp only [List.getElem?_toArray, List.getElem?_cons_zero, List.getElem?_cons_succ] <;> rfl) (by rfl) ?_
              refine opwp_value (v := .bool true) (w' := wr.drew) (by simp [execOp, go_sem, Act.eval, hd3]) ⟨.inl (by kernel_rfl), ?_⟩
              simp only [Act.put, List.setIfInBounds_toArray, List.set_cons_zero, List.set_cons_succ]
              refine wpAnyL_done (by kernel_rfl) ?_ _
              go_wp2_with fail
              go_ret
              exact ⟨by rw [HD.out]; rfl, HB3.out.trans ((HBR.out.trans ((HBQ.out.drew).mono HBR.out.size)).mono HB3.out.size)⟩
            | true =>
              have HDJ2 := hid (HDJ.out hd)
              have hd3 : t = sk := by simpa using hd
              clear HBD HDJ
              go_wp2_with fail
              refine Go.Proofs.YtpdbfbjfodckgaaDoor.wp_region_L 9 8 (fun w' => (w'.cell? ⟨g, u * 2, none⟩ = some (.int .u64 ((lw (t)).toNat : Int)) ∧ w'.cell? ⟨g, u * 2 + 1, none⟩ = some (.int .u64 ((hw (t)).toNat : Int))) ∧ (w'.cell? ⟨g, k * 2, none⟩ = some (.int .u64 ((lw (sk)).toNat : Int)) ∧ w'.cell? ⟨g, k * 2 + 1, none⟩ = some (.int .u64 ((hw (sk)).toNat : Int)))) (by kernel_rfl) rfl ⟨RT.out, RK.out⟩ (fun _ => ?_)
              refine wpAnyL_pure (i := 0) (v := .slice (some ⟨g, 0, none⟩) L.length L.length) (by simp only [List.getElem?_toArray, List.getElem?_cons_zero] <;> rfl) (by kernel_rfl) (by kernel_rfl) (by kernel_rfl) (by exact fun _ _ _ h => h) (by decide) (.inr ⟨RT.out, RK.out⟩) (Or.inl ⟨by rfl, fun w _ => (by simp [execOp, go_sem, Act.eval])⟩) (fun _ => ?_)
              simp only [Act.put, List.setIfInBounds_toArray, List.set_cons_zero, List.set_cons_succ]
              refine wpAnyL_pure (i := 1) (v := .int .i64 (u : Int)) (by simp only [List.getElem?_toArray, List.getElem?_cons_zero, List.getElem?_cons_succ] <;> rfl) (by kernel_rfl) (by kernel_rfl) (by kernel_rfl) (by exact fun _ _ _ h => h) (by decide) (.inr ⟨RT.out, RK.out⟩) (Or.inl ⟨by rfl, fun w _ => (by simp [execOp, go_sem, Act.eval])⟩) (fun _ => ?_)
              simp only [Act.put, List.setIfInBounds_toArray, List.set_cons_zero, List.set_cons_succ]
              refine wpAnyL_pure (i := 2) (v := .pointer (some ⟨g, u * 2, none⟩)) (by simp only [List.getElem?_toArray, List.getElem?_cons_zero, List.getElem?_cons_succ] <;> rfl) (by kernel_rfl) (by kernel_rfl) (by kernel_rfl) (by exact fun _ _ _ h => h) (by decide) (.inr ⟨RT.out, RK.out⟩) (Or.inl ⟨by rfl, fun w _ => (by simp [execOp, go_sem, Act.eval, zu])⟩) (fun _ => ?_)
              simp only [Act.put, List.setIfInBounds_toArray, List.set_cons_zero, List.set_cons_succ]
              refine wpAnyL_load2 (i := 3) (v := encS (t)) (by simp only [List.getElem?_toArray, List.getElem?_cons_zero, List.getElem?_cons_succ] <;> rfl) (by kernel_rfl) (by kernel_rfl) (by kernel_rfl) (by exact fun _ _ _ h => h) (by decide) (Waits.one rfl ⟨⟨3, .data⟩, by simp, rfl, rfl⟩) (by kernel_rfl) (by kernel_rfl) (.inr ⟨RT.out, RK.out⟩) (Or.inl ⟨by rfl, fun w hw => (by obtain ⟨⟨y0, z0⟩, _⟩ := hw; simp [execOp, go_sem, Act.eval, y0, z0])⟩) (fun _ => ?_)
              simp only [Act.put, List.setIfInBounds_toArray, List.set_cons_zero, List.set_cons_succ]
              refine wpAnyL_pure (i := 4) (v := .slice (some ⟨g, 0, none⟩) L.length L.length) (by simp only [List.getElem?_toArray, List.getElem?_cons_zero, List.getElem?_cons_succ] <;> rfl) (by kernel_rfl) (by kernel_rfl) (by kernel_rfl) (by exact fun _ _ _ h => h) (by decide) (.inr ⟨RT.out, RK.out⟩) (Or.inl ⟨by rfl, fun w _ => (by simp [execOp, go_sem, Act.eval])⟩) (fun _ => ?_)
              simp only [Act.put, List.setIfInBounds_toArray, List.set_cons_zero, List.set_cons_succ]
              refine wpAnyL_pure (i := 5) (v := .int .i64 (k : Int)) (by simp only [List.getElem?_toArray, List.getElem?_cons_zero, List.getElem?_cons_succ] <;> rfl) (by kernel_rfl) (by kernel_rfl) (by kernel_rfl) (by exact fun _ _ _ h => h) (by decide) (.inr ⟨RT.out, RK.out⟩) (Or.inl ⟨by rfl, fun w _ => (by simp [execOp, go_sem, Act.eval])⟩) (fun _ => ?_)
              simp only [Act.put, List.setIfInBounds_toArray, List.set_cons_zero, List.set_cons_succ]
              refine wpAnyL_pure (i := 6) (v := .pointer (some ⟨g, k * 2, none⟩)) (by simp only [List.getElem?_toArray, List.getElem?_cons_zero, List.getElem?_cons_succ] <;> rfl) (by kernel_rfl) (by kernel_rfl) (by kernel_rfl) (by exact fun _ _ _ h => h) (by decide) (.inr ⟨RT.out, RK.out⟩) (Or.inl ⟨by rfl, fun w _ => (by simp [execOp, go_sem, Act.eval, zk])⟩) (fun _ => ?_)
              simp only [Act.put, List.setIfInBounds_toArray, List.set_cons_zero, List.set_cons_succ]
              refine wpAnyL_load2 (i := 7) (v := encS (sk)) (by simp only [List.getElem?_toArray, List.getElem?_cons_zero, List.getElem?_cons_succ] <;> rfl) (by kernel_rfl) (by kernel_rfl) (by kernel_rfl) (by exact fun _ _ _ h => h) (by decide) (Waits.one rfl ⟨⟨7, .data⟩, by simp, rfl, rfl⟩) (by kernel_rfl) (by kernel_rfl) (.inr ⟨RT.out, RK.out⟩) (Or.inl ⟨by rfl, fun w hw => (by obtain ⟨_, ⟨y1, z1⟩⟩ := hw; simp [execOp, go_sem, Act.eval, y1, z1])⟩) (fun _ => ?_)
              simp only [Act.put, List.setIfInBounds_toArray, List.set_cons_zero, List.set_cons_succ]
              refine wpAnyL_one (i := 8) (by kernel_rfl) (by simp only [List.getElem?_toArray, List.getElem?_cons_zero, List.getElem?_cons_succ] <;> rfl) (by rfl) ?_
              refine opwp_value (v := .bool false) (w' := wr.drew) (by simp [execOp, go_sem, Act.eval, hd3]) ⟨.inl (by kernel_rfl), ?_⟩
              simp only [Act.put, List.setIfInBounds_toArray, List.set_cons_zero, List.set_cons_succ]
              refine wpAnyL_done (by kernel_rfl) ?_ _
              go_wp2_with fail
              go_roundw
              case rel => exact ⟨j + 1, by omega, by go_num, HDJ2.out, HBQ.out.drew⟩
              case measure => simp [intOf]; omega
          · obtain rfl : j = xi.length := by omega
            have HO := hid (HOK.out (show ((4 : Int) != 4 || xi.all fun x => sOf (vsOf L) x == sk) = true from by rw [all_to fun i hi => hdj.out i hi hi]; rfl))
            have HBQ := hid (HBR.out.trans (hbr.out.mono HBR.out.size))
            clear hdj hbr HOK
            go_wp2_with fail
            go_roundw
            case rel => exact ⟨k + 1, by omega, by go_num, HO.out, HBQ.out⟩
            case measure => simp [intOf]; omega
      · have h3b : (xk != 4) = true := by simp [h3]
        have HO := hid (HOK.out (by simp only; rw [h3b]; rfl))
        go_wp2_with fail
        go_roundw
        case rel => exact ⟨k + 1, by omega, by go_num, HO.out, HBR.out.alloc HBR.out.size _⟩
        case measure => simp [intOf]; omega
    · obtain rfl : k = L.length := by omega
      have HT := hid (show smoothB L = true from smoothB_true fun k hk => hok.out k hk hk)
      have HBW := hid (HB3.out.trans (hbr.out.mono HB3.out.size))
      clear hok hbr
      go_wp2_with fail
      go_ret
      exact ⟨by rw [HT.out]; rfl, HBW.out⟩
end Go.Proofs.YtpdbfbjfodckgaaDoor
