/- Walks: which nets are decomposable. -/
import Derived.Test.YtpdbfbjfodckgaaDoorHVars
namespace Go.Proofs.YtpdbfbjfodckgaaDoor
open Go.RowKit
attribute [local go_sem ↓] run_eqlS run_neqS run_eqlS0 run_neqS0

theorem all_to {α : Type} {f : α → Bool} {l : List α} (h : ∀ k (hk : k < l.length), f l[k] = true) : l.all f = true := by
  rw [List.all_eq_true]
  intro x hx
  obtain ⟨k, hk, rfl⟩ := List.getElem_of_mem hx
  exact h k hk
theorem all_not {α : Type} {f : α → Bool} {l : List α} {k : Nat} (hk : k < l.length) (h : f l[k] = false) : l.all f = false := by
  cases e : l.all f with
  | false => rfl
  | true => rw [List.all_eq_true.1 e _ (List.getElem_mem hk)] at h; cases h
def DecPost (b : Bool) (w : World) (e : Ending) (w' : World) : Prop := e = .returned (.bool b) ∧ Below w.heap.size w w'
set_option maxRecDepth 100000 in
set_option maxHeartbeats 4000000 in
theorem Decomposable_c (n : Int) (L : List NodeT) (v : Value) (w : World) (hN : NodesAt w v L) :
    Calls Tryd.prog 18 #[.agg #[.int .i64 n, v]] w (DecPost (validNet ⟨n, L⟩ && decomB L) w) := by
  have hB1 : Below w.heap.size w (w.alloc (.cells #[.int .i64 n, v] 24)) := (Below.refl _ w).alloc (Nat.le_refl _) _
  have hCK := Check_c n L v _ (hN.below hB1)
  cases hv : validNet ⟨n, L⟩ with
  | false =>
    unfold checkNo at hCK
    rw [hv, if_neg (by simp)] at hCK
    have HCK := hid hCK
    obtain ⟨x0, x1⟩ := NetVar.new w n v 24
    have HB1 := hid hB1
    clear hCK hB1 hN hv
    go_enter Tryd.func18, Tryd.ntmps18
    go_wp2_with fail
    refine HCK.out.mono ?_
    rintro e w2 ⟨rfl, hb2⟩
    go_wp2_with fail
    go_ret
    exact ⟨rfl, HB1.out.trans (hb2.mono HB1.out.size)⟩
  | true =>
  obtain ⟨⟨r1, r2, r3, r4⟩, hft⟩ := (validNet_iff _).1 hv
  simp only at r1 r2 r3 r4 hft
  rw [checkNo_t hv] at hCK
  have HCK := hid hCK
  have HNA := hid (hN.below hB1)
  obtain ⟨p, c, rfl, h⟩ := hN
  obtain ⟨b, off, rfl, hN⟩ := h.resolve_left (by intro e; rw [e] at r3; simp at r3)
  have HV := hid (fun w' (h : NodesAt w' (.slice (some ⟨b, off, none⟩) L.length c) L) => Vars_c n L _ w' h hv)
  have hx := NetVar.new w n (.slice (some ⟨b, off, none⟩) L.length c) 24
  obtain ⟨x0, x1⟩ := hx
  have HN := hid hN
  have HFT := hid hft
  have HX := hid (NetVar.new w n (.slice (some ⟨b, off, none⟩) L.length c) 24)
  have HB1 := hid hB1
  clear hCK hN h hv hft hB1
  go_enter Tryd.func18, Tryd.ntmps18
  go_wp2_with fail
  refine HCK.out.mono ?_
  rintro e w2 ⟨rfl, hb2⟩
  obtain ⟨y0, y1⟩ := HX.out.below hb2
  have HNA2 := hid (HNA.out.below hb2)
  have HX2 := hid (HX.out.below hb2)
  have HB2 := hid (HB1.out.trans (hb2.mono HB1.out.size))
  clear x0 x1 hb2 HCK HX HB1 HNA
  go_wp2_with fail
  refine (HV.out _ HNA2.out).mono ?_
  rintro e w3 ⟨g, rfl, hg, hrow, hb3⟩
  obtain ⟨z0, z1⟩ := HX2.out.below hb3
  have HB3 := hid (HB2.out.trans (hb3.mono HB2.out.size))
  have HR := hid hrow
  have hgl := hrow.lt
  clear y0 y1 hb3 hrow HX2 HB2 HNA2 HV
  go_wp2_with fail
  go_loopw [17] (fun z wr => ∃ (k : Nat), k ≤ L.length ∧ z = .int .i64 k ∧ Hid (∀ j (hj : j < L.length), j < k → (L[j].kind != 3 || disj (vsOf L) 0 L[j].ins) = true) ∧ Hid (Below w3.heap.size w3 wr)) (fun z _ => L.length - (intOf z).toNat)
  case atStart => exact ⟨0, Nat.zero_le _, rfl, fun j _ h => absurd h (Nat.not_lt_zero _), Below.refl _ _⟩
  case round =>
    obtain ⟨k, hk, rfl, hok, hbr⟩ := hrel
    by_cases hkl : k < L.length
    · obtain ⟨u, hu⟩ := HN.out k hkl
      have hbw := HB3.out.trans (hbr.out.mono HB3.out.size)
      have hur := hu.below hbw
      have d0 := hur.kind
      have d1 := hur.lit
      have d2 := hur.ins
      have HU := hid hur
      have HIN := hid (ins_lt HFT.out hkl)
      have hle := hur.len
      have zk : (0 : Int) ≤ (k : Int) ∧ (k : Int) < (L.length : Int) := by omega
      have HOK := hid (show (L[k].kind != 3 || disj (vsOf L) 0 L[k].ins) = true → ∀ j (hj : j < L.length), j < k + 1 → (L[j].kind != 3 || disj (vsOf L) 0 L[j].ins) = true from fun h j hj hlt => by
        by_cases e : j = k
        · subst e; exact h
        · exact hok.out j hj (by omega))
      have HNO := hid (show (L[k].kind != 3 || disj (vsOf L) 0 L[k].ins) = false → decomB L = false from fun h => all_not hkl h)
      have HBW := hid hbw
      have HBR := hid hbr.out
      clear hu hur hbw hok hbr
      generalize hxx : L[k] = x at *
      obtain ⟨xk, xl, xi⟩ := x
      obtain ⟨p2, c2, e2, hdrop⟩ := HU.out.ints
      subst e2
      clear hdrop hxx
      have b3 := Box3.new wr 39 (.int .i64 xk) (.int .i64 xl) (.slice p2 xi.length c2)
      by_cases h3 : xk = 3
      · subst h3
        have hgr : g < wr.heap.size := Nat.lt_of_lt_of_le hgl HBR.out.size
        have SV := hid (SetVar.new (wr.alloc (.cells #[.int .i64 3, .int .i64 xl, .slice p2 xi.length c2] 39)) 0 42)
        have hal : Below wr.heap.size wr ((wr.alloc (.cells #[.int .i64 3, .int .i64 xl, .slice p2 xi.length c2] 39)).alloc (.cells #[.int .u64 ((lw 0#128).toNat : Int), .int .u64 ((hw 0#128).toNat : Int)] 42)) := ((Below.refl _ wr).alloc (Nat.le_refl _) _).alloc (by simp) _
        have HAL := hid hal
        rw [World.size_alloc] at SV
        clear hal
        go_wp2_with fail
        obtain ⟨wo, hwo⟩ : ∃ wo : World, wo = wr := ⟨_, rfl⟩
        subst hwo
        go_loopw [27] (fun z wr => ∃ (j : Nat), j ≤ xi.length ∧ z = .int .i64 j ∧ Hid (SetVar wr (wo.heap.size + 1) (orIns (vsOf L) 0 (xi.take j))) ∧ Hid (∀ i (hi : i < xi.length), i < j → (orIns (vsOf L) 0 (xi.take i) &&& sOf (vsOf L) xi[i] == 0) = true) ∧ Hid (Below wo.heap.size wo wr)) (fun z _ => xi.length - (intOf z).toNat)
        case atStart => exact ⟨0, Nat.zero_le _, rfl, SV.out, fun i _ h => absurd h (Nat.not_lt_zero _), HAL.out⟩
        case round =>
          clear SV HAL
          obtain ⟨j, hj, rfl, hsv, hdj, hbr⟩ := hrel
          by_cases hjl : j < xi.length
          · obtain ⟨p3, c3, e3, h3⟩ := show IntsAt wr (.slice p2 xi.length c2) xi from (HU.out.below hbr.out).ints
            injection e3 with e1 _ e2
            subst e1; subst e2
            obtain ⟨b2, o2, rfl, hc⟩ := h3.resolve_left (by intro e; rw [e] at hjl; simp at hjl)
            have hcj := hc j hjl
            rw [List.getElem?_eq_getElem hjl, Option.getD_some] at hcj
            have hin := HIN.out _ (List.getElem_mem hjl)
            have HOR := hid (orIns_snoc (vsOf L) 0 (xi.take j) xi[j])
            rw [← List.take_succ_eq_append_getElem hjl] at HOR
            have HDJ := hid (show (orIns (vsOf L) 0 (xi.take j) &&& sOf (vsOf L) xi[j] == 0) = true → ∀ i (hi : i < xi.length), i < j + 1 → (orIns (vsOf L) 0 (xi.take i) &&& sOf (vsOf L) xi[i] == 0) = true from fun h i hi hlt => by
              by_cases e : i = j
              · subst e; exact h
              · exact hdj.out i hi (by omega))
            have HBD := hid (fun h => HNO.out (show ((3 : Int) != 3 || disj (vsOf L) 0 xi) = false from by rw [disj_take_bad xi 0 j hjl h]; rfl))
            obtain ⟨u, hu⟩ : ∃ u : Nat, xi[j] = (u : Int) := ⟨xi[j].toNat, by omega⟩
            rw [hu] at hcj hin HOR HDJ HBD
            have zj : (0 : Int) ≤ (j : Int) ∧ (j : Int) < (xi.length : Int) := by omega
            have zu : (0 : Int) ≤ (u : Int) ∧ (u : Int) < (L.length : Int) := by omega
            have hul : u < L.length := by omega
            obtain ⟨s1, hs1⟩ : ∃ s1, s1 = orIns (vsOf L) 0 (xi.take j) := ⟨_, rfl⟩
            rw [← hs1] at hsv HOR HDJ HBD
            have hrr := (HR.out.below HBR.out hgl).below hbr.out hgr
            obtain ⟨t, ht, y0, y1, _, _⟩ := hrr.getS u (by rw [vsOf_length]; exact hul)
            rw [ht] at HOR HDJ HBD
            have RT : Hid (wr.drew.cell? ⟨g, u * 2, none⟩ = some (.int .u64 ((lw t).toNat : Int)) ∧ wr.drew.cell? ⟨g, u * 2 + 1, none⟩ = some (.int .u64 ((hw t).toNat : Int))) := ⟨y0, y1⟩
            have SVd : Hid (SetVar wr.drew (wo.heap.size + 1) s1) := hsv.out
            have HBQ := hid hbr.out
            clear h3 hc hin hu hs1 y0 y1 ht hsv hdj hbr hrr
            cases hd : (s1 &&& t == 0) with
            | false =>
              have HD := hid (HBD.out hd)
              have hd3 : ¬ (s1 &&& t = 0#128) := by simpa using hd
              clear HBD HDJ HOR
              go_wp2_with fail
              refine Go.Proofs.YtpdbfbjfodckgaaDoor.wp_region_L 8 5 (fun w' => (w'.cell? ⟨g, u * 2, none⟩ = some (.int .u64 ((lw (t)).toNat : Int)) ∧ w'.cell? ⟨g, u * 2 + 1, none⟩ = some (.int .u64 ((hw (t)).toNat : Int))) ∧ SetVar w' (wo.heap.size + 1) (s1)) (by kernel_rfl) rfl ⟨RT.out, SVd.out⟩ (fun _ => ?_)
              refine wpAnyL_load2 (i := 0) (v := encS s1) (by simp only [List.getElem?_toArray, List.getElem?_cons_zero] <;> rfl) (by kernel_rfl) (by kernel_rfl) (by kernel_rfl) (by exact fun _ _ _ h => h) (by decide) (Waits.one rfl ⟨⟨0, .data⟩, by simp, rfl, rfl⟩) (by kernel_rfl) (by kernel_rfl) (.inr ⟨RT.out, SVd.out⟩) (Or.inl ⟨by rfl, fun w hw => (by obtain ⟨_, x1⟩ := hw; simp [execOp, go_sem, Act.eval, x1.cells.1, x1.cells.2.1])⟩) (fun _ => ?_)
              simp only [Act.put, List.setIfInBounds_toArray, List.set_cons_zero, List.set_cons_succ]
              refine wpAnyL_pure (i := 1) (v := .slice (some ⟨g, 0, none⟩) L.length L.length) (by simp only [List.getElem?_toArray, List.getElem?_cons_zero, List.getElem?_cons_succ] <;> rfl) (by kernel_rfl) (by kernel_rfl) (by kernel_rfl) (by exact fun _ _ _ h => h) (by decide) (.inr ⟨RT.out, SVd.out⟩) (Or.inl ⟨by rfl, fun w _ => (by simp [execOp, go_sem, Act.eval])⟩) (fun _ => ?_)
              simp only [Act.put, List.setIfInBounds_toArray, List.set_cons_zero, List.set_cons_succ]
              refine wpAnyL_pure (i := 2) (v := .int .i64 (u : Int)) (by simp only [List.getElem?_toArray, List.getElem?_cons_zero, List.getElem?_cons_succ] <;> rfl) (by kernel_rfl) (by kernel_rfl) (by kernel_rfl) (by exact fun _ _ _ h => h) (by decide) (.inr ⟨RT.out, SVd.out⟩) (Or.inl ⟨by rfl, fun w _ => (by simp [execOp, go_sem, Act.eval])⟩) (fun _ => ?_)
              simp only [Act.put, List.setIfInBounds_toArray, List.set_cons_zero, List.set_cons_succ]
              refine wpAnyL_pure (i := 3) (v := .pointer (some ⟨g, u * 2, none⟩)) (by simp only [List.getElem?_toArray, List.getElem?_cons_zero, List.getElem?_cons_succ] <;> rfl) (by kernel_rfl) (by kernel_rfl) (by kernel_rfl) (by exact fun _ _ _ h => h) (by decide) (.inr ⟨RT.out, SVd.out⟩) (Or.inl ⟨by rfl, fun w _ => (by simp [execOp, go_sem, Act.eval, zu])⟩) (fun _ => ?_)
              simp only [Act.put, List.setIfInBounds_toArray, List.set_cons_zero, List.set_cons_succ]
              refine wpAnyL_load2 (i := 4) (v := encS (t)) (by simp only [List.getElem?_toArray, List.getElem?_cons_zero, List.getElem?_cons_succ] <;> rfl) (by kernel_rfl) (by kernel_rfl) (by kernel_rfl) (by exact fun _ _ _ h => h) (by decide) (Waits.one rfl ⟨⟨4, .data⟩, by simp, rfl, rfl⟩) (by kernel_rfl) (by kernel_rfl) (.inr ⟨RT.out, SVd.out⟩) (Or.inl ⟨by rfl, fun w hw => (by obtain ⟨⟨y0, z0⟩, _⟩ := hw; simp [execOp, go_sem, Act.eval, y0, z0])⟩) (fun _ => ?_)
              simp only [Act.put, List.setIfInBounds_toArray, List.set_cons_zero, List.set_cons_succ]
              refine wpAnyL_pure (i := 6) (v := .agg #[.int .u64 0, .int .u64 0]) (by simp only [List.getElem?_toArray, List.getElem?_cons_zero, List.getElem?_cons_succ] <;> rfl) (by kernel_rfl) (by kernel_rfl) (by kernel_rfl) (by exact fun _ _ _ h => h) (by decide) (.inr ⟨RT.out, SVd.out⟩) (Or.inl ⟨by rfl, fun w _ => (by simp [execOp, go_sem, Act.eval])⟩) (fun _ => ?_)
              simp only [Act.put, List.setIfInBounds_toArray, List.set_cons_zero, List.set_cons_succ]
              refine wpAnyL_one (i := 5) (by kernel_rfl) (by simp only [List.getElem?_toArray, List.getElem?_cons_zero, List.getElem?_cons_succ] <;> rfl) (by rfl) ?_
              refine opwp_call (f := 45) (args := #[encS s1, encS (t)]) (w' := wr.drew) (by simp [go_sem, Act.eval]) ?_
              refine (Cut_c s1 t wr.drew).mono ?_
              rintro e w6 ⟨rfl, hb6⟩
              refine .inl ⟨_, rfl, .inl (by kernel_rfl), ?_⟩
              simp only [Act.put, List.setIfInBounds_toArray, List.set_cons_zero, List.set_cons_succ]
              refine wpAnyL_pure (i := 7) (v := .bool true) (by simp only [List.getElem?_toArray, List.getElem?_cons_zero, List.getElem?_cons_succ] <;> rfl) (by kernel_rfl) (by kernel_rfl) (by kernel_rfl) (by exact fun _ _ _ h => h) (by decide) (.inl (by kernel_rfl)) (Or.inl ⟨by rfl, fun w _ => (by simp [execOp, go_sem, Act.eval, hd3])⟩) (fun _ => ?_)
              simp only [Act.put, List.setIfInBounds_toArray, List.set_cons_zero, List.set_cons_succ]
              refine wpAnyL_done (by kernel_rfl) ?_ _
              go_wp2_with fail
              go_ret
              exact ⟨by rw [HD.out]; rfl, HB3.out.trans ((HBR.out.trans (((HBQ.out.drew).trans (hb6.mono HBQ.out.size)).mono HBR.out.size)).mono HB3.out.size)⟩
            | true =>
              have HDJ2 := hid (HDJ.out hd)
              have hd3 : s1 &&& t = 0#128 := by simpa using hd
              clear HBD HDJ
              go_wp2_with fail
              refine Go.Proofs.YtpdbfbjfodckgaaDoor.wp_region_L 8 5 (fun w' => (w'.cell? ⟨g, u * 2, none⟩ = some (.int .u64 ((lw (t)).toNat : Int)) ∧ w'.cell? ⟨g, u * 2 + 1, none⟩ = some (.int .u64 ((hw (t)).toNat : Int))) ∧ SetVar w' (wo.heap.size + 1) (s1)) (by kernel_rfl) rfl ⟨RT.out, SVd.out⟩ (fun _ => ?_)
              refine wpAnyL_load2 (i := 0) (v := encS s1) (by simp only [List.getElem?_toArray, List.getElem?_cons_zero] <;> rfl) (by kernel_rfl) (by kernel_rfl) (by kernel_rfl) (by exact fun _ _ _ h => h) (by decide) (Waits.one rfl ⟨⟨0, .data⟩, by simp, rfl, rfl⟩) (by kernel_rfl) (by kernel_rfl) (.inr ⟨RT.out, SVd.out⟩) (Or.inl ⟨by rfl, fun w hw => (by obtain ⟨_, x1⟩ := hw; simp [execOp, go_sem, Act.eval, x1.cells.1, x1.cells.2.1])⟩) (fun _ => ?_)
              simp only [Act.put, List.setIfInBounds_toArray, List.set_cons_zero, List.set_cons_succ]
              refine wpAnyL_pure (i := 1) (v := .slice (some ⟨g, 0, none⟩) L.length L.length) (by simp only [List.getElem?_toArray, List.getElem?_cons_zero, List.getElem?_cons_succ] <;> rfl) (by kernel_rfl) (by kernel_rfl) (by kernel_rfl) (by exact fun _ _ _ h => h) (by decide) (.inr ⟨RT.out, SVd.out⟩) (Or.inl ⟨by rfl, fun w _ => (by simp [execOp, go_sem, Act.eval])⟩) (fun _ => ?_)
              simp only [Act.put, List.setIfInBounds_toArray, List.set_cons_zero, List.set_cons_succ]
              refine wpAnyL_pure (i := 2) (v := .int .i64 (u : Int)) (by simp only [List.getElem?_toArray, List.getElem?_cons_zero, List.getElem?_cons_succ] <;> rfl) (by kernel_rfl) (by kernel_rfl) (by kernel_rfl) (by exact fun _ _ _ h => h) (by decide) (.inr ⟨RT.out, SVd.out⟩) (Or.inl ⟨by rfl, fun w _ => (by simp [execOp, go_sem, Act.eval])⟩) (fun _ => ?_)
              simp only [Act.put, List.setIfInBounds_toArray, List.set_cons_zero, List.set_cons_succ]
              refine wpAnyL_pure (i := 3) (v := .pointer (some ⟨g, u * 2, none⟩)) (by simp only [List.getElem?_toArray, List.getElem?_cons_zero, List.getElem?_cons_succ] <;> rfl) (by kernel_rfl) (by kernel_rfl) (by kernel_rfl) (by exact fun _ _ _ h => h) (by decide) (.inr ⟨RT.out, SVd.out⟩) (Or.inl ⟨by rfl, fun w _ => (by simp [execOp, go_sem, Act.eval, zu])⟩) (fun _ => ?_)
              simp only [Act.put, List.setIfInBounds_toArray, List.set_cons_zero, List.set_cons_succ]
              refine wpAnyL_load2 (i := 4) (v := encS (t)) (by simp only [List.getElem?_toArray, List.getElem?_cons_zero, List.getElem?_cons_succ] <;> rfl) (by kernel_rfl) (by kernel_rfl) (by kernel_rfl) (by exact fun _ _ _ h => h) (by decide) (Waits.one rfl ⟨⟨4, .data⟩, by simp, rfl, rfl⟩) (by kernel_rfl) (by kernel_rfl) (.inr ⟨RT.out, SVd.out⟩) (Or.inl ⟨by rfl, fun w hw => (by obtain ⟨⟨y0, z0⟩, _⟩ := hw; simp [execOp, go_sem, Act.eval, y0, z0])⟩) (fun _ => ?_)
              simp only [Act.put, List.setIfInBounds_toArray, List.set_cons_zero, List.set_cons_succ]
              refine wpAnyL_pure (i := 6) (v := .agg #[.int .u64 0, .int .u64 0]) (by simp only [List.getElem?_toArray, List.getElem?_cons_zero, List.getElem?_cons_succ] <;> rfl) (by kernel_rfl) (by kernel_rfl) (by kernel_rfl) (by exact fun _ _ _ h => h) (by decide) (.inr ⟨RT.out, SVd.out⟩) (Or.inl ⟨by rfl, fun w _ => (by simp [execOp, go_sem, Act.eval])⟩) (fun _ => ?_)
              simp only [Act.put, List.setIfInBounds_toArray, List.set_cons_zero, List.set_cons_succ]
              refine wpAnyL_one (i := 5) (by kernel_rfl) (by simp only [List.getElem?_toArray, List.getElem?_cons_zero, List.getElem?_cons_succ] <;> rfl) (by rfl) ?_
              refine opwp_call (f := 45) (args := #[encS s1, encS (t)]) (w' := wr.drew) (by simp [go_sem, Act.eval]) ?_
              refine (Cut_c s1 t wr.drew).mono ?_
              rintro e w6 ⟨rfl, hb6⟩
              refine .inl ⟨_, rfl, .inl (by kernel_rfl), ?_⟩
              simp only [Act.put, List.setIfInBounds_toArray, List.set_cons_zero, List.set_cons_succ]
              refine wpAnyL_pure (i := 7) (v := .bool false) (by simp only [List.getElem?_toArray, List.getElem?_cons_zero, List.getElem?_cons_succ] <;> rfl) (by kernel_rfl) (by kernel_rfl) (by kernel_rfl) (by exact fun _ _ _ h => h) (by decide) (.inl (by kernel_rfl)) (Or.inl ⟨by rfl, fun w _ => (by simp [execOp, go_sem, Act.eval, hd3])⟩) (fun _ => ?_)
              simp only [Act.put, List.setIfInBounds_toArray, List.set_cons_zero, List.set_cons_succ]
              refine wpAnyL_done (by kernel_rfl) ?_ _
              have SV6 := hid (SVd.out.below hb6 SVd.out.lt)
              have RT6 := hid (show _ ∧ _ from ⟨(hb6.cell (cell_lt RT.out.1)).trans RT.out.1, (hb6.cell (cell_lt RT.out.2)).trans RT.out.2⟩)
              have HB6 := hid ((HBQ.out.drew).trans (hb6.mono HBQ.out.size))
              have RTd : Hid (w6.drew.cell? ⟨g, u * 2, none⟩ = some (.int .u64 ((lw t).toNat : Int)) ∧ w6.drew.cell? ⟨g, u * 2 + 1, none⟩ = some (.int .u64 ((hw t).toNat : Int))) := RT6.out
              have SVe : Hid (SetVar w6.drew (wo.heap.size + 1) s1) := SV6.out
              clear RT SVd hb6 HBQ SV6 RT6 hd3
              go_wp2_with fail
              refine Go.Proofs.YtpdbfbjfodckgaaDoor.wp_region_L 7 5 (fun w' => (w'.cell? ⟨g, u * 2, none⟩ = some (.int .u64 ((lw (t)).toNat : Int)) ∧ w'.cell? ⟨g, u * 2 + 1, none⟩ = some (.int .u64 ((hw (t)).toNat : Int))) ∧ SetVar w' (wo.heap.size + 1) (s1)) (by kernel_rfl) rfl ⟨RTd.out, SVe.out⟩ (fun _ => ?_)
              refine wpAnyL_load2 (i := 0) (v := encS s1) (by simp only [List.getElem?_toArray, List.getElem?_cons_zero] <;> rfl) (by kernel_rfl) (by kernel_rfl) (by kernel_rfl) (by exact fun _ _ _ h => h) (by decide) (Waits.one rfl ⟨⟨0, .data⟩, by simp, rfl, rfl⟩) (by kernel_rfl) (by kernel_rfl) (.inr ⟨RTd.out, SVe.out⟩) (Or.inl ⟨by rfl, fun w hw => (by obtain ⟨_, x1⟩ := hw; simp [execOp, go_sem, Act.eval, x1.cells.1, x1.cells.2.1])⟩) (fun _ => ?_)
              simp only [Act.put, List.setIfInBounds_toArray, List.set_cons_zero, List.set_cons_succ]
              refine wpAnyL_pure (i := 1) (v := .slice (some ⟨g, 0, none⟩) L.length L.length) (by simp only [List.getElem?_toArray, List.getElem?_cons_zero, List.getElem?_cons_succ] <;> rfl) (by kernel_rfl) (by kernel_rfl) (by kernel_rfl) (by exact fun _ _ _ h => h) (by decide) (.inr ⟨RTd.out, SVe.out⟩) (Or.inl ⟨by rfl, fun w _ => (by simp [execOp, go_sem, Act.eval])⟩) (fun _ => ?_)
              simp only [Act.put, List.setIfInBounds_toArray, List.set_cons_zero, List.set_cons_succ]
              refine wpAnyL_pure (i := 2) (v := .int .i64 (u : Int)) (by simp only [List.getElem?_toArray, List.getElem?_cons_zero, List.getElem?_cons_succ] <;> rfl) (by kernel_rfl) (by kernel_rfl) (by kernel_rfl) (by exact fun _ _ _ h => h) (by decide) (.inr ⟨RTd.out, SVe.out⟩) (Or.inl ⟨by rfl, fun w _ => (by simp [execOp, go_sem, Act.eval])⟩) (fun _ => ?_)
              simp only [Act.put, List.setIfInBounds_toArray, List.set_cons_zero, List.set_cons_succ]
              refine wpAnyL_pure (i := 3) (v := .pointer (some ⟨g, u * 2, none⟩)) (by simp only [List.getElem?_toArray, List.getElem?_cons_zero, List.getElem?_cons_succ] <;> rfl) (by kernel_rfl) (by kernel_rfl) (by kernel_rfl) (by exact fun _ _ _ h => h) (by decide) (.inr ⟨RTd.out, SVe.out⟩) (Or.inl ⟨by rfl, fun w _ => (by simp [execOp, go_sem, Act.eval, zu])⟩) (fun _ => ?_)
              simp only [Act.put, List.setIfInBounds_toArray, List.set_cons_zero, List.set_cons_succ]
              refine wpAnyL_load2 (i := 4) (v := encS (t)) (by simp only [List.getElem?_toArray, List.getElem?_cons_zero, List.getElem?_cons_succ] <;> rfl) (by kernel_rfl) (by kernel_rfl) (by kernel_rfl) (by exact fun _ _ _ h => h) (by decide) (Waits.one rfl ⟨⟨4, .data⟩, by simp, rfl, rfl⟩) (by kernel_rfl) (by kernel_rfl) (.inr ⟨RTd.out, SVe.out⟩) (Or.inl ⟨by rfl, fun w hw => (by obtain ⟨⟨y0, z0⟩, _⟩ := hw; simp [execOp, go_sem, Act.eval, y0, z0])⟩) (fun _ => ?_)
              simp only [Act.put, List.setIfInBounds_toArray, List.set_cons_zero, List.set_cons_succ]
              refine wpAnyL_one (i := 5) (by kernel_rfl) (by simp only [List.getElem?_toArray, List.getElem?_cons_zero, List.getElem?_cons_succ] <;> rfl) (by rfl) ?_
              refine opwp_call (f := 46) (args := #[encS s1, encS (t)]) (w' := w6.drew) (by simp [go_sem, Act.eval]) ?_
              refine (Union_c s1 t w6.drew).mono ?_
              rintro e w7 ⟨rfl, hb7⟩
              refine .inl ⟨_, rfl, .inl (by kernel_rfl), ?_⟩
              simp only [Act.put, List.setIfInBounds_toArray, List.set_cons_zero, List.set_cons_succ]
              have sv7 := SVe.out.below hb7 SVe.out.lt
              obtain ⟨y0, y1, y2, y3⟩ := sv7.cells
              refine wpAnyL_one (i := 6) (by kernel_rfl) (by simp only [List.getElem?_toArray, List.getElem?_cons_zero, List.getElem?_cons_succ] <;> rfl) (by rfl) ?_
              refine opwp_skip (w' := ((w7.setCell ⟨wo.heap.size + 1, 0, none⟩ (.int .u64 ((lw (s1 ||| t)).toNat : Int))).setCell ⟨wo.heap.size + 1, 1, none⟩ (.int .u64 ((hw (s1 ||| t)).toNat : Int)))) (by simp [execOp, go_sem, Act.eval, y0, y1, y2, y3]) ⟨.inl (by kernel_rfl), ?_⟩
              simp only [Act.put]
              refine wpAnyL_done (by kernel_rfl) ?_ _
              have SV8 := hid (sv7.store (s1 ||| t))
              have HB8 := hid (below_01 (HB6.out.drew.trans (hb7.mono HB6.out.size)) (Nat.le_succ _) (.int .u64 ((lw (s1 ||| t)).toNat : Int)) (.int .u64 ((hw (s1 ||| t)).toNat : Int)))
              clear sv7 y0 y1 y2 y3 hb7 RTd SVe HB6
              go_wp2_with fail
              go_roundw
              case rel => exact ⟨j + 1, by omega, by go_num, (by rw [HOR.out]; exact SV8.out), HDJ2.out, HB8.out⟩
              case measure => simp [intOf]; omega
          · obtain rfl : j = xi.length := by omega
            have HO := hid (HOK.out (show ((3 : Int) != 3 || disj (vsOf L) 0 xi) = true from by rw [disj_all xi 0 fun i hi => hdj.out i hi hi]; rfl))
            have HBQ := hid (HBR.out.trans (hbr.out.mono HBR.out.size))
            clear hsv hdj hbr HOK
            go_wp2_with fail
            go_roundw
            case rel => exact ⟨k + 1, by omega, by go_num, HO.out, HBQ.out⟩
            case measure => simp [intOf]; omega
      · have h3b : (xk != 3) = true := by simp [h3]
        have HO := hid (HOK.out (by simp only; rw [h3b]; rfl))
        go_wp2_with fail
        go_roundw
        case rel => exact ⟨k + 1, by omega, by go_num, HO.out, HBR.out.alloc HBR.out.size _⟩
        case measure => simp [intOf]; omega
    · obtain rfl : k = L.length := by omega
      have HT := hid (show decomB L = true from all_to fun k hk => hok.out k hk hk)
      have HBW := hid (HB3.out.trans (hbr.out.mono HB3.out.size))
      clear hok hbr
      go_wp2_with fail
      go_ret
      exact ⟨by rw [HT.out]; rfl, HBW.out⟩
end Go.Proofs.YtpdbfbjfodckgaaDoor
