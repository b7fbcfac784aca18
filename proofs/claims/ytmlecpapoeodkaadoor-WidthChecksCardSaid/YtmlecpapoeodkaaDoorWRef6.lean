/- Walks: the reference of the layer width: Check. -/
import Derived.Test.YtmlecpapoeodkaaDoorWRef
import Derived.Test.YtmlecpapoeodkaaDoorWRef3
import Derived.Test.YtmlecpapoeodkaaDoorWRef5
namespace Go.Proofs.YtmlecpapoeodkaaDoor
open Go.RowKit
attribute [local go_sem ↓] run_eqlS run_neqS run_eqlS0 run_neqS0

/-- What is asked of two vertices. -/
def CovP (L B : List VS) (a b : Nat) : Prop := (a = b ∨ has (gOf L (a : Int)) (b : Int) = true) → togB B (a : Int) (b : Int) = true
theorem check_1 {L B : List VS} {U : List Int} (h1 : validG L = false) : checkW L B U = 1 := by unfold checkW; rw [if_pos h1]
theorem check_5 {L B : List VS} {U : List Int} (h1 : validG L = true) (h2 : formedB B.length U = false) : checkW L B U = 5 := by unfold checkW; simp [h1, h2]
theorem check_6 {L B : List VS} {U : List Int} (h1 : validG L = true) (h2 : formedB B.length U = true) (h3 : inAll ((L.length : Int) - 1) B = false) : checkW L B U = 6 := by unfold checkW; simp [h1, h2, h3]
theorem check_3 {L B : List VS} {U : List Int} (h1 : validG L = true) (h2 : formedB B.length U = true) (h3 : inAll ((L.length : Int) - 1) B = true) {a b : Nat} (ha : 1 ≤ a ∧ a < L.length) (h : ¬ CovP L B a b) : checkW L B U = 3 := by
  have hV := validG_iff.1 h1
  have h4 : covB L B = false := by
    cases e : covB L B
    · rfl
    · refine absurd (fun hab => ?_) h
      have := (covB_iff hV.zero).1 e (a : Int) (b : Int) (by omega) (by omega) (hab.imp (fun e => by rw [e]) id)
      exact togB_iff.2 this
  unfold checkW; simp [h1, h2, h3, h4]
theorem cov_yes {L B : List VS} (hV : ValidG L) (h : ∀ a b : Nat, 1 ≤ a → a < L.length → 1 ≤ b → b < L.length → CovP L B a b) : covB L B = true := by
  rw [covB_iff hV.zero]
  intro v x h1 h2 h3
  obtain ⟨a, rfl⟩ : ∃ a : Nat, v = (a : Int) := ⟨v.toNat, by omega⟩
  rcases h3 with rfl | h3
  · exact togB_iff.1 (h a a (by omega) (by omega) (by omega) (by omega) (.inl rfl))
  · have hr := has_range h3
    have hle := (hV.okAll (a : Int)).le x h3
    obtain ⟨b, rfl⟩ : ∃ b : Nat, x = (b : Int) := ⟨x.toNat, by omega⟩
    exact togB_iff.1 (h a b (by omega) (by omega) (by omega) (by omega) (.inr h3))
theorem check_210 {L B : List VS} {U : List Int} (h1 : validG L = true) (h2 : formedB B.length U = true) (h3 : inAll ((L.length : Int) - 1) B = true) (h4 : covB L B = true) {a : Int} (h : ¬ Uniq B U a) : checkW L B U = 210 := by
  have h5 : connB B U = false := by
    cases e : connB B U
    · rfl
    · exact absurd (connB_iff.1 e a) h
  unfold checkW; simp [h1, h2, h3, h4, h5]
theorem check_0 {L B : List VS} {U : List Int} (h1 : validG L = true) (h2 : formedB B.length U = true) (h3 : inAll ((L.length : Int) - 1) B = true) (h4 : covB L B = true) (h : ∀ a : Nat, 1 ≤ a → a < L.length → Uniq B U (a : Int)) : checkW L B U = 0 := by
  have h5 : connB B U = true := by
    rw [connB_iff]
    intro v i j hi hj
    have hin := (inAll_iff (validG_iff.1 h1)).1 h3
    obtain ⟨s, hs, h6⟩ := (mem_bags (B := B) (p := fun s => has s v = true)).2 ⟨i, bag_range hi.1, hi.1⟩
    have hr := has_range h6
    have hlt := hin s hs v h6
    obtain ⟨a, rfl⟩ : ∃ a : Nat, v = (a : Int) := ⟨v.toNat, by omega⟩
    exact h a (by omega) (by omega) i j hi hj
  unfold checkW; simp [h1, h2, h3, h4, h5]
set_option maxRecDepth 100000 in
set_option maxHeartbeats 2000000 in
theorem rCheck_c (v x y : Value) (L B : List VS) (U : List Int) (w : World) (hI : SetsAt w v L) (hx : SetsAt w x B) (hy : IntsAt w y U)
    (hL : L.length ≤ 140737488355328) (hB : B.length ≤ 100) (hU : U.length ≤ 140737488355328) :
    Calls Tryd.prog 27 #[v, .agg #[x, y]] w fun e w' => e = .returned (.int .i64 (checkW L B U)) ∧ Below w.heap.size w w' := by
  have HI := hid (fun w' (h : Below w.heap.size w w') => hI.below h)
  have HX := hid (fun w' (h : Below w.heap.size w w') => hx.below h)
  have HY := hid (fun w' (h : Below w.heap.size w w') => hy.below h)
  obtain ⟨p, c, rfl, hdrop⟩ := id hI
  obtain ⟨p3, c3, rfl, hdrop3⟩ := id hx
  obtain ⟨p4, c4, rfl, hdrop4⟩ := id hy
  clear hdrop hdrop3 hdrop4 hI hx hy
  have hB0 : Below w.heap.size w (w.alloc (.cells #[.slice p3 B.length c3, .slice p4 U.length c4] 33)) := (Below.refl _ w).alloc (Nat.le_refl _) _
  have b0 := Box2.new w 33 (.slice p3 B.length c3) (.slice p4 U.length c4)
  have HV := hid (rValid_c _ L _ (HI.out _ hB0) hL)
  have zl : IntKind.i64.wrap ((L.length : Int) - 1) = (L.length : Int) - 1 := IntWalk.i64_in _ (by omega)
  go_enter Tryd.func27, Tryd.ntmps27
  go_wp2_with fail
  generalize w.alloc (.cells #[.slice p3 B.length c3, .slice p4 U.length c4] 33) = w1 at *
  refine HV.out.mono ?_
  rintro e w2 ⟨rfl, hb2⟩
  have hB2 := hB0.trans (hb2.mono hB0.size)
  have b2 := b0.below hb2 b0.lt
  clear HV hB0 b0 hb2
  cases hv : validG L
  · have HF := hid (check_1 (B := B) (U := U) hv)
    clear hv
    go_wp2_with fail
    go_ret
    exact ⟨by rw [HF.out]; rfl, hB2⟩
  · have HVL := hid hv
    have hle := (validG_iff.1 hv).le
    have hpos := (validG_iff.1 hv).pos
    have HFO := hid (rFormed_c _ _ B U w2 (HX.out _ hB2) (HY.out _ hB2) (by omega) hU)
    obtain ⟨c0, c1, _, _⟩ := b2.cells
    clear hv
    go_wp2_with fail
    refine HFO.out.mono ?_
    rintro e w3 ⟨rfl, hb3⟩
    have hB3 := hB2.trans (hb3.mono hB2.size)
    have b3 := b2.below hb3 b2.lt
    clear HFO hB2 b2 hb3 c0 c1
    cases hf : formedB B.length U
    · have HF := hid (check_5 HVL.out hf)
      clear hf
      go_wp2_with fail
      go_ret
      exact ⟨by rw [HF.out]; rfl, hB3⟩
    · have HFM := hid hf
      have HB3 := hid hB3
      have HX3 := hid b3
      clear hf hB3 b3
      go_wp2_with fail
      go_loopw [6] (fun i wr => ∃ k : Nat, k ≤ B.length ∧ i = .int .i64 k ∧ Hid (∀ (m : Nat) (h : m < B.length), m < k → sub B[m] (allV ((L.length : Int) - 1)) = true) ∧ Hid (Box2 wr w.heap.size 33 (.slice p3 B.length c3) (.slice p4 U.length c4)) ∧ Hid (Below w.heap.size w wr)) (fun i _ => B.length - (intOf i).toNat)
      case atStart => exact ⟨0, Nat.zero_le _, rfl, fun m h h' => by omega, HX3.out, HB3.out⟩
      case round =>
        clear HX3 HB3
        obtain ⟨k, hk, rfl, hall, hbx, hBr⟩ := hrel
        obtain ⟨c0, c1, _, _⟩ := hbx.out.cells
        by_cases hkl : k < B.length
        · obtain ⟨b1, o1, c', e1, l1⟩ := (HX.out _ hBr.out).form (by omega)
          injection e1 with e1 _ e2
          subst e1; subst e2
          obtain ⟨s, hs, q0, q1⟩ := (HX.out _ hBr.out).get k hkl
          have zk : (0 : Int) ≤ (k : Int) ∧ (k : Int) < (B.length : Int) := by omega
          have HNO := hid (show sub s (allV ((L.length : Int) - 1)) = false → inAll ((L.length : Int) - 1) B = false from fun h => by
            cases e : inAll ((L.length : Int) - 1) B
            · rfl
            · unfold inAll at e
              rw [List.all_eq_true] at e
              have := e B[k] (List.getElem_mem hkl)
              rw [hs, h] at this
              cases this)
          have HYS := hid (show sub s (allV ((L.length : Int) - 1)) = true → ∀ (m : Nat) (h : m < B.length), m < k + 1 → sub B[m] (allV ((L.length : Int) - 1)) = true from fun h m hm' hmk => by
            by_cases e : m = k
            · subst e; rw [hs]; exact h
            · exact hall.out m hm' (by omega))
          have RS : Hid (wr.drew.cell? ⟨b1, o1 + k * 2, none⟩ = some (.int .u64 ((lw s).toNat : Int)) ∧ wr.drew.cell? ⟨b1, o1 + k * 2 + 1, none⟩ = some (.int .u64 ((hw s).toNat : Int))) := ⟨q0, q1⟩
          have BX : Hid (Box2 wr.drew w.heap.size 33 (.slice (some ⟨b1, o1, none⟩) B.length c3) (.slice p4 U.length c4)) := hbx.out
          clear hs q0 q1
          go_wp2_with fail
          clear c0 c1
          cases hsb : sub s (allV ((L.length : Int) - 1))
          · have HSB := hid hsb
            refine Go.Proofs.YtmlecpapoeodkaaDoor.wp_region_L 9 7 (fun w' => Box2 w' (w.heap.size) 33 (.slice (some ⟨b1, o1, none⟩) B.length c3) (.slice p4 U.length c4) ∧ (w'.cell? ⟨b1, o1 + k * 2, none⟩ = some (.int .u64 ((lw (s)).toNat : Int)) ∧ w'.cell? ⟨b1, o1 + k * 2 + 1, none⟩ = some (.int .u64 ((hw (s)).toNat : Int)))) (by kernel_rfl) rfl ⟨BX.out, RS.out⟩ (fun _ => ?_)
            refine wpAnyL_pure (i := 0) (v := .pointer (some ⟨w.heap.size, 0, none⟩)) (by simp only [List.getElem?_toArray, List.getElem?_cons_zero] <;> rfl) (by kernel_rfl) (by kernel_rfl) (by kernel_rfl) (by exact fun _ _ _ h => h) (by decide) (.inr ⟨BX.out, RS.out⟩) (Or.inl ⟨by rfl, fun w _ => (by simp [execOp, go_sem, Act.eval])⟩) (fun _ => ?_)
            simp only [Act.put, List.setIfInBounds_toArray, List.set_cons_zero, List.set_cons_succ]
            refine wpAnyL_load2 (i := 1) (v := .slice (some ⟨b1, o1, none⟩) B.length c3) (by simp only [List.getElem?_toArray, List.getElem?_cons_zero, List.getElem?_cons_succ] <;> rfl) (by kernel_rfl) (by kernel_rfl) (by kernel_rfl) (by exact fun _ _ _ h => h) (by decide) (Waits.more (j := 4) rfl ⟨⟨4, .data⟩, by simp, rfl, rfl⟩ (Waits.more (j := 3) rfl ⟨⟨3, .data⟩, by simp, rfl, rfl⟩ (Waits.one rfl ⟨⟨1, .data⟩, by simp, rfl, rfl⟩))) (by kernel_rfl) (by kernel_rfl) (.inr ⟨BX.out, RS.out⟩) (Or.inl ⟨by rfl, fun w hw => (by obtain ⟨x0, _⟩ := hw; simp [execOp, go_sem, Act.eval, x0.cells.1])⟩) (fun _ => ?_)
            simp only [Act.put, List.setIfInBounds_toArray, List.set_cons_zero, List.set_cons_succ]
            refine wpAnyL_pure (i := 2) (v := .int .i64 (k : Int)) (by simp only [List.getElem?_toArray, List.getElem?_cons_zero, List.getElem?_cons_succ] <;> rfl) (by kernel_rfl) (by kernel_rfl) (by kernel_rfl) (by exact fun _ _ _ h => h) (by decide) (.inr ⟨BX.out, RS.out⟩) (Or.inl ⟨by rfl, fun w _ => (by simp [execOp, go_sem, Act.eval])⟩) (fun _ => ?_)
            simp only [Act.put, List.setIfInBounds_toArray, List.set_cons_zero, List.set_cons_succ]
            refine wpAnyL_pure (i := 3) (v := .pointer (some ⟨b1, o1 + k * 2, none⟩)) (by simp only [List.getElem?_toArray, List.getElem?_cons_zero, List.getElem?_cons_succ] <;> rfl) (by kernel_rfl) (by kernel_rfl) (by kernel_rfl) (by exact fun _ _ _ h => h) (by decide) (.inr ⟨BX.out, RS.out⟩) (Or.inl ⟨by rfl, fun w _ => (by simp [execOp, go_sem, Act.eval, zk])⟩) (fun _ => ?_)
            simp only [Act.put, List.setIfInBounds_toArray, List.set_cons_zero, List.set_cons_succ]
            refine wpAnyL_load2 (i := 4) (v := encS (s)) (by simp only [List.getElem?_toArray, List.getElem?_cons_zero, List.getElem?_cons_succ] <;> rfl) (by kernel_rfl) (by kernel_rfl) (by kernel_rfl) (by exact fun _ _ _ h => h) (by decide) (Waits.one rfl ⟨⟨4, .data⟩, by simp, rfl, rfl⟩) (by kernel_rfl) (by kernel_rfl) (.inr ⟨BX.out, RS.out⟩) (Or.inl ⟨by rfl, fun w hw => (by obtain ⟨_, ⟨y1, z1⟩⟩ := hw; simp [execOp, go_sem, Act.eval, y1, z1])⟩) (fun _ => ?_)
            simp only [Act.put, List.setIfInBounds_toArray, List.set_cons_zero, List.set_cons_succ]
            refine wpAnyL_pure (i := 5) (v := .int .i64 ((L.length : Int) - 1)) (by simp only [List.getElem?_toArray, List.getElem?_cons_zero, List.getElem?_cons_succ] <;> rfl) (by kernel_rfl) (by kernel_rfl) (by kernel_rfl) (by exact fun _ _ _ h => h) (by decide) (.inr ⟨BX.out, RS.out⟩) (Or.inl ⟨by rfl, fun w _ => (by simp [execOp, go_sem, Act.eval])⟩) (fun _ => ?_)
            simp only [Act.put, List.setIfInBounds_toArray, List.set_cons_zero, List.set_cons_succ]
            refine wpAnyL_one (i := 6) (by kernel_rfl) (by simp only [List.getElem?_toArray, List.getElem?_cons_zero, List.getElem?_cons_succ] <;> rfl) (by rfl) ?_
            refine opwp_call (f := 63) (args := #[.int .i64 ((L.length : Int) - 1)]) (w' := wr.drew) (by simp [go_sem, Act.eval]) ?_
            refine (rAll_c ((L.length : Int) - 1) wr.drew).mono ?_
            rintro e w4 ⟨rfl, hb4⟩
            have hc1_0 := hid (BX.out.below hb4 BX.out.lt)
            have hc1_1 := hid (show (w4.cell? ⟨b1, o1 + k * 2, none⟩ = some (.int .u64 ((lw (s)).toNat : Int)) ∧ w4.cell? ⟨b1, o1 + k * 2 + 1, none⟩ = some (.int .u64 ((hw (s)).toNat : Int))) from ⟨(hb4.cell (cell_lt RS.out.1)).trans RS.out.1, (hb4.cell (cell_lt RS.out.2)).trans RS.out.2⟩)
            refine .inl ⟨_, rfl, .inr ⟨hc1_0.out, hc1_1.out⟩, ?_⟩
            simp only [Act.put, List.setIfInBounds_toArray, List.set_cons_zero, List.set_cons_succ]
            refine wpAnyL_one (i := 7) (by kernel_rfl) (by simp only [List.getElem?_toArray, List.getElem?_cons_zero, List.getElem?_cons_succ] <;> rfl) (by rfl) ?_
            refine opwp_call (f := 62) (args := #[encS (s), encS (allV ((L.length : Int) - 1))]) (w' := w4) (by simp [go_sem, Act.eval]) ?_
            refine (rSub_c s (allV ((L.length : Int) - 1)) w4).mono ?_
            rintro e w5 ⟨rfl, hb5⟩
            rw [hsb]
            refine .inl ⟨_, rfl, .inl (by kernel_rfl), ?_⟩
            simp only [Act.put, List.setIfInBounds_toArray, List.set_cons_zero, List.set_cons_succ]
            refine wpAnyL_pure (i := 8) (v := .bool true) (by simp only [List.getElem?_toArray, List.getElem?_cons_zero, List.getElem?_cons_succ] <;> rfl) (by kernel_rfl) (by kernel_rfl) (by kernel_rfl) (by exact fun _ _ _ h => h) (by decide) (.inl (by kernel_rfl)) (Or.inl ⟨by rfl, fun w _ => (by simp [execOp, go_sem, Act.eval])⟩) (fun _ => ?_)
            simp only [Act.put, List.setIfInBounds_toArray, List.set_cons_zero, List.set_cons_succ]
            refine wpAnyL_done (by kernel_rfl) ?_ _
            have hb45 : Below wr.heap.size wr w5 := ((Below.refl _ wr).drew.trans hb4).trans (hb5.mono hb4.size)
            have hB5 := hid (hBr.out.trans (hb45.mono hBr.out.size))
            have hx5 := hid (hbx.out.below hb45 hbx.out.lt)
            clear hb4 hb5 hb45 RS BX hsb
            go_wp2_with fail
            go_ret
            exact ⟨by rw [check_6 HVL.out HFM.out (HNO.out HSB.out)]; rfl, hB5.out⟩
          · have HSB := hid hsb
            refine Go.Proofs.YtmlecpapoeodkaaDoor.wp_region_L 9 7 (fun w' => Box2 w' (w.heap.size) 33 (.slice (some ⟨b1, o1, none⟩) B.length c3) (.slice p4 U.length c4) ∧ (w'.cell? ⟨b1, o1 + k * 2, none⟩ = some (.int .u64 ((lw (s)).toNat : Int)) ∧ w'.cell? ⟨b1, o1 + k * 2 + 1, none⟩ = some (.int .u64 ((hw (s)).toNat : Int)))) (by kernel_rfl) rfl ⟨BX.out, RS.out⟩ (fun _ => ?_)
            refine wpAnyL_pure (i := 0) (v := .pointer (some ⟨w.heap.size, 0, none⟩)) (by simp only [List.getElem?_toArray, List.getElem?_cons_zero] <;> rfl) (by kernel_rfl) (by kernel_rfl) (by kernel_rfl) (by exact fun _ _ _ h => h) (by decide) (.inr ⟨BX.out, RS.out⟩) (Or.inl ⟨by rfl, fun w _ => (by simp [execOp, go_sem, Act.eval])⟩) (fun _ => ?_)
            simp only [Act.put, List.setIfInBounds_toArray, List.set_cons_zero, List.set_cons_succ]
            refine wpAnyL_load2 (i := 1) (v := .slice (some ⟨b1, o1, none⟩) B.length c3) (by simp only [List.getElem?_toArray, List.getElem?_cons_zero, List.getElem?_cons_succ] <;> rfl) (by kernel_rfl) (by kernel_rfl) (by kernel_rfl) (by exact fun _ _ _ h => h) (by decide) (Waits.more (j := 4) rfl ⟨⟨4, .data⟩, by simp, rfl, rfl⟩ (Waits.more (j := 3) rfl ⟨⟨3, .data⟩, by simp, rfl, rfl⟩ (Waits.one rfl ⟨⟨1, .data⟩, by simp, rfl, rfl⟩))) (by kernel_rfl) (by kernel_rfl) (.inr ⟨BX.out, RS.out⟩) (Or.inl ⟨by rfl, fun w hw => (by obtain ⟨x0, _⟩ := hw; simp [execOp, go_sem, Act.eval, x0.cells.1])⟩) (fun _ => ?_)
            simp only [Act.put, List.setIfInBounds_toArray, List.set_cons_zero, List.set_cons_succ]
            refine wpAnyL_pure (i := 2) (v := .int .i64 (k : Int)) (by simp only [List.getElem?_toArray, List.getElem?_cons_zero, List.getElem?_cons_succ] <;> rfl) (by kernel_rfl) (by kernel_rfl) (by kernel_rfl) (by exact fun _ _ _ h => h) (by decide) (.inr ⟨BX.out, RS.out⟩) (Or.inl ⟨by rfl, fun w _ => (by simp [execOp, go_sem, Act.eval])⟩) (fun _ => ?_)
            simp only [Act.put, List.setIfInBounds_toArray, List.set_cons_zero, List.set_cons_succ]
            refine wpAnyL_pure (i := 3) (v := .pointer (some ⟨b1, o1 + k * 2, none⟩)) (by simp only [List.getElem?_toArray, List.getElem?_cons_zero, List.getElem?_cons_succ] <;> rfl) (by kernel_rfl) (by kernel_rfl) (by kernel_rfl) (by exact fun _ _ _ h => h) (by decide) (.inr ⟨BX.out, RS.out⟩) (Or.inl ⟨by rfl, fun w _ => (by simp [execOp, go_sem, Act.eval, zk])⟩) (fun _ => ?_)
            simp only [Act.put, List.setIfInBounds_toArray, List.set_cons_zero, List.set_cons_succ]
            refine wpAnyL_load2 (i := 4) (v := encS (s)) (by simp only [List.getElem?_toArray, List.getElem?_cons_zero, List.getElem?_cons_succ] <;> rfl) (by kernel_rfl) (by kernel_rfl) (by kernel_rfl) (by exact fun _ _ _ h => h) (by decide) (Waits.one rfl ⟨⟨4, .data⟩, by simp, rfl, rfl⟩) (by kernel_rfl) (by kernel_rfl) (.inr ⟨BX.out, RS.out⟩) (Or.inl ⟨by rfl, fun w hw => (by obtain ⟨_, ⟨y1, z1⟩⟩ := hw; simp [execOp, go_sem, Act.eval, y1, z1])⟩) (fun _ => ?_)
            simp only [Act.put, List.setIfInBounds_toArray, List.set_cons_zero, List.set_cons_succ]
            refine wpAnyL_pure (i := 5) (v := .int .i64 ((L.length : Int) - 1)) (by simp only [List.getElem?_toArray, List.getElem?_cons_zero, List.getElem?_cons_succ] <;> rfl) (by kernel_rfl) (by kernel_rfl) (by kernel_rfl) (by exact fun _ _ _ h => h) (by decide) (.inr ⟨BX.out, RS.out⟩) (Or.inl ⟨by rfl, fun w _ => (by simp [execOp, go_sem, Act.eval])⟩) (fun _ => ?_)
            simp only [Act.put, List.setIfInBounds_toArray, List.set_cons_zero, List.set_cons_succ]
            refine wpAnyL_one (i := 6) (by kernel_rfl) (by simp only [List.getElem?_toArray, List.getElem?_cons_zero, List.getElem?_cons_succ] <;> rfl) (by rfl) ?_
            refine opwp_call (f := 63) (args := #[.int .i64 ((L.length : Int) - 1)]) (w' := wr.drew) (by simp [go_sem, Act.eval]) ?_
            refine (rAll_c ((L.length : Int) - 1) wr.drew).mono ?_
            rintro e w4 ⟨rfl, hb4⟩
            have hc1_0 := hid (BX.out.below hb4 BX.out.lt)
            have hc1_1 := hid (show (w4.cell? ⟨b1, o1 + k * 2, none⟩ = some (.int .u64 ((lw (s)).toNat : Int)) ∧ w4.cell? ⟨b1, o1 + k * 2 + 1, none⟩ = some (.int .u64 ((hw (s)).toNat : Int))) from ⟨(hb4.cell (cell_lt RS.out.1)).trans RS.out.1, (hb4.cell (cell_lt RS.out.2)).trans RS.out.2⟩)
            refine .inl ⟨_, rfl, .inr ⟨hc1_0.out, hc1_1.out⟩, ?_⟩
            simp only [Act.put, List.setIfInBounds_toArray, List.set_cons_zero, List.set_cons_succ]
            refine wpAnyL_one (i := 7) (by kernel_rfl) (by simp only [List.getElem?_toArray, List.getElem?_cons_zero, List.getElem?_cons_succ] <;> rfl) (by rfl) ?_
            refine opwp_call (f := 62) (args := #[encS (s), encS (allV ((L.length : Int) - 1))]) (w' := w4) (by simp [go_sem, Act.eval]) ?_
            refine (rSub_c s (allV ((L.length : Int) - 1)) w4).mono ?_
            rintro e w5 ⟨rfl, hb5⟩
            rw [hsb]
            refine .inl ⟨_, rfl, .inl (by kernel_rfl), ?_⟩
            simp only [Act.put, List.setIfInBounds_toArray, List.set_cons_zero, List.set_cons_succ]
            refine wpAnyL_pure (i := 8) (v := .bool false) (by simp only [List.getElem?_toArray, List.getElem?_cons_zero, List.getElem?_cons_succ] <;> rfl) (by kernel_rfl) (by kernel_rfl) (by kernel_rfl) (by exact fun _ _ _ h => h) (by decide) (.inl (by kernel_rfl)) (Or.inl ⟨by rfl, fun w _ => (by simp [execOp, go_sem, Act.eval])⟩) (fun _ => ?_)
            simp only [Act.put, List.setIfInBounds_toArray, List.set_cons_zero, List.set_cons_succ]
            refine wpAnyL_done (by kernel_rfl) ?_ _
            have hb45 : Below wr.heap.size wr w5 := ((Below.refl _ wr).drew.trans hb4).trans (hb5.mono hb4.size)
            have hB5 := hid (hBr.out.trans (hb45.mono hBr.out.size))
            have hx5 := hid (hbx.out.below hb45 hbx.out.lt)
            clear hb4 hb5 hb45 RS BX hsb
            go_wp2_with fail
            go_roundw
            case rel => exact ⟨k + 1, by omega, by go_num, HYS.out HSB.out, hx5, hB5⟩
            case measure => simp [intOf]; omega
        · have HIN := hid (show inAll ((L.length : Int) - 1) B = true from by
            unfold inAll
            rw [List.all_eq_true]
            intro s hs
            obtain ⟨m, hm, rfl⟩ := List.getElem_of_mem hs
            exact hall.out m hm (by omega))
          go_wp2_with fail
          clear c0 c1 hkl hall hk
          go_loopw [7] (fun i wr => ∃ a : Nat, 1 ≤ a ∧ a ≤ L.length ∧ i = .int .i64 a ∧ Hid (∀ a' b' : Nat, 1 ≤ a' → a' < a → 1 ≤ b' → b' < L.length → CovP L B a' b') ∧ Hid (Box2 wr w.heap.size 33 (.slice p3 B.length c3) (.slice p4 U.length c4)) ∧ Hid (Below w.heap.size w wr)) (fun i _ => L.length - (intOf i).toNat)
          case atStart => exact ⟨1, Nat.le_refl _, hpos, rfl, fun a' b' h h' => by omega, hbx, hBr⟩
          case round =>
            clear hbx hBr
            obtain ⟨a, ha1, ha, rfl, hcov, hbx, hBr⟩ := hrel
            by_cases hal : a < L.length
            · have z2 : decide ((a : Int) ≤ (L.length : Int) - 1) = true := decide_eq_true (by omega)
              have z3 : (a : Int) ≤ (L.length : Int) - 1 := by omega
              go_wp2_with fail
              go_loopw [8] (fun i wr => ∃ b : Nat, 1 ≤ b ∧ b ≤ L.length ∧ i = .int .i64 b ∧ Hid (∀ b' : Nat, 1 ≤ b' → b' < b → CovP L B a b') ∧ Hid (Box2 wr w.heap.size 33 (.slice p3 B.length c3) (.slice p4 U.length c4)) ∧ Hid (Below w.heap.size w wr)) (fun i _ => L.length - (intOf i).toNat)
              case atStart => exact ⟨1, Nat.le_refl _, hpos, rfl, fun b' h h' => by omega, hbx, hBr⟩
              case round =>
                clear hbx hBr
                obtain ⟨b, hb1, hb, rfl, hcb, hbx, hBr⟩ := hrel
                by_cases hbl : b < L.length
                · have z4 : decide ((b : Int) ≤ (L.length : Int) - 1) = true := decide_eq_true (by omega)
                  have z5 : (b : Int) ≤ (L.length : Int) - 1 := by omega
                  have HST := hid (show CovP L B a b → ∀ b' : Nat, 1 ≤ b' → b' < b + 1 → CovP L B a b' from fun h b' h1 h2 => by
                    by_cases e : b' = b
                    · subst e; exact h
                    · exact hcb.out b' h1 (by omega))
                  have HBAD := hid (show ¬ CovP L B a b → checkW L B U = 3 from fun h => check_3 HVL.out HFM.out HIN.out ⟨ha1, hal⟩ h)
                  have HTG := hid (fun w' (h : Below w.heap.size w w') => rTog_c _ (.slice p4 U.length c4) B (a : Int) (b : Int) w' (HX.out w' h) (by omega))
                  by_cases hab : a = b
                  · subst hab
                    obtain ⟨c0, c1, _, _⟩ := hbx.out.cells
                    have HB5 := hBr
                    have HX5 := hbx
                    go_wp2_with fail
                    refine (HTG.out _ HB5.out).mono ?_
                    rintro e w6 ⟨rfl, hb6⟩
                    have HB6 := hid (HB5.out.trans (hb6.mono HB5.out.size))
                    have HX6 := hid (HX5.out.below hb6 HX5.out.lt)
                    clear hb6 c0 c1
                    cases htg : togB B (a : Int) (a : Int)
                    · have HF := hid (HBAD.out fun h => by rw [h (.inl rfl)] at htg; cases htg)
                      clear htg
                      go_wp2_with fail
                      go_ret
                      exact ⟨by rw [HF.out]; rfl, HB6.out⟩
                    · have HK := hid (HST.out fun _ => htg)
                      clear htg
                      go_wp2_with fail
                      go_roundw
                      case rel => exact ⟨a + 1, by omega, by omega, by go_num, HK.out, HX6, HB6⟩
                      case measure => simp [intOf]; omega
                  · have z9 : ((a : Int) == (b : Int)) = false := by rw [beq_eq_false_iff_ne]; omega
                    have z10 : ¬ (a : Int) = (b : Int) := by omega
                    obtain ⟨b1, o1, c', e1, l1⟩ := (HI.out _ hBr.out).form (by omega)
                    injection e1 with e1 _ e2
                    subst e1; subst e2
                    obtain ⟨s, hs, q0, q1⟩ := (HI.out _ hBr.out).get a hal
                    have HGS := hid ((gOf_nat L a hal).trans hs)
                    have za : (0 : Int) ≤ (a : Int) ∧ (a : Int) < (L.length : Int) := by omega
                    have HH := hid (rHas_c s (b : Int) wr)
                    clear hs
                    go_wp2_with fail
                    refine HH.out.mono ?_
                    rintro e w5 ⟨rfl, hb5⟩
                    have HB5 := hid (hBr.out.trans (hb5.mono hBr.out.size))
                    have HX5 := hid (hbx.out.below hb5 hbx.out.lt)
                    clear hb5 q0 q1 HH
                    cases hh : has s (b : Int)
                    · have HK := hid (HST.out fun h => by
                        rcases h with h | h
                        · exact absurd h hab
                        · rw [HGS.out, hh] at h; cases h)
                      clear hh
                      go_wp2_with fail
                      go_roundw
                      case rel => exact ⟨b + 1, by omega, by omega, by go_num, HK.out, HX5, HB5⟩
                      case measure => simp [intOf]; omega
                    · have HHH := hid (show has (gOf L (a : Int)) (b : Int) = true from by rw [HGS.out]; exact hh)
                      clear hh
                      obtain ⟨c0, c1, _, _⟩ := HX5.out.cells
                      go_wp2_with fail
                      refine (HTG.out _ HB5.out).mono ?_
                      rintro e w6 ⟨rfl, hb6⟩
                      have HB6 := hid (HB5.out.trans (hb6.mono HB5.out.size))
                      have HX6 := hid (HX5.out.below hb6 HX5.out.lt)
                      clear hb6 c0 c1
                      cases htg : togB B (a : Int) (b : Int)
                      · have HF := hid (HBAD.out fun h => by rw [h (.inr HHH.out)] at htg; cases htg)
                        clear htg
                        go_wp2_with fail
                        go_ret
                        exact ⟨by rw [HF.out]; rfl, HB6.out⟩
                      · have HK := hid (HST.out fun _ => htg)
                        clear htg
                        go_wp2_with fail
                        go_roundw
                        case rel => exact ⟨b + 1, by omega, by omega, by go_num, HK.out, HX6, HB6⟩
                        case measure => simp [intOf]; omega
                · have z4 : decide ((b : Int) ≤ (L.length : Int) - 1) = false := decide_eq_false (by omega)
                  have z5 : ¬ (b : Int) ≤ (L.length : Int) - 1 := by omega
                  have HK := hid (show ∀ a' b' : Nat, 1 ≤ a' → a' < a + 1 → 1 ≤ b' → b' < L.length → CovP L B a' b' from fun a' b' h1 h2 h3 h4 => by
                    by_cases e : a' = a
                    · subst e; exact hcb.out b' h3 (by omega)
                    · exact hcov.out a' b' h1 (by omega) h3 h4)
                  go_wp2_with fail
                  go_roundw
                  case rel => exact ⟨a + 1, by omega, by omega, by go_num, HK.out, hbx, hBr⟩
                  case measure => simp [intOf]; omega
            · have z2 : decide ((a : Int) ≤ (L.length : Int) - 1) = false := decide_eq_false (by omega)
              have z3 : ¬ (a : Int) ≤ (L.length : Int) - 1 := by omega
              have HCV := hid (cov_yes (validG_iff.1 HVL.out) fun a' b' h1 h2 h3 h4 => hcov.out a' b' h1 (by omega) h3 h4)
              go_wp2_with fail
              clear z2 z3
              go_loopw [9] (fun i wr => ∃ d : Nat, 1 ≤ d ∧ d ≤ L.length ∧ i = .int .i64 d ∧ Hid (∀ d' : Nat, 1 ≤ d' → d' < d → Uniq B U (d' : Int)) ∧ Hid (Box2 wr w.heap.size 33 (.slice p3 B.length c3) (.slice p4 U.length c4)) ∧ Hid (Below w.heap.size w wr)) (fun i _ => L.length - (intOf i).toNat)
              case atStart => exact ⟨1, Nat.le_refl _, hpos, rfl, fun d' h h' => by omega, hbx, hBr⟩
              case round =>
                clear hbx hBr
                obtain ⟨d, hd1, hd, rfl, hun, hbx, hBr⟩ := hrel
                by_cases hdl : d < L.length
                · have z2 : decide ((d : Int) ≤ (L.length : Int) - 1) = true := decide_eq_true (by omega)
                  have z3 : (d : Int) ≤ (L.length : Int) - 1 := by omega
                  obtain ⟨c0, c1, _, _⟩ := hbx.out.cells
                  have HCN := hid (rConn_c _ _ B U (d : Int) wr (HX.out _ hBr.out) (HY.out _ hBr.out) (formedB_iff.1 HFM.out) (by omega))
                  go_wp2_with fail
                  refine HCN.out.mono ?_
                  rintro e w5 ⟨r, rfl, hr, hb5⟩
                  have HB5 := hid (hBr.out.trans (hb5.mono hBr.out.size))
                  have HX5 := hid (hbx.out.below hb5 hbx.out.lt)
                  have HR := hid hr
                  clear hb5 c0 c1 HCN hr
                  cases r
                  · have HF := hid (check_210 HVL.out HFM.out HIN.out HCV.out (a := (d : Int)) (fun h => by have := HR.out.2 h; cases this))
                    go_wp2_with fail
                    go_ret
                    exact ⟨by rw [HF.out]; rfl, HB5.out⟩
                  · have HK := hid (show ∀ d' : Nat, 1 ≤ d' → d' < d + 1 → Uniq B U (d' : Int) from fun d' h1 h2 => by
                      by_cases e : d' = d
                      · subst e; exact HR.out.1 rfl
                      · exact hun.out d' h1 (by omega))
                    go_wp2_with fail
                    go_roundw
                    case rel => exact ⟨d + 1, by omega, by omega, by go_num, HK.out, HX5, HB5⟩
                    case measure => simp [intOf]; omega
                · have z2 : decide ((d : Int) ≤ (L.length : Int) - 1) = false := decide_eq_false (by omega)
                  have z3 : ¬ (d : Int) ≤ (L.length : Int) - 1 := by omega
                  have HF := hid (check_0 HVL.out HFM.out HIN.out HCV.out fun d' h1 h2 => hun.out d' h1 (by omega))
                  go_wp2_with fail
                  go_ret
                  exact ⟨by rw [HF.out]; rfl, hBr.out⟩
end Go.Proofs.YtmlecpapoeodkaaDoor
