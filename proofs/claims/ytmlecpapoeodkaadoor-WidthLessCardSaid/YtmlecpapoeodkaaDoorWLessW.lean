/- The walk of the law WidthLess. -/
import Derived.Test.YtmlecpapoeodkaaDoorWWorks
import Derived.Test.YtmlecpapoeodkaaDoorWLow
import Derived.Test.YtmlecpapoeodkaaDoorWLess
namespace Go.Proofs.YtmlecpapoeodkaaDoor
open Go.RowKit
attribute [local go_sem ↓] run_eqlS run_neqS run_eqlS0 run_neqS0

theorem lessL_eq {L : List VS} {a b : Int} (ha : 0 ≤ a ∧ a < (L.length : Int)) (_hb : 0 ≤ b ∧ b < (L.length : Int)) : (L.set a.toNat (withoutV (gOf L a) b)).set b.toNat (withoutV (gOf L b) a) = lessL L a b := by
  unfold lessL
  rw [gOf_set' L ha.1 ha.2]
  by_cases e : b = a
  · subst e
    rw [if_pos rfl]
    congr 1
    apply ext_has
    intro u _ _
    rw [has_withoutV, has_withoutV, has_withoutV]
    cases has (gOf L b) u <;> simp
  · rw [if_neg e]
set_option maxRecDepth 100000 in
set_option maxHeartbeats 8000000 in
theorem widthLess_walk (v : Value) (L : List VS) (x y : Value) (B : List VS) (U : List Int) (za zb : Int) (w : World) (hT : TabAt w) (hI : SetsAt w v L) (hL : L.length ≤ 9223372036854775807)
    (hx : SetsAt w x B) (hy : IntsAt w y U) (hB : B.length ≤ 9223372036854775807) (hU : U.length ≤ 9223372036854775807) (hza : 0 ≤ za ∧ za ≤ 255) (hzb : 0 ≤ zb ∧ zb ≤ 255) :
    Calls Tryd.prog 9 #[v, .agg #[x, y], .agg #[.int .u8 za, .int .u8 zb]] w (LawPost w) := by
  have HW := hid (fun w' (h : Below w.heap.size w w') => works_c w' (hT.below hT.lt h))
  have HI := hid (fun w' (h : Below w.heap.size w w') => hI.below h)
  have HX := hid (fun w' (h : Below w.heap.size w w') => hx.below h)
  have HY := hid (fun w' (h : Below w.heap.size w w') => hy.below h)
  obtain ⟨p, c, rfl, hdrop⟩ := id hI
  obtain ⟨p3, c3, rfl, hdrop3⟩ := id hx
  obtain ⟨p4, c4, rfl, hdrop4⟩ := id hy
  clear hdrop hdrop3 hdrop4 hI hx hy
  have hB0 : Below w.heap.size w ((w.alloc (.cells #[.slice p3 B.length c3, .slice p4 U.length c4] 33)).alloc (.cells #[.int .u8 za, .int .u8 zb] 58)) := ((Below.refl _ w).alloc (Nat.le_refl _) _).alloc (by simp) _
  have b0 := (Box2.new w 33 (.slice p3 B.length c3) (.slice p4 U.length c4)).alloc (.cells #[.int .u8 za, .int .u8 zb] 58)
  have z0 := Box2.new (w.alloc (.cells #[.slice p3 B.length c3, .slice p4 U.length c4] 33)) 58 (.int .u8 za) (.int .u8 zb)
  rw [World.size_alloc] at z0
  obtain ⟨d0, d1, _, _⟩ := b0.cells
  have HF := hid (few_c _ _ B U _ (HX.out _ hB0) (HY.out _ hB0))
  have zl : IntKind.i64.wrap ((L.length : Int) - 1) = (L.length : Int) - 1 := IntWalk.i64_in _ (by omega)
  by_cases h1 : (L.length : Int) - 1 < 1
  · clear HF z0
    go_enter Tryd.func9, Tryd.ntmps9
    go_wp2_with fail
    refine (HW.out _ hB0).mono ?_
    rintro e w2 ⟨rfl, hb2⟩
    have hB2 := hB0.trans (hb2.mono hB0.size)
    go_wp2_with fail
    go_ret
    exact ⟨rfl, hB2⟩
  · by_cases h2 : 128 < (L.length : Int) - 1
    · clear HF z0
      go_enter Tryd.func9, Tryd.ntmps9
      go_wp2_with fail
      refine (HW.out _ hB0).mono ?_
      rintro e w2 ⟨rfl, hb2⟩
      have hB2 := hB0.trans (hb2.mono hB0.size)
      go_wp2_with fail
      go_ret
      exact ⟨rfl, hB2⟩
    · go_enter Tryd.func9, Tryd.ntmps9
      go_wp2_with fail
      refine HF.out.mono ?_
      rintro e w2 ⟨rfl, hb2⟩
      have hB2 := hB0.trans (hb2.mono hB0.size)
      have b2 := b0.below hb2 b0.lt
      have z2 := z0.below hb2 z0.lt
      clear d0 d1 b0 z0 hb2 hB0 HF
      cases hf : fewB B U
      · clear hf
        go_wp2_with fail
        refine (HW.out _ hB2).mono ?_
        rintro e w3 ⟨rfl, hb3⟩
        have hB3 := hB2.trans (hb3.mono hB2.size)
        go_wp2_with fail
        go_ret
        exact ⟨rfl, hB3⟩
      · have hfl : B.length ≤ 100 ∧ U.length ≤ 100 := by
          unfold fewB at hf
          rw [Bool.and_eq_true, decide_eq_true_eq, decide_eq_true_eq] at hf
          exact hf
        obtain ⟨hb100, hu100⟩ := hfl
        obtain ⟨d0, d1, _, _⟩ := b2.cells
        have HGV := hid (given_c _ _ B U w2 (HX.out _ hB2) (HY.out _ hB2) (by omega) (by omega))
        clear hf
        go_wp2_with fail
        refine HGV.out.mono ?_
        rintro e w4 ⟨x2, y2, rfl, ho1, ho2, hb4⟩
        have hX4 := ho1.sets
        have hY4 := ho2.ints
        obtain ⟨q3, g3, rfl, _⟩ := ho1.sets
        obtain ⟨q4, g4, rfl, _⟩ := ho2.ints
        have hba : Below w4.heap.size w4 (w4.alloc (.cells #[.slice q3 B.length g3, .slice q4 U.length g4] 25)) := (Below.refl _ w4).alloc (Nat.le_refl _) _
        have hb5 := hb4.trans (hba.mono hb4.size)
        have hB5 := hB2.trans (hb5.mono hB2.size)
        have z5 := z2.below hb5 z2.lt
        have b5 := Box2.new w4 25 (.slice q3 B.length g3) (.slice q4 U.length g4)
        have hX5 := hX4.below hba
        have hY5 := hY4.below hba
        have hsz4 : w.heap.size + 1 < w4.heap.size := Nat.lt_of_lt_of_le z2.lt hb4.size
        have HCK := hid (Check_c _ _ _ L B U _ (HI.out _ hB5) hX5 hY5 (hT.below hT.lt hB5) (by omega) (by omega) (by omega))
        obtain ⟨a0, a1, _, _⟩ := b5.cells
        have HX5 := hid hX5
        have HY5 := hid hY5
        clear ho1 ho2 hX4 hY4 hba hb4 hb5 d0 d1 b2 z2 HGV hB2 hX5 hY5
        go_wp2_with fail
        generalize w4.alloc (.cells #[.slice q3 B.length g3, .slice q4 U.length g4] 25) = w5 at *
        generalize w4.heap.size = px at *
        refine HCK.out.mono ?_
        rintro e w6 ⟨rfl, hb6⟩
        have hB6 := hB5.trans (hb6.mono hB5.size)
        have z6 := z5.below hb6 z5.lt
        have b6 := b5.below hb6 b5.lt
        have HX6 := hid (HX5.out.below hb6)
        have HY6 := hid (HY5.out.below hb6)
        clear a0 a1 b5 z5 hb6 hB5 HX5 HY5 HCK
        by_cases hk1 : checkW L B U = 1
        · generalize checkW L B U = ck at *
          subst hk1
          go_wp2_with fail
          refine (HW.out _ hB6).mono ?_
          rintro e w7 ⟨rfl, hb7⟩
          have hB7 := hB6.trans (hb7.mono hB6.size)
          go_wp2_with fail
          go_ret
          exact ⟨rfl, hB7⟩
        · have hk2 : (checkW L B U == 1) = false := by rw [beq_eq_false_iff_ne]; exact hk1
          have hV : ValidG L := by
            apply Classical.byContradiction
            intro hn
            apply hk1
            unfold checkW
            rw [if_pos (validG_no hn)]
          obtain ⟨nn, hnn⟩ : ∃ nn : Nat, (L.length : Int) - 1 = (nn : Int) := ⟨L.length - 1, by omega⟩
          obtain ⟨an, rfl⟩ : ∃ an : Nat, za = (an : Int) := ⟨za.toNat, by omega⟩
          obtain ⟨bn, rfl⟩ : ∃ bn : Nat, zb = (bn : Int) := ⟨zb.toNat, by omega⟩
          have hnpos : 0 < nn := by omega
          obtain ⟨ka, hka⟩ : ∃ ka : Nat, ka = an % nn := ⟨_, rfl⟩
          obtain ⟨kb, hkb⟩ : ∃ kb : Nat, kb = bn % nn := ⟨_, rfl⟩
          have ma1 : (an : Int) % (nn : Int) = (ka : Int) := by rw [hka]; push_cast; rfl
          have mb1 : (bn : Int) % (nn : Int) = (kb : Int) := by rw [hkb]; push_cast; rfl
          have ma2 : Int.tmod (an : Int) (nn : Int) = (ka : Int) := by rw [Int.tmod_eq_emod_of_nonneg (by omega)]; exact ma1
          have mb2 : Int.tmod (bn : Int) (nn : Int) = (kb : Int) := by rw [Int.tmod_eq_emod_of_nonneg (by omega)]; exact mb1
          have hka2 : ka < nn := by rw [hka]; exact Nat.mod_lt _ hnpos
          have hkb2 : kb < nn := by rw [hkb]; exact Nat.mod_lt _ hnpos
          have ne3 : ¬ nn = 0 := by omega
          have hLn : L.length = nn + 1 := by omega
          have HLN := hid hLn
          obtain ⟨xa, hxa⟩ : ∃ xa : Nat, xa = ka + 1 := ⟨_, rfl⟩
          obtain ⟨xb, hxb⟩ : ∃ xb : Nat, xb = kb + 1 := ⟨_, rfl⟩
          have hxal : xa < L.length := by omega
          have hxbl : xb < L.length := by omega
          have HCL := hid (check_less (B := B) (U := U) hV (a := (xa : Int)) (b := (xb : Int)) (by omega) (by omega))
          have HLL := hid (lower_less hV (a := (xa : Int)) (b := (xb : Int)) (by omega) (by omega))
          have HLE := hid (lessL_eq (L := L) (a := (xa : Int)) (b := (xb : Int)) (by omega) (by omega))
          have wa : IntKind.i64.wrap (1 + (ka : Int)) = (xa : Int) := by rw [IntWalk.i64_in _ (by omega)]; omega
          have wb : IntKind.i64.wrap (1 + (kb : Int)) = (xb : Int) := by rw [IntWalk.i64_in _ (by omega)]; omega
          have ca : IntKind.i64.wrap (an : Int) = (an : Int) := IntWalk.i64_in _ (by omega)
          have cb : IntKind.i64.wrap (bn : Int) = (bn : Int) := IntWalk.i64_in _ (by omega)
          rw [hnn]
          generalize checkW L B U = ck at *
          have ZB : Hid (Box2 w6.drew (w.heap.size + 1) 58 (.int .u8 (an : Int)) (.int .u8 (bn : Int))) := z6
          have HB7 := hid (hB6.drew)
          have B7 : Hid (Box2 w6.drew px 25 (.slice q3 B.length g3) (.slice q4 U.length g4)) := b6
          have hbd := (Below.refl w6.heap.size w6).drew
          have HX7 := hid (HX6.out.below hbd)
          have HY7 := hid (HY6.out.below hbd)
          clear hbd hka hkb hk1 hnn z6 b6 hB6 HX6 HY6 hxa hxb hLn
          go_wp2_with fail
          refine Go.Proofs.YtmlecpapoeodkaaDoor.wp_region_L 14 13 (fun w' => Box2 w' (w.heap.size + 1) 58 (.int .u8 (an : Int)) (.int .u8 (bn : Int))) (by kernel_rfl) rfl ZB.out (fun _ => ?_)
          refine wpAnyL_pure (i := 0) (v := .pointer (some ⟨w.heap.size + 1, 0, none⟩)) (by simp only [List.getElem?_toArray, List.getElem?_cons_zero] <;> rfl) (by kernel_rfl) (by kernel_rfl) (by kernel_rfl) (by exact fun _ _ _ h => h) (by decide) (.inr ZB.out) (Or.inl ⟨by rfl, fun w _ => (by simp [execOp, go_sem, Act.eval])⟩) (fun _ => ?_)
          simp only [Act.put, List.setIfInBounds_toArray, List.set_cons_zero, List.set_cons_succ]
          refine wpAnyL_load2 (i := 1) (v := .int .u8 (an : Int)) (by simp only [List.getElem?_toArray, List.getElem?_cons_zero, List.getElem?_cons_succ] <;> rfl) (by kernel_rfl) (by kernel_rfl) (by kernel_rfl) (by exact fun _ _ _ h => h) (by decide) (Waits.one rfl ⟨⟨1, .phase⟩, by simp, rfl, rfl⟩) (by kernel_rfl) (by kernel_rfl) (.inr ZB.out) (Or.inl ⟨by rfl, fun w hw => (by have x0 := hw; simp [execOp, go_sem, Act.eval, x0.cells.1])⟩) (fun _ => ?_)
          simp only [Act.put, List.setIfInBounds_toArray, List.set_cons_zero, List.set_cons_succ]
          refine wpAnyL_pure (i := 2) (v := .int .i64 (an : Int)) (by simp only [List.getElem?_toArray, List.getElem?_cons_zero, List.getElem?_cons_succ] <;> rfl) (by kernel_rfl) (by kernel_rfl) (by kernel_rfl) (by exact fun _ _ _ h => h) (by decide) (.inr ZB.out) (Or.inl ⟨by rfl, fun w _ => (by simp [execOp, go_sem, Act.eval, ca])⟩) (fun _ => ?_)
          simp only [Act.put, List.setIfInBounds_toArray, List.set_cons_zero, List.set_cons_succ]
          refine wpAnyL_pure (i := 3) (v := .int .i64 (nn : Int)) (by simp only [List.getElem?_toArray, List.getElem?_cons_zero, List.getElem?_cons_succ] <;> rfl) (by kernel_rfl) (by kernel_rfl) (by kernel_rfl) (by exact fun _ _ _ h => h) (by decide) (.inr ZB.out) (Or.inl ⟨by rfl, fun w _ => (by simp [execOp, go_sem, Act.eval])⟩) (fun _ => ?_)
          simp only [Act.put, List.setIfInBounds_toArray, List.set_cons_zero, List.set_cons_succ]
          refine wpAnyL_pure (i := 4) (v := .int .i64 (ka : Int)) (by simp only [List.getElem?_toArray, List.getElem?_cons_zero, List.getElem?_cons_succ] <;> rfl) (by kernel_rfl) (by kernel_rfl) (by kernel_rfl) (by exact fun _ _ _ h => h) (by decide) (.inr ZB.out) (Or.inl ⟨by rfl, fun w _ => (by simp [execOp, go_sem, Act.eval, ne3, ma2])⟩) (fun _ => ?_)
          simp only [Act.put, List.setIfInBounds_toArray, List.set_cons_zero, List.set_cons_succ]
          refine wpAnyL_pure (i := 5) (v := .int .i64 (xa : Int)) (by simp only [List.getElem?_toArray, List.getElem?_cons_zero, List.getElem?_cons_succ] <;> rfl) (by kernel_rfl) (by kernel_rfl) (by kernel_rfl) (by exact fun _ _ _ h => h) (by decide) (.inr ZB.out) (Or.inl ⟨by rfl, fun w _ => (by simp [execOp, go_sem, Act.eval, wa])⟩) (fun _ => ?_)
          simp only [Act.put, List.setIfInBounds_toArray, List.set_cons_zero, List.set_cons_succ]
          refine wpAnyL_pure (i := 6) (v := .pointer (some ⟨w.heap.size + 1, 1, none⟩)) (by simp only [List.getElem?_toArray, List.getElem?_cons_zero, List.getElem?_cons_succ] <;> rfl) (by kernel_rfl) (by kernel_rfl) (by kernel_rfl) (by exact fun _ _ _ h => h) (by decide) (.inr ZB.out) (Or.inl ⟨by rfl, fun w _ => (by simp [execOp, go_sem, Act.eval])⟩) (fun _ => ?_)
          simp only [Act.put, List.setIfInBounds_toArray, List.set_cons_zero, List.set_cons_succ]
          refine wpAnyL_load2 (i := 7) (v := .int .u8 (bn : Int)) (by simp only [List.getElem?_toArray, List.getElem?_cons_zero, List.getElem?_cons_succ] <;> rfl) (by kernel_rfl) (by kernel_rfl) (by kernel_rfl) (by exact fun _ _ _ h => h) (by decide) (Waits.one rfl ⟨⟨7, .phase⟩, by simp, rfl, rfl⟩) (by kernel_rfl) (by kernel_rfl) (.inr ZB.out) (Or.inl ⟨by rfl, fun w hw => (by have x0 := hw; simp [execOp, go_sem, Act.eval, x0.cells.2.1])⟩) (fun _ => ?_)
          simp only [Act.put, List.setIfInBounds_toArray, List.set_cons_zero, List.set_cons_succ]
          refine wpAnyL_pure (i := 8) (v := .int .i64 (bn : Int)) (by simp only [List.getElem?_toArray, List.getElem?_cons_zero, List.getElem?_cons_succ] <;> rfl) (by kernel_rfl) (by kernel_rfl) (by kernel_rfl) (by exact fun _ _ _ h => h) (by decide) (.inr ZB.out) (Or.inl ⟨by rfl, fun w _ => (by simp [execOp, go_sem, Act.eval, cb])⟩) (fun _ => ?_)
          simp only [Act.put, List.setIfInBounds_toArray, List.set_cons_zero, List.set_cons_succ]
          refine wpAnyL_pure (i := 9) (v := .int .i64 (nn : Int)) (by simp only [List.getElem?_toArray, List.getElem?_cons_zero, List.getElem?_cons_succ] <;> rfl) (by kernel_rfl) (by kernel_rfl) (by kernel_rfl) (by exact fun _ _ _ h => h) (by decide) (.inr ZB.out) (Or.inl ⟨by rfl, fun w _ => (by simp [execOp, go_sem, Act.eval])⟩) (fun _ => ?_)
          simp only [Act.put, List.setIfInBounds_toArray, List.set_cons_zero, List.set_cons_succ]
          refine wpAnyL_pure (i := 10) (v := .int .i64 (kb : Int)) (by simp only [List.getElem?_toArray, List.getElem?_cons_zero, List.getElem?_cons_succ] <;> rfl) (by kernel_rfl) (by kernel_rfl) (by kernel_rfl) (by exact fun _ _ _ h => h) (by decide) (.inr ZB.out) (Or.inl ⟨by rfl, fun w _ => (by simp [execOp, go_sem, Act.eval, ne3, mb2])⟩) (fun _ => ?_)
          simp only [Act.put, List.setIfInBounds_toArray, List.set_cons_zero, List.set_cons_succ]
          refine wpAnyL_pure (i := 11) (v := .int .i64 (xb : Int)) (by simp only [List.getElem?_toArray, List.getElem?_cons_zero, List.getElem?_cons_succ] <;> rfl) (by kernel_rfl) (by kernel_rfl) (by kernel_rfl) (by exact fun _ _ _ h => h) (by decide) (.inr ZB.out) (Or.inl ⟨by rfl, fun w _ => (by simp [execOp, go_sem, Act.eval, wb])⟩) (fun _ => ?_)
          simp only [Act.put, List.setIfInBounds_toArray, List.set_cons_zero, List.set_cons_succ]
          refine wpAnyL_pure (i := 12) (v := .int .i64 (xa : Int)) (by simp only [List.getElem?_toArray, List.getElem?_cons_zero, List.getElem?_cons_succ] <;> rfl) (by kernel_rfl) (by kernel_rfl) (by kernel_rfl) (by exact fun _ _ _ h => h) (by decide) (.inr ZB.out) (Or.inl ⟨by rfl, fun w _ => (by simp [execOp, go_sem, Act.eval])⟩) (fun _ => ?_)
          simp only [Act.put, List.setIfInBounds_toArray, List.set_cons_zero, List.set_cons_succ]
          refine wpAnyL_one (i := 13) (by kernel_rfl) (by simp only [List.getElem?_toArray, List.getElem?_cons_zero, List.getElem?_cons_succ] <;> rfl) (by rfl) ?_
          refine opwp_value (v := .int .i64 (xb : Int)) (w' := w6.drew) (by simp [execOp, go_sem, Act.eval]) ⟨.inl (by kernel_rfl), ?_⟩
          simp only [Act.put, List.setIfInBounds_toArray, List.set_cons_zero, List.set_cons_succ]
          refine wpAnyL_done (by kernel_rfl) ?_ _
          generalize w6.drew = w7 at *
          clear ZB ma1 ma2 mb1 mb2 ne3 wa wb ca cb
          have hn9 := own_noneS w7 (Nat.le_refl w7.heap.size)
          have hbe : Below w7.heap.size w7 (w7.alloc (.cells #[] 32)) := (Below.refl _ w7).alloc (Nat.le_refl _) _
          have hIe := HI.out _ (HB7.out.trans (hbe.mono HB7.out.size))
          go_wp2_with (at_builtin; refine wpList_append_S rfl _ _ rfl w7.heap.size (.slice (some ⟨w7.heap.size, 0, none⟩) 0 0) [] rfl hn9 (.slice p L.length c) L rfl hIe (by simp; omega) (by simp) ?_; intro v8 w8 ho8 hg8 hn8)
          rw [List.nil_append] at ho8
          have hb78 : Below w7.heap.size w7 w8 := hbe.grown hg8 hbe.size (by intro k e; have e' : w7.heap.size = k := Option.some.inj e; omega)
          obtain ⟨g, c8, rfl, hgB, hrow8⟩ := ho8.row (by omega)
          have zxa : (0 : Int) ≤ (xa : Int) ∧ (xa : Int) < (L.length : Int) := by omega
          have zxb : (0 : Int) ≤ (xb : Int) ∧ (xb : Int) < (L.length : Int) := by omega
          obtain ⟨sa, hsa, a0, a1, a2, a3⟩ := hrow8.get xa hxal
          obtain ⟨sb, hsb, b0, b1, b2, b3⟩ := hrow8.get xb hxbl
          have hle := HLE.out
          rw [hsa, hsb, Int.toNat_natCast, Int.toNat_natCast] at hle
          have HLE2 := hid hle
          have RA : Hid (w8.drew.cell? ⟨g, xa * 2, none⟩ = some (.int .u64 ((lw sa).toNat : Int)) ∧ w8.drew.cell? ⟨g, xa * 2 + 1, none⟩ = some (.int .u64 ((hw sa).toNat : Int))) := ⟨a0, a1⟩
          have RB : Hid (w8.drew.cell? ⟨g, xb * 2, none⟩ = some (.int .u64 ((lw sb).toNat : Int)) ∧ w8.drew.cell? ⟨g, xb * 2 + 1, none⟩ = some (.int .u64 ((hw sb).toNat : Int))) := ⟨b0, b1⟩
          have HR8 := hid hrow8
          have HB78 := hid hb78
          clear hn9 hbe hIe ho8 hg8 hn8 hsa hsb a0 a1 a2 a3 b0 b1 b2 b3 hrow8 hb78 hle HLE
          go_wp2_with fail
          refine Go.Proofs.YtmlecpapoeodkaaDoor.wp_region_L 20 15 (fun w' => (w'.cell? ⟨g, xa * 2, none⟩ = some (.int .u64 ((lw (sa)).toNat : Int)) ∧ w'.cell? ⟨g, xa * 2 + 1, none⟩ = some (.int .u64 ((hw (sa)).toNat : Int))) ∧ (w'.cell? ⟨g, xb * 2, none⟩ = some (.int .u64 ((lw (sb)).toNat : Int)) ∧ w'.cell? ⟨g, xb * 2 + 1, none⟩ = some (.int .u64 ((hw (sb)).toNat : Int)))) (by kernel_rfl) rfl ⟨RA.out, RB.out⟩ (fun _ => ?_)
          refine wpAnyL_pure (i := 0) (v := .slice (some ⟨g, 0, none⟩) L.length c8) (by simp only [List.getElem?_toArray, List.getElem?_cons_zero] <;> rfl) (by kernel_rfl) (by kernel_rfl) (by kernel_rfl) (by exact fun _ _ _ h => h) (by decide) (.inr ⟨RA.out, RB.out⟩) (Or.inl ⟨by rfl, fun w _ => (by simp [execOp, go_sem, Act.eval])⟩) (fun _ => ?_)
          simp only [Act.put, List.setIfInBounds_toArray, List.set_cons_zero, List.set_cons_succ]
          refine wpAnyL_pure (i := 1) (v := .int .i64 (xa : Int)) (by simp only [List.getElem?_toArray, List.getElem?_cons_zero, List.getElem?_cons_succ] <;> rfl) (by kernel_rfl) (by kernel_rfl) (by kernel_rfl) (by exact fun _ _ _ h => h) (by decide) (.inr ⟨RA.out, RB.out⟩) (Or.inl ⟨by rfl, fun w _ => (by simp [execOp, go_sem, Act.eval])⟩) (fun _ => ?_)
          simp only [Act.put, List.setIfInBounds_toArray, List.set_cons_zero, List.set_cons_succ]
          refine wpAnyL_pure (i := 2) (v := .slice (some ⟨g, 0, none⟩) L.length c8) (by simp only [List.getElem?_toArray, List.getElem?_cons_zero, List.getElem?_cons_succ] <;> rfl) (by kernel_rfl) (by kernel_rfl) (by kernel_rfl) (by exact fun _ _ _ h => h) (by decide) (.inr ⟨RA.out, RB.out⟩) (Or.inl ⟨by rfl, fun w _ => (by simp [execOp, go_sem, Act.eval])⟩) (fun _ => ?_)
          simp only [Act.put, List.setIfInBounds_toArray, List.set_cons_zero, List.set_cons_succ]
          refine wpAnyL_pure (i := 3) (v := .int .i64 (xb : Int)) (by simp only [List.getElem?_toArray, List.getElem?_cons_zero, List.getElem?_cons_succ] <;> rfl) (by kernel_rfl) (by kernel_rfl) (by kernel_rfl) (by exact fun _ _ _ h => h) (by decide) (.inr ⟨RA.out, RB.out⟩) (Or.inl ⟨by rfl, fun w _ => (by simp [execOp, go_sem, Act.eval])⟩) (fun _ => ?_)
          simp only [Act.put, List.setIfInBounds_toArray, List.set_cons_zero, List.set_cons_succ]
          refine wpAnyL_pure (i := 4) (v := .slice (some ⟨g, 0, none⟩) L.length c8) (by simp only [List.getElem?_toArray, List.getElem?_cons_zero, List.getElem?_cons_succ] <;> rfl) (by kernel_rfl) (by kernel_rfl) (by kernel_rfl) (by exact fun _ _ _ h => h) (by decide) (.inr ⟨RA.out, RB.out⟩) (Or.inl ⟨by rfl, fun w _ => (by simp [execOp, go_sem, Act.eval])⟩) (fun _ => ?_)
          simp only [Act.put, List.setIfInBounds_toArray, List.set_cons_zero, List.set_cons_succ]
          refine wpAnyL_pure (i := 5) (v := .int .i64 (xa : Int)) (by simp only [List.getElem?_toArray, List.getElem?_cons_zero, List.getElem?_cons_succ] <;> rfl) (by kernel_rfl) (by kernel_rfl) (by kernel_rfl) (by exact fun _ _ _ h => h) (by decide) (.inr ⟨RA.out, RB.out⟩) (Or.inl ⟨by rfl, fun w _ => (by simp [execOp, go_sem, Act.eval])⟩) (fun _ => ?_)
          simp only [Act.put, List.setIfInBounds_toArray, List.set_cons_zero, List.set_cons_succ]
          refine wpAnyL_pure (i := 6) (v := .pointer (some ⟨g, xa * 2, none⟩)) (by simp only [List.getElem?_toArray, List.getElem?_cons_zero, List.getElem?_cons_succ] <;> rfl) (by kernel_rfl) (by kernel_rfl) (by kernel_rfl) (by exact fun _ _ _ h => h) (by decide) (.inr ⟨RA.out, RB.out⟩) (Or.inl ⟨by rfl, fun w _ => (by simp [execOp, go_sem, Act.eval, zxa])⟩) (fun _ => ?_)
          simp only [Act.put, List.setIfInBounds_toArray, List.set_cons_zero, List.set_cons_succ]
          refine wpAnyL_load2 (i := 7) (v := encS (sa)) (by simp only [List.getElem?_toArray, List.getElem?_cons_zero, List.getElem?_cons_succ] <;> rfl) (by kernel_rfl) (by kernel_rfl) (by kernel_rfl) (by exact fun _ _ _ h => h) (by decide) (Waits.more (j := 9) rfl ⟨⟨9, .chain⟩, by simp, rfl, rfl⟩ (Waits.one rfl ⟨⟨7, .data⟩, by simp, rfl, rfl⟩)) (by kernel_rfl) (by kernel_rfl) (.inr ⟨RA.out, RB.out⟩) (Or.inl ⟨by rfl, fun w hw => (by obtain ⟨⟨y0, z0⟩, _⟩ := hw; simp [execOp, go_sem, Act.eval, y0, z0])⟩) (fun _ => ?_)
          simp only [Act.put, List.setIfInBounds_toArray, List.set_cons_zero, List.set_cons_succ]
          refine wpAnyL_pure (i := 8) (v := .int .i64 (xb : Int)) (by simp only [List.getElem?_toArray, List.getElem?_cons_zero, List.getElem?_cons_succ] <;> rfl) (by kernel_rfl) (by kernel_rfl) (by kernel_rfl) (by exact fun _ _ _ h => h) (by decide) (.inr ⟨RA.out, RB.out⟩) (Or.inl ⟨by rfl, fun w _ => (by simp [execOp, go_sem, Act.eval])⟩) (fun _ => ?_)
          simp only [Act.put, List.setIfInBounds_toArray, List.set_cons_zero, List.set_cons_succ]
          refine wpAnyL_pure (i := 10) (v := .slice (some ⟨g, 0, none⟩) L.length c8) (by simp only [List.getElem?_toArray, List.getElem?_cons_zero, List.getElem?_cons_succ] <;> rfl) (by kernel_rfl) (by kernel_rfl) (by kernel_rfl) (by exact fun _ _ _ h => h) (by decide) (.inr ⟨RA.out, RB.out⟩) (Or.inl ⟨by rfl, fun w _ => (by simp [execOp, go_sem, Act.eval])⟩) (fun _ => ?_)
          simp only [Act.put, List.setIfInBounds_toArray, List.set_cons_zero, List.set_cons_succ]
          refine wpAnyL_pure (i := 11) (v := .int .i64 (xb : Int)) (by simp only [List.getElem?_toArray, List.getElem?_cons_zero, List.getElem?_cons_succ] <;> rfl) (by kernel_rfl) (by kernel_rfl) (by kernel_rfl) (by exact fun _ _ _ h => h) (by decide) (.inr ⟨RA.out, RB.out⟩) (Or.inl ⟨by rfl, fun w _ => (by simp [execOp, go_sem, Act.eval])⟩) (fun _ => ?_)
          simp only [Act.put, List.setIfInBounds_toArray, List.set_cons_zero, List.set_cons_succ]
          refine wpAnyL_pure (i := 12) (v := .pointer (some ⟨g, xb * 2, none⟩)) (by simp only [List.getElem?_toArray, List.getElem?_cons_zero, List.getElem?_cons_succ] <;> rfl) (by kernel_rfl) (by kernel_rfl) (by kernel_rfl) (by exact fun _ _ _ h => h) (by decide) (.inr ⟨RA.out, RB.out⟩) (Or.inl ⟨by rfl, fun w _ => (by simp [execOp, go_sem, Act.eval, zxb])⟩) (fun _ => ?_)
          simp only [Act.put, List.setIfInBounds_toArray, List.set_cons_zero, List.set_cons_succ]
          refine wpAnyL_load2 (i := 13) (v := encS (sb)) (by simp only [List.getElem?_toArray, List.getElem?_cons_zero, List.getElem?_cons_succ] <;> rfl) (by kernel_rfl) (by kernel_rfl) (by kernel_rfl) (by exact fun _ _ _ h => h) (by decide) (Waits.one rfl ⟨⟨13, .data⟩, by simp, rfl, rfl⟩) (by kernel_rfl) (by kernel_rfl) (.inr ⟨RA.out, RB.out⟩) (Or.inl ⟨by rfl, fun w hw => (by obtain ⟨_, ⟨y1, z1⟩⟩ := hw; simp [execOp, go_sem, Act.eval, y1, z1])⟩) (fun _ => ?_)
          simp only [Act.put, List.setIfInBounds_toArray, List.set_cons_zero, List.set_cons_succ]
          refine wpAnyL_pure (i := 14) (v := .int .i64 (xa : Int)) (by simp only [List.getElem?_toArray, List.getElem?_cons_zero, List.getElem?_cons_succ] <;> rfl) (by kernel_rfl) (by kernel_rfl) (by kernel_rfl) (by exact fun _ _ _ h => h) (by decide) (.inr ⟨RA.out, RB.out⟩) (Or.inl ⟨by rfl, fun w _ => (by simp [execOp, go_sem, Act.eval])⟩) (fun _ => ?_)
          simp only [Act.put, List.setIfInBounds_toArray, List.set_cons_zero, List.set_cons_succ]
          refine wpAnyL_one (i := 9) (by kernel_rfl) (by simp only [List.getElem?_toArray, List.getElem?_cons_zero, List.getElem?_cons_succ] <;> rfl) (by rfl) ?_
          refine opwp_call (f := 35) (args := #[encS (sa), .int .i64 (xb : Int)]) (w' := w8.drew) (by simp [go_sem, Act.eval]) ?_
          refine (Without_c sa (xb : Int) w8.drew).mono ?_
          rintro e w9 ⟨rfl, hb9⟩
          have hc1_0 := hid (show (w9.cell? ⟨g, xa * 2, none⟩ = some (.int .u64 ((lw (sa)).toNat : Int)) ∧ w9.cell? ⟨g, xa * 2 + 1, none⟩ = some (.int .u64 ((hw (sa)).toNat : Int))) from ⟨(hb9.cell (cell_lt RA.out.1)).trans RA.out.1, (hb9.cell (cell_lt RA.out.2)).trans RA.out.2⟩)
          have hc1_1 := hid (show (w9.cell? ⟨g, xb * 2, none⟩ = some (.int .u64 ((lw (sb)).toNat : Int)) ∧ w9.cell? ⟨g, xb * 2 + 1, none⟩ = some (.int .u64 ((hw (sb)).toNat : Int))) from ⟨(hb9.cell (cell_lt RB.out.1)).trans RB.out.1, (hb9.cell (cell_lt RB.out.2)).trans RB.out.2⟩)
          refine .inl ⟨_, rfl, .inr ⟨hc1_0.out, hc1_1.out⟩, ?_⟩
          simp only [Act.put, List.setIfInBounds_toArray, List.set_cons_zero, List.set_cons_succ]
          refine wpAnyL_one (i := 15) (by kernel_rfl) (by simp only [List.getElem?_toArray, List.getElem?_cons_zero, List.getElem?_cons_succ] <;> rfl) (by rfl) ?_
          refine opwp_call (f := 35) (args := #[encS (sb), .int .i64 (xa : Int)]) (w' := w9) (by simp [go_sem, Act.eval]) ?_
          refine (Without_c sb (xa : Int) w9).mono ?_
          rintro e w10 ⟨rfl, hb10⟩
          refine .inl ⟨_, rfl, .inl (by kernel_rfl), ?_⟩
          simp only [Act.put, List.setIfInBounds_toArray, List.set_cons_zero, List.set_cons_succ]
          refine wpAnyL_pure (i := 16) (v := .pointer (some ⟨g, xa * 2, none⟩)) (by simp only [List.getElem?_toArray, List.getElem?_cons_zero, List.getElem?_cons_succ] <;> rfl) (by kernel_rfl) (by kernel_rfl) (by kernel_rfl) (by exact fun _ _ _ h => h) (by decide) (.inl (by kernel_rfl)) (Or.inl ⟨by rfl, fun w _ => (by simp [execOp, go_sem, Act.eval, zxa])⟩) (fun _ => ?_)
          simp only [Act.put, List.setIfInBounds_toArray, List.set_cons_zero, List.set_cons_succ]
          have hbb := ((Below.refl _ w8).drew.trans hb9).trans (hb10.mono hb9.size)
          have hr10 := HR8.out.below hbb HR8.out.lt
          have hq10 := HB78.out.trans (hbb.mono HB78.out.size)
          clear hbb hb9 hb10
          obtain ⟨t10, ht10, y0, y1, y2, y3⟩ := hr10.get xa hxal
          refine wpAnyL_one (i := 17) (by kernel_rfl) (by simp only [List.getElem?_toArray, List.getElem?_cons_zero, List.getElem?_cons_succ] <;> rfl) (by rfl) ?_
          refine opwp_skip (w' := ((w10.setCell ⟨g, xa * 2, none⟩ (.int .u64 ((lw (withoutV sa (xb : Int))).toNat : Int))).setCell ⟨g, xa * 2 + 1, none⟩ (.int .u64 ((hw (withoutV sa (xb : Int))).toNat : Int)))) (by simp [execOp, go_sem, Act.eval, y0, y1, y2, y3]) ⟨.inl (by kernel_rfl), ?_⟩
          simp only [Act.put]
          have hr11 := hr10.store xa hxal (withoutV sa (xb : Int))
          have hq11 := (hq10.setCell (p := ⟨g, xa * 2, none⟩) (by show w7.heap.size ≤ g; omega) (.int .u64 ((lw (withoutV sa (xb : Int))).toNat : Int))).setCell (p := ⟨g, xa * 2 + 1, none⟩) (by show w7.heap.size ≤ g; omega) (.int .u64 ((hw (withoutV sa (xb : Int))).toNat : Int))
          clear y0 y1 y2 y3 ht10 hr10 hq10
          generalize ((w10.setCell ⟨g, xa * 2, none⟩ (.int .u64 ((lw (withoutV sa (xb : Int))).toNat : Int))).setCell ⟨g, xa * 2 + 1, none⟩ (.int .u64 ((hw (withoutV sa (xb : Int))).toNat : Int))) = w11 at *
          refine wpAnyL_pure (i := 18) (v := .pointer (some ⟨g, xb * 2, none⟩)) (by simp only [List.getElem?_toArray, List.getElem?_cons_zero, List.getElem?_cons_succ] <;> rfl) (by kernel_rfl) (by kernel_rfl) (by kernel_rfl) (by exact fun _ _ _ h => h) (by decide) (.inl (by kernel_rfl)) (Or.inl ⟨by rfl, fun w _ => (by simp [execOp, go_sem, Act.eval, zxb])⟩) (fun _ => ?_)
          simp only [Act.put, List.setIfInBounds_toArray, List.set_cons_zero, List.set_cons_succ]
          obtain ⟨t11, ht11, y0, y1, y2, y3⟩ := hr11.get xb (by rw [List.length_set]; exact hxbl)
          refine wpAnyL_one (i := 19) (by kernel_rfl) (by simp only [List.getElem?_toArray, List.getElem?_cons_zero, List.getElem?_cons_succ] <;> rfl) (by rfl) ?_
          refine opwp_skip (w' := ((w11.setCell ⟨g, xb * 2, none⟩ (.int .u64 ((lw (withoutV sb (xa : Int))).toNat : Int))).setCell ⟨g, xb * 2 + 1, none⟩ (.int .u64 ((hw (withoutV sb (xa : Int))).toNat : Int)))) (by simp [execOp, go_sem, Act.eval, y0, y1, y2, y3]) ⟨.inl (by kernel_rfl), ?_⟩
          simp only [Act.put]
          have hr12 := hr11.store xb (by rw [List.length_set]; exact hxbl) (withoutV sb (xa : Int))
          have hq12 := (hq11.setCell (p := ⟨g, xb * 2, none⟩) (by show w7.heap.size ≤ g; omega) (.int .u64 ((lw (withoutV sb (xa : Int))).toNat : Int))).setCell (p := ⟨g, xb * 2 + 1, none⟩) (by show w7.heap.size ≤ g; omega) (.int .u64 ((hw (withoutV sb (xa : Int))).toNat : Int))
          clear y0 y1 y2 y3 ht11 hr11 hq11
          generalize ((w11.setCell ⟨g, xb * 2, none⟩ (.int .u64 ((lw (withoutV sb (xa : Int))).toNat : Int))).setCell ⟨g, xb * 2 + 1, none⟩ (.int .u64 ((hw (withoutV sb (xa : Int))).toNat : Int))) = w12 at *
          refine wpAnyL_done (by kernel_rfl) ?_ _
          rw [HLE2.out] at hr12
          have hrs := hr12.sets c8
          rw [lessL_length] at hrs
          have b12 := B7.out.below hq12 B7.out.lt
          have HB12 := hid (HB7.out.trans (hq12.mono HB7.out.size))
          have HS12 := hid hrs
          have HCM := hid (Check_c _ _ _ (lessL L (xa : Int) (xb : Int)) B U w12 hrs (HX7.out.below hq12) (HY7.out.below hq12) (hT.below hT.lt HB12.out) (by rw [lessL_length]; omega) (by omega) (by omega))
          have hml : (lessL L (xa : Int) (xb : Int)).length ≤ 140737488355328 := by rw [lessL_length]; omega
          generalize lessL L (xa : Int) (xb : Int) = M at *
          generalize checkW M B U = cm at *
          obtain ⟨a0, a1, _, _⟩ := b12.cells
          clear hr12 hrs hq12 b12 HLE2 HR8 HB78 RA RB
          go_wp2_with fail
          refine HCM.out.mono ?_
          rintro e w13 ⟨rfl, hb13⟩
          have hB13 := HB12.out.trans (hb13.mono HB12.out.size)
          have HM13 := hid (HS12.out.below hb13)
          have HLA := hid (Lower_c _ M w13 HM13.out (hT.below hT.lt hB13) hml)
          have HLL2 := HLL.out
          generalize hlm : lowerP M = lm at *
          clear a0 a1 HCM hb13
          rcases HCL.out with hc | ⟨hc, hc2 | hc2⟩
          · subst hc
            clear HCL
            go_wp2_with fail
            refine HLA.out.mono ?_
            rintro e w14 ⟨rfl, hb14⟩
            have hB14 := hB13.trans (hb14.mono hB13.size)
            have HLB := hid (Lower_c _ L w14 (HI.out _ hB14) (hT.below hT.lt hB14) (by omega))
            generalize lowerP L = ll at *
            go_wp2_with fail
            refine HLB.out.mono ?_
            rintro e w15 ⟨rfl, hb15⟩
            have hB15 := hB14.trans (hb15.mono hB14.size)
            go_wp2_with fail
            refine (HW.out _ hB15).mono ?_
            rintro e w16 ⟨rfl, hb16⟩
            have hB16 := hB15.trans (hb16.mono hB15.size)
            go_wp2_with fail
            go_ret
            exact ⟨rfl, hB16⟩
          · subst hc
            subst hc2
            clear HCL
            go_wp2_with fail
            refine HLA.out.mono ?_
            rintro e w14 ⟨rfl, hb14⟩
            have hB14 := hB13.trans (hb14.mono hB13.size)
            have HLB := hid (Lower_c _ L w14 (HI.out _ hB14) (hT.below hT.lt hB14) (by omega))
            generalize lowerP L = ll at *
            go_wp2_with fail
            refine HLB.out.mono ?_
            rintro e w15 ⟨rfl, hb15⟩
            have hB15 := hB14.trans (hb15.mono hB14.size)
            go_wp2_with fail
            refine (HW.out _ hB15).mono ?_
            rintro e w16 ⟨rfl, hb16⟩
            have hB16 := hB15.trans (hb16.mono hB15.size)
            go_wp2_with fail
            go_ret
            exact ⟨rfl, hB16⟩
          · subst hc
            subst hc2
            clear HCL
            go_wp2_with fail
            refine HLA.out.mono ?_
            rintro e w14 ⟨rfl, hb14⟩
            have hB14 := hB13.trans (hb14.mono hB13.size)
            have HLB := hid (Lower_c _ L w14 (HI.out _ hB14) (hT.below hT.lt hB14) (by omega))
            generalize lowerP L = ll at *
            go_wp2_with fail
            refine HLB.out.mono ?_
            rintro e w15 ⟨rfl, hb15⟩
            have hB15 := hB14.trans (hb15.mono hB14.size)
            go_wp2_with fail
            refine (HW.out _ hB15).mono ?_
            rintro e w16 ⟨rfl, hb16⟩
            have hB16 := hB15.trans (hb16.mono hB15.size)
            go_wp2_with fail
            go_ret
            exact ⟨rfl, hB16⟩
end Go.Proofs.YtmlecpapoeodkaaDoor
