/- The walk of the law WidthCliques. -/
import Derived.Test.YtmlecpapoeodkaaDoorWWorks
namespace Go.Proofs.YtmlecpapoeodkaaDoor
open Go.RowKit
attribute [local go_sem ↓] run_eqlS run_neqS run_eqlS0 run_neqS0

/-- Vertices each two of which are neighbours. -/
def Clq2 (L : List VS) (q : VS) : Prop := (∀ a b, has q a = true → has q b = true → a ≠ b → has (gOf L a) b = true) ∧ ∀ a, has q a = true → a < (L.length : Int)
theorem Clq2.zero (L : List VS) : Clq2 L 0 := ⟨fun a b h => (by rw [has_zero] at h; cases h), fun a h => (by rw [has_zero] at h; cases h)⟩
theorem Clq2.step {L : List VS} {q : VS} (h : Clq2 L q) (hV : ValidG L) {u : Nat} (hu : u < L.length) (hs : sub q (gOf L (u : Int)) = true) : Clq2 L (withV q (u : Int)) := by
  rw [sub_iff] at hs
  have key : ∀ a, has (withV q (u : Int)) a = true → has q a = true ∨ a = (u : Int) := fun a ha => by
    rw [has_withV] at ha
    simp only [Bool.or_eq_true, Bool.and_eq_true, decide_eq_true_eq] at ha
    rcases ha with ha | ha
    · exact .inl ha
    · exact .inr ha.1.1
  refine ⟨fun a b ha hb hne => ?_, fun a ha => ?_⟩
  · rcases key a ha with h1 | rfl <;> rcases key b hb with h2 | rfl
    · exact h.1 a b h1 h2 hne
    · exact hV.sym.sym _ _ (hs a h1)
    · exact hs b h2
    · exact absurd rfl hne
  · rcases key a ha with h1 | rfl
    · exact h.2 a h1
    · omega
set_option maxRecDepth 100000 in
set_option maxHeartbeats 8000000 in
theorem widthCliques_walk (v : Value) (L : List VS) (x y : Value) (B : List VS) (U : List Int) (pick : VS) (w : World) (hT : TabAt w) (hI : SetsAt w v L) (hL : L.length ≤ 9223372036854775807)
    (hx : SetsAt w x B) (hy : IntsAt w y U) (hB : B.length ≤ 9223372036854775807) (hU : U.length ≤ 9223372036854775807) :
    Calls Tryd.prog 6 #[v, .agg #[x, y], encS pick] w (LawPost w) := by
  have HW := hid (fun w' (h : Below w.heap.size w w') => works_c w' (hT.below hT.lt h))
  have HI := hid (fun w' (h : Below w.heap.size w w') => hI.below h)
  have HX := hid (fun w' (h : Below w.heap.size w w') => hx.below h)
  have HY := hid (fun w' (h : Below w.heap.size w w') => hy.below h)
  obtain ⟨p, c, rfl, hdrop⟩ := id hI
  obtain ⟨p3, c3, rfl, hdrop3⟩ := id hx
  obtain ⟨p4, c4, rfl, hdrop4⟩ := id hy
  clear hdrop hdrop3 hdrop4 hI hx hy
  have hB0 : Below w.heap.size w ((w.alloc (.cells #[.slice p3 B.length c3, .slice p4 U.length c4] 33)).alloc (.cells #[.int .u64 ((lw pick).toNat : Int), .int .u64 ((hw pick).toNat : Int)] 32)) := ((Below.refl _ w).alloc (Nat.le_refl _) _).alloc (by simp) _
  have b0 := (Box2.new w 33 (.slice p3 B.length c3) (.slice p4 U.length c4)).alloc (.cells #[.int .u64 ((lw pick).toNat : Int), .int .u64 ((hw pick).toNat : Int)] 32)
  have s0 := SetVar.new (w.alloc (.cells #[.slice p3 B.length c3, .slice p4 U.length c4] 33)) pick 32
  rw [World.size_alloc] at s0
  obtain ⟨d0, d1, _, _⟩ := b0.cells
  have HF := hid (few_c _ _ B U _ (HX.out _ hB0) (HY.out _ hB0))
  by_cases h1 : 129 < L.length
  · have e1 : decide ((129 : Int) < (L.length : Int)) = true := decide_eq_true (by omega)
    clear h1 HF s0
    go_enter Tryd.func6, Tryd.ntmps6
    go_wp2_with fail
    refine (HW.out _ hB0).mono ?_
    rintro e w2 ⟨rfl, hb2⟩
    have hB2 := hB0.trans (hb2.mono hB0.size)
    go_wp2_with fail
    go_ret
    exact ⟨rfl, hB2⟩
  · have e1 : decide ((129 : Int) < (L.length : Int)) = false := decide_eq_false (by omega)
    have hL2 : L.length ≤ 129 := by omega
    clear h1
    go_enter Tryd.func6, Tryd.ntmps6
    go_wp2_with fail
    refine HF.out.mono ?_
    rintro e w2 ⟨rfl, hb2⟩
    have hB2 := hB0.trans (hb2.mono hB0.size)
    have b2 := b0.below hb2 b0.lt
    have s2 := s0.below hb2 s0.lt
    clear d0 d1 b0 hb2 hB0 HF s0
    cases hf : fewB B U
    · clear hf
      go_wp2_with fail
      refine (HW.out _ hB2).mono ?_
      rintro e w3 ⟨rfl, hb3⟩
      have hB3 := hB2.trans (hb3.mono hB2.size)
      go_wp2_with fail
      go_ret
      exact ⟨rfl, hB3⟩
    · have hfl : B.length ≤ 100 ∧ U.length ≤ 100 := by
        unfold fewB at hf
        rw [Bool.and_eq_true, decide_eq_true_eq, decide_eq_true_eq] at hf
        exact hf
      obtain ⟨hb100, hu100⟩ := hfl
      obtain ⟨d0, d1, _, _⟩ := b2.cells
      have HGV := hid (given_c _ _ B U w2 (HX.out _ hB2) (HY.out _ hB2) (by omega) (by omega))
      clear hf
      go_wp2_with fail
      refine HGV.out.mono ?_
      rintro e w4 ⟨x2, y2, rfl, ho1, ho2, hb4⟩
      have hB4 := hB2.trans (hb4.mono hB2.size)
      have b4 := b2.below hb4 b2.lt
      have s4 := s2.below hb4 s2.lt
      have HCK := hid (Check_c _ _ _ L B U w4 (HI.out _ hB4) ho1.sets ho2.ints (hT.below hT.lt hB4) (by omega) (by omega) (by omega))
      obtain ⟨q3, g3, rfl, _⟩ := ho1.sets
      obtain ⟨q4, g4, rfl, _⟩ := ho2.ints
      clear ho1 ho2 hb4 d0 d1 b2 HGV hB2 s2
      go_wp2_with fail
      refine HCK.out.mono ?_
      rintro e w5 ⟨rfl, hb5⟩
      have hB5 := hB4.trans (hb5.mono hB4.size)
      have b5 := b4.below hb5 b4.lt
      have s5 := s4.below hb5 s4.lt
      clear b4 s4 hb5 hB4 HCK
      by_cases hck : checkW L B U = 0
      · have HD := hid (checkW_ok.1 hck)
        generalize checkW L B U = ck at *
        subst hck
        have hb6 : Below w5.heap.size w5 (w5.alloc (.cells #[.int .u64 0, .int .u64 0] 32)) := (Below.refl _ w5).alloc (Nat.le_refl _) _
        have hB6 := hB5.trans (hb6.mono hB5.size)
        have b6 := b5.below hb6 b5.lt
        have s6 := s5.below hb6 s5.lt
        have z6 := zero_set w5 32
        have hlt5 := s5.lt
        have HB6 := hid hB6
        have BX6 := hid b6
        have SV6 := hid s6
        have ZV6 := hid z6
        clear b5 s5 hb6 hB5 b6 s6 z6 hB6
        go_wp2_with fail
        generalize w5.alloc (.cells #[.int .u64 0, .int .u64 0] 32) = w6 at *
        generalize w5.heap.size = pc at *
        have SVd : Hid (SetVar w6.drew (w.heap.size + 1) pick) := SV6.out
        have HBS := hid (HB6.out.drew)
        have zl : IntKind.i64.wrap ((L.length : Int) - 1) = (L.length : Int) - 1 := IntWalk.i64_in _ (by omega)
        obtain ⟨q0, hq0⟩ : ∃ q0, q0 = pick &&& allV ((L.length : Int) - 1) := ⟨_, rfl⟩
        have hq0r : ∀ a, has q0 a = true → a < (L.length : Int) := fun a ha => by
          rw [hq0, has_and, Bool.and_eq_true, has_allV] at ha
          have := ha.2
          simp at this; omega
        have HQR := hid hq0r
        clear hq0r
        refine Go.Proofs.YtmlecpapoeodkaaDoor.wp_region_L 9 5 (fun w' => SetVar w' (w.heap.size + 1) (pick)) (by kernel_rfl) rfl SVd.out (fun _ => ?_)
        refine wpAnyL_load2 (i := 0) (v := encS pick) (by simp only [List.getElem?_toArray, List.getElem?_cons_zero] <;> rfl) (by kernel_rfl) (by kernel_rfl) (by kernel_rfl) (by exact fun _ _ _ h => h) (by decide) (Waits.one rfl ⟨⟨0, .data⟩, by simp, rfl, rfl⟩) (by kernel_rfl) (by kernel_rfl) (.inr SVd.out) (Or.inl ⟨by rfl, fun w hw => (by have x0 := hw; simp [execOp, go_sem, Act.eval, x0.cells.1, x0.cells.2.1])⟩) (fun _ => ?_)
        simp only [Act.put, List.setIfInBounds_toArray, List.set_cons_zero, List.set_cons_succ]
        refine wpAnyL_pure (i := 1) (v := .slice p L.length c) (by simp only [List.getElem?_toArray, List.getElem?_cons_zero, List.getElem?_cons_succ] <;> rfl) (by kernel_rfl) (by kernel_rfl) (by kernel_rfl) (by exact fun _ _ _ h => h) (by decide) (.inr SVd.out) (Or.inl ⟨by rfl, fun w _ => (by simp [execOp, go_sem, Act.eval])⟩) (fun _ => ?_)
        simp only [Act.put, List.setIfInBounds_toArray, List.set_cons_zero, List.set_cons_succ]
        refine wpAnyL_pure (i := 2) (v := .int .i64 ((L.length : Nat) : Int)) (by simp only [List.getElem?_toArray, List.getElem?_cons_zero, List.getElem?_cons_succ] <;> rfl) (by kernel_rfl) (by kernel_rfl) (by kernel_rfl) (by exact fun _ _ _ h => h) (by decide) (.inr SVd.out) (Or.inl ⟨by rfl, fun w _ => (by simp [go_sem, Act.eval])⟩) (fun _ => ?_)
        simp only [Act.put, List.setIfInBounds_toArray, List.set_cons_zero, List.set_cons_succ]
        refine wpAnyL_pure (i := 3) (v := .int .i64 ((L.length : Int) - 1)) (by simp only [List.getElem?_toArray, List.getElem?_cons_zero, List.getElem?_cons_succ] <;> rfl) (by kernel_rfl) (by kernel_rfl) (by kernel_rfl) (by exact fun _ _ _ h => h) (by decide) (.inr SVd.out) (Or.inl ⟨by rfl, fun w _ => (by simp [execOp, go_sem, Act.eval, zl])⟩) (fun _ => ?_)
        simp only [Act.put, List.setIfInBounds_toArray, List.set_cons_zero, List.set_cons_succ]
        refine wpAnyL_pure (i := 8) (v := .int .i64 0) (by simp only [List.getElem?_toArray, List.getElem?_cons_zero, List.getElem?_cons_succ] <;> rfl) (by kernel_rfl) (by kernel_rfl) (by kernel_rfl) (by exact fun _ _ _ h => h) (by decide) (.inr SVd.out) (Or.inl ⟨by rfl, fun w _ => (by simp [execOp, go_sem, Act.eval])⟩) (fun _ => ?_)
        simp only [Act.put, List.setIfInBounds_toArray, List.set_cons_zero, List.set_cons_succ]
        refine wpAnyL_one (i := 4) (by kernel_rfl) (by simp only [List.getElem?_toArray, List.getElem?_cons_zero, List.getElem?_cons_succ] <;> rfl) (by rfl) ?_
        refine opwp_call (f := 30) (args := #[.int .i64 ((L.length : Int) - 1)]) (w' := w6.drew) (by simp [go_sem, Act.eval]) ?_
        refine (All_c ((L.length : Int) - 1) w6.drew).mono ?_
        rintro e w7 ⟨rfl, hb7⟩
        have hc1_0 := hid (SVd.out.below hb7 SVd.out.lt)
        have hB1 := HBS.out.trans (hb7.mono HBS.out.size)
        refine .inl ⟨_, rfl, .inr hc1_0.out, ?_⟩
        simp only [Act.put, List.setIfInBounds_toArray, List.set_cons_zero, List.set_cons_succ]
        refine wpAnyL_one (i := 5) (by kernel_rfl) (by simp only [List.getElem?_toArray, List.getElem?_cons_zero, List.getElem?_cons_succ] <;> rfl) (by rfl) ?_
        refine opwp_call (f := 29) (args := #[encS pick, encS (allV ((L.length : Int) - 1))]) (w' := w7) (by simp [go_sem, Act.eval]) ?_
        refine (Cut_c pick (allV ((L.length : Int) - 1)) w7).mono ?_
        rintro e w8 ⟨rfl, hb8⟩
        have hB2 := hB1.trans (hb8.mono hB1.size)
        rw [← hq0]
        refine .inl ⟨_, rfl, .inl (by kernel_rfl), ?_⟩
        simp only [Act.put, List.setIfInBounds_toArray, List.set_cons_zero, List.set_cons_succ]
        refine wpAnyL_one (i := 6) (by kernel_rfl) (by simp only [List.getElem?_toArray, List.getElem?_cons_zero, List.getElem?_cons_succ] <;> rfl) (by rfl) ?_
        refine opwp_call (f := 28) (args := #[encS q0]) (w' := w8) (by simp [go_sem, Act.eval]) ?_
        refine (List_c q0 w8 (hT.below hT.lt hB2)).mono ?_
        rintro e w9 ⟨v9, rfl, hn9, hb9⟩
        have hB3 := hB2.trans (hb9.mono hB2.size)
        obtain ⟨pm, cm, e9, hmm⟩ := hn9.ints
        subst e9
        refine .inl ⟨_, rfl, .inl (by kernel_rfl), ?_⟩
        simp only [Act.put, List.setIfInBounds_toArray, List.set_cons_zero, List.set_cons_succ]
        refine wpAnyL_pure (i := 7) (v := .int .i64 (((mems q0).length : Nat) : Int)) (by simp only [List.getElem?_toArray, List.getElem?_cons_zero, List.getElem?_cons_succ] <;> rfl) (by kernel_rfl) (by kernel_rfl) (by kernel_rfl) (by exact fun _ _ _ h => h) (by decide) (.inl (by kernel_rfl)) (Or.inl ⟨by rfl, fun w _ => (by simp [go_sem, Act.eval])⟩) (fun _ => ?_)
        simp only [Act.put, List.setIfInBounds_toArray, List.set_cons_zero, List.set_cons_succ]
        refine wpAnyL_done (by kernel_rfl) ?_ _
        have HB9 := hid hB3
        have hb69 : Below w6.heap.size w6 w9 := ((Below.refl _ w6).drew.trans hb7).trans ((hb8.mono hb7.size).trans (hb9.mono (Nat.le_trans hb7.size hb8.size)))
        have ZV9 := hid (ZV6.out.below hb69 ZV6.out.lt)
        have BX9 := hid (BX6.out.below hb69 BX6.out.lt)
        have hpc8 : pc < w8.heap.size := Nat.lt_of_lt_of_le ZV6.out.lt (Nat.le_trans hb7.size hb8.size)
        have HFM := hid (show ∀ x n c', Value.slice pm (mems q0).length cm = .slice (some x) n c' → x.block ≠ pc from fun x n c' e => by
          have := (World.ownsRow.lt hn9.1 x.block (by rw [e]; rfl)).1
          omega)
        have HMM := hid hmm
        have hmlen := mems_length q0
        clear hb7 hb8 hb9 hb69 hmm hn9 ZV6 BX6 SV6 SVd HBS HB6 zl hq0
        go_wp2_with fail
        have hrow9 := hid (HI.out w9 HB9.out)
        have hpc9 := ZV9.out.lt
        have hlenL : 1 ≤ L.length := HD.out.ok.pos
        go_loopw [36] (fun i wr => ∃ (k : Nat) (q : VS), k ≤ (mems q0).length ∧ i = .int .i64 k ∧ Hid (Clq2 L q) ∧ SetVar wr pc q ∧ w9.grownBy wr (some pc)) (fun i _ => (mems q0).length - (intOf i).toNat)
        case atStart => exact ⟨0, 0, Nat.zero_le _, rfl, Clq2.zero L, ZV9.out, World.grownBy.refl _ _⟩
        case round =>
          clear ZV9
          obtain ⟨k, q, hk, rfl, hq, hsv, hgr⟩ := hrel
          have hbx := BX9.out.kept hgr (fun e => by have := Option.some.inj e; omega)
          have hBw := HB9.out.grown hgr HB9.out.size (by intro k e; cases e; omega)
          by_cases hkl : k < (mems q0).length
          · obtain ⟨bm, om, rfl, hm⟩ := HMM.out.resolve_left (by intro e; rw [e] at hkl; simp at hkl)
            have hc := hm k hkl
            rw [List.getElem?_eq_getElem hkl, Option.getD_some] at hc
            have hc2 := (World.cell?_of_block (w := w9) (hgr.block bm (cell_lt hc) (by simpa using HFM.out _ _ _ rfl))).trans hc
            have hmem : has q0 (mems q0)[k] = true := (mem_mems _ _).1 (List.getElem_mem hkl)
            have hr := has_range hmem
            have hlt := HQR.out _ hmem
            obtain ⟨un, hun⟩ : ∃ un : Nat, (mems q0)[k] = (un : Int) := ⟨((mems q0)[k]).toNat, by omega⟩
            rw [hun] at hc2 hr hlt
            have hul : un < L.length := by omega
            obtain ⟨b1, o1, c1', e1, l1⟩ := (HI.out wr hBw).form (by omega)
            injection e1 with e1 _ e1'
            subst e1; subst e1'
            obtain ⟨s, hs, q0', q1'⟩ := (HI.out wr hBw).get un hul
            have zk : (0 : Int) ≤ (k : Int) ∧ (k : Int) < ((mems q0).length : Int) := by omega
            have zu : (0 : Int) ≤ (un : Int) ∧ (un : Int) < (L.length : Int) := by omega
            have HQS := hid (fun h : sub q s = true => hq.out.step HD.out.ok hul (by rw [gOf_nat L un hul, hs]; exact h))
            have SVq : Hid (SetVar wr.drew pc q) := hsv
            have RS : Hid (wr.drew.cell? ⟨b1, o1 + un * 2, none⟩ = some (.int .u64 ((lw s).toNat : Int)) ∧ wr.drew.cell? ⟨b1, o1 + un * 2 + 1, none⟩ = some (.int .u64 ((hw s).toNat : Int))) := ⟨q0', q1'⟩
            have HGR := hid hgr
            have HSB := hid (Sub_c q s wr.drew)
            clear hm hc hmem hr hlt hun hs q0' q1' hsv hbx hBw hgr
            go_wp2_with fail
            refine Go.Proofs.YtmlecpapoeodkaaDoor.wp_region_L 6 5 (fun w' => SetVar w' (pc) (q) ∧ (w'.cell? ⟨b1, o1 + un * 2, none⟩ = some (.int .u64 ((lw (s)).toNat : Int)) ∧ w'.cell? ⟨b1, o1 + un * 2 + 1, none⟩ = some (.int .u64 ((hw (s)).toNat : Int)))) (by kernel_rfl) rfl ⟨SVq.out, RS.out⟩ (fun _ => ?_)
            refine wpAnyL_load2 (i := 0) (v := encS q) (by simp only [List.getElem?_toArray, List.getElem?_cons_zero] <;> rfl) (by kernel_rfl) (by kernel_rfl) (by kernel_rfl) (by exact fun _ _ _ h => h) (by decide) (Waits.one rfl ⟨⟨0, .data⟩, by simp, rfl, rfl⟩) (by kernel_rfl) (by kernel_rfl) (.inr ⟨SVq.out, RS.out⟩) (Or.inl ⟨by rfl, fun w hw => (by obtain ⟨x0, _⟩ := hw; simp [execOp, go_sem, Act.eval, x0.cells.1, x0.cells.2.1])⟩) (fun _ => ?_)
            simp only [Act.put, List.setIfInBounds_toArray, List.set_cons_zero, List.set_cons_succ]
            refine wpAnyL_pure (i := 1) (v := .slice (some ⟨b1, o1, none⟩) L.length c) (by simp only [List.getElem?_toArray, List.getElem?_cons_zero, List.getElem?_cons_succ] <;> rfl) (by kernel_rfl) (by kernel_rfl) (by kernel_rfl) (by exact fun _ _ _ h => h) (by decide) (.inr ⟨SVq.out, RS.out⟩) (Or.inl ⟨by rfl, fun w _ => (by simp [execOp, go_sem, Act.eval])⟩) (fun _ => ?_)
            simp only [Act.put, List.setIfInBounds_toArray, List.set_cons_zero, List.set_cons_succ]
            refine wpAnyL_pure (i := 2) (v := .int .i64 (un : Int)) (by simp only [List.getElem?_toArray, List.getElem?_cons_zero, List.getElem?_cons_succ] <;> rfl) (by kernel_rfl) (by kernel_rfl) (by kernel_rfl) (by exact fun _ _ _ h => h) (by decide) (.inr ⟨SVq.out, RS.out⟩) (Or.inl ⟨by rfl, fun w _ => (by simp [execOp, go_sem, Act.eval])⟩) (fun _ => ?_)
            simp only [Act.put, List.setIfInBounds_toArray, List.set_cons_zero, List.set_cons_succ]
            refine wpAnyL_pure (i := 3) (v := .pointer (some ⟨b1, o1 + un * 2, none⟩)) (by simp only [List.getElem?_toArray, List.getElem?_cons_zero, List.getElem?_cons_succ] <;> rfl) (by kernel_rfl) (by kernel_rfl) (by kernel_rfl) (by exact fun _ _ _ h => h) (by decide) (.inr ⟨SVq.out, RS.out⟩) (Or.inl ⟨by rfl, fun w _ => (by simp [execOp, go_sem, Act.eval, zu])⟩) (fun _ => ?_)
            simp only [Act.put, List.setIfInBounds_toArray, List.set_cons_zero, List.set_cons_succ]
            refine wpAnyL_load2 (i := 4) (v := encS (s)) (by simp only [List.getElem?_toArray, List.getElem?_cons_zero, List.getElem?_cons_succ] <;> rfl) (by kernel_rfl) (by kernel_rfl) (by kernel_rfl) (by exact fun _ _ _ h => h) (by decide) (Waits.one rfl ⟨⟨4, .data⟩, by simp, rfl, rfl⟩) (by kernel_rfl) (by kernel_rfl) (.inr ⟨SVq.out, RS.out⟩) (Or.inl ⟨by rfl, fun w hw => (by obtain ⟨_, ⟨y1, z1⟩⟩ := hw; simp [execOp, go_sem, Act.eval, y1, z1])⟩) (fun _ => ?_)
            simp only [Act.put, List.setIfInBounds_toArray, List.set_cons_zero, List.set_cons_succ]
            refine wpAnyL_one (i := 5) (by kernel_rfl) (by simp only [List.getElem?_toArray, List.getElem?_cons_zero, List.getElem?_cons_succ] <;> rfl) (by rfl) ?_
            refine opwp_call (f := 31) (args := #[encS q, encS (s)]) (w' := wr.drew) (by simp [go_sem, Act.eval]) ?_
            refine (HSB.out).mono ?_
            rintro e w10 ⟨rfl, hb10⟩
            refine .inl ⟨_, rfl, .inl (by kernel_rfl), ?_⟩
            simp only [Act.put, List.setIfInBounds_toArray, List.set_cons_zero, List.set_cons_succ]
            refine wpAnyL_done (by kernel_rfl) ?_ _
            have hb10' : Below wr.heap.size wr w10 := (Below.refl _ wr).drew.trans hb10
            have hg10 := grownBy_then HGR.out (grownBy_of_below' hb10' (some pc))
            have SV10 : SetVar w10 pc q := SVq.out.below hb10 SVq.out.lt
            have HG10 := hid hg10
            have HSV10 := hid SV10
            clear hb10 hb10' hg10 HGR SVq RS HSB hc2
            cases hsq : sub q s
            · clear hsq HQS
              clear SV10
              go_wp2_with fail
              go_roundw
              case rel => exact ⟨k + 1, q, by omega, by go_num, hq.out, HSV10.out, HG10.out⟩
              case measure => simp [intOf]; omega
            · have HQ2 := hid (HQS.out hsq)
              obtain ⟨n0, n1, _, _⟩ := SV10.cells
              have HWI := hid (With_c q (un : Int) w10)
              clear hsq HQS SV10
              go_wp2_with fail
              refine HWI.out.mono ?_
              rintro e w11 ⟨rfl, hb11⟩
              have sv11 := HSV10.out.below hb11 HSV10.out.lt
              obtain ⟨y0, y1, y2, y3⟩ := sv11.cells
              have SV12 := hid (sv11.store (withV q (un : Int)))
              have HG12 := hid (grownBy_then (grownBy_then HG10.out (grownBy_of_below' hb11 (some pc))) (grownBy_01 w11 pc (.int .u64 ((lw (withV q (un : Int))).toNat : Int)) (.int .u64 ((hw (withV q (un : Int))).toNat : Int))))
              clear n0 n1 sv11 hb11 HWI HG10 HSV10
              go_wp2_with fail
              go_roundw
              case rel => exact ⟨k + 1, withV q (un : Int), by omega, by go_num, HQ2.out, SV12.out, HG12.out⟩
              case measure => simp [intOf]; omega
          · obtain ⟨n0, n1, _, _⟩ := hsv.cells
            obtain ⟨d0, d1, _, _⟩ := hbx.cells
            cases hz : (q == 0#128)
            · have hz3 : ¬ q = 0#128 := by simpa using hz
              have HC := hid (clique_bag HD.out (S := q) hz3 hq.out.1 hq.out.2)
              have HBW := hid hBw
              have HSV := hid hsv
              clear hz3
              go_wp2_with fail
              have HBO := hid (Below.refl wr.heap.size wr)
              obtain ⟨wo, hwo⟩ : ∃ wo : World, wo = wr := ⟨_, rfl⟩
              subst hwo
              go_loopw [57] (fun i wr => ∃ j : Nat, j ≤ B.length ∧ i = .int .i64 j ∧ Hid (∀ m (h : m < B.length), m < j → sub q B[m] = false) ∧ Below wo.heap.size wo wr) (fun i _ => B.length - (intOf i).toNat)
              case atStart => exact ⟨0, Nat.zero_le _, rfl, fun m _ h => by omega, Below.refl _ _⟩
              case round =>
                obtain ⟨j, hj, rfl, hno, hBo⟩ := hrel
                have hBr := HBW.out.trans (hBo.mono HBW.out.size)
                by_cases hjl : j < B.length
                · obtain ⟨b1, o1, c1', e1, l1⟩ := (HX.out wr hBr).form (by omega)
                  injection e1 with e1 _ e1'
                  subst e1; subst e1'
                  obtain ⟨s, hs, r0, r1⟩ := (HX.out wr hBr).get j hjl
                  have zj : (0 : Int) ≤ (j : Int) ∧ (j : Int) < (B.length : Int) := by omega
                  have hv1 := SetVar.new wr s 32
                  have hb4 : Below wr.heap.size wr (wr.alloc (.cells #[.int .u64 ((lw s).toNat : Int), .int .u64 ((hw s).toNat : Int)] 32)) := (Below.refl _ wr).alloc (Nat.le_refl _) _
                  have hsv4 := (HSV.out.below hBo HSV.out.lt).below hb4 (Nat.lt_of_lt_of_le HSV.out.lt hBo.size)
                  have hbo4 := hBo.trans (hb4.mono hBo.size)
                  have HN2 := hid (show sub q s = false → ∀ m (h : m < B.length), m < j + 1 → sub q B[m] = false from fun h m hm hmj => by
                    by_cases e : m = j
                    · subst e; rw [hs]; exact h
                    · exact hno.out m hm (by omega))
                  have HSB := hid (Sub_c q s (wr.alloc (.cells #[.int .u64 ((lw s).toNat : Int), .int .u64 ((hw s).toNat : Int)] 32)))
                  obtain ⟨m0, m1, _, _⟩ := hv1.cells
                  obtain ⟨n0', n1', _, _⟩ := hsv4.cells
                  clear hs hno hb4 n0 n1 d0 d1
                  go_wp2_with fail
                  generalize wr.alloc (.cells #[.int .u64 ((lw s).toNat : Int), .int .u64 ((hw s).toNat : Int)] 32) = w4 at *
                  refine HSB.out.mono ?_
                  rintro e w5 ⟨rfl, hb5⟩
                  have hbo5 := hbo4.trans (hb5.mono hbo4.size)
                  have hB5 := HBW.out.trans (hbo5.mono HBW.out.size)
                  clear m0 m1 n0' n1' hv1 hsv4 r0 r1
                  cases hsq : sub q s
                  · have HN3 := hid (HN2.out hsq)
                    clear hsq
                    go_wp2_with fail
                    go_roundw
                    case rel => exact ⟨j + 1, by omega, by go_num, HN3.out, hbo5⟩
                    case measure => simp [intOf]; omega
                  · clear hsq
                    go_wp2_with fail
                    refine (HW.out _ hB5).mono ?_
                    rintro e w6 ⟨rfl, hb6⟩
                    have hB6 := hB5.trans (hb6.mono hB5.size)
                    go_wp2_with fail
                    go_ret
                    exact ⟨rfl, hB6⟩
                · exfalso
                  obtain ⟨b, hb, hall⟩ := HC.out
                  obtain ⟨m, hm, rfl⟩ := List.getElem_of_mem hb
                  have h1 := hno.out m hm (by omega)
                  rw [(sub_iff _ _).2 hall] at h1
                  cases h1
            · go_wp2_with fail
              refine (HW.out _ hBw).mono ?_
              rintro e w6 ⟨rfl, hb6⟩
              have hB6 := hBw.trans (hb6.mono hBw.size)
              go_wp2_with fail
              go_ret
              exact ⟨rfl, hB6⟩
      · have hk1 : (checkW L B U == 0) = false := by rw [beq_eq_false_iff_ne]; exact hck
        generalize checkW L B U = ck at *
        go_wp2_with fail
        refine (HW.out _ hB5).mono ?_
        rintro e w6 ⟨rfl, hb6⟩
        have hB6 := hB5.trans (hb6.mono hB5.size)
        go_wp2_with fail
        go_ret
        exact ⟨rfl, hB6⟩
end Go.Proofs.YtmlecpapoeodkaaDoor
