/- Walks: which nets decide. -/
import Derived.Test.YtpdbfbjfodckgaaDoorHHeads
import Derived.Test.YtpdbfbjfodckgaaDoorHOpp
namespace Go.Proofs.YtpdbfbjfodckgaaDoor
open Go.RowKit

/-- Every node has at most so many inputs. -/
def lean (L : List NodeT) : Prop := ∀ k (h : k < L.length), L[k].ins.length ≤ 65536
theorem lit_range {n : Int} {L : List NodeT} (hv : validNet ⟨n, L⟩ = true) (i : Int) (h : (nOf L i).kind = 2) : -128 ≤ (nOf L i).lit ∧ (nOf L i).lit ≤ 128 := by
  obtain ⟨_, hft⟩ := (validNet_iff _).1 hv
  unfold nOf at h ⊢
  by_cases h0 : 0 ≤ i
  · rw [if_pos h0] at h ⊢
    by_cases hl : i.toNat < L.length
    · rw [List.getD_eq_getElem?_getD, List.getElem?_eq_getElem hl, Option.getD_some] at h ⊢
      have hf : formed L[i.toNat] n i.toNat = true := hft i.toNat hl hl
      unfold formed at hf
      cases hb : badIn L[i.toNat].ins i.toNat with
      | true => rw [hb, if_pos rfl] at hf; cases hf
      | false =>
        rw [hb, if_neg (by simp), if_neg (by omega), if_pos h] at hf
        simp only [Bool.and_eq_true] at hf
        have h1 := hf.1
        simp only [litValid, Bool.and_eq_true, decide_eq_true_eq] at h1
        have h2 := h1.1
        unfold litVar at h2
        split at h2
        · omega
        · split at h2
          · omega
          · exact absurd rfl h2
    · rw [List.getD_eq_getElem?_getD, List.getElem?_eq_none (by omega)] at h
      cases h
  · rw [if_neg h0] at h
    cases h
theorem litsOf_mem {L : List NodeT} {l : List Int} {x : Int} (h : x ∈ litsOf L l) : ∃ i, (nOf L i).kind = 2 ∧ (nOf L i).lit = x := by
  unfold litsOf at h
  obtain ⟨i, _, hi⟩ := List.mem_filterMap.1 h
  by_cases e : (nOf L i).kind = 2
  · rw [if_pos e] at hi; exact ⟨i, e, Option.some.inj hi⟩
  · rw [if_neg e] at hi; cases hi
theorem heads_range {n : Int} {L : List NodeT} (hv : validNet ⟨n, L⟩ = true) (i : Int) : ∀ x ∈ heads L i, -128 ≤ x ∧ x ≤ 128 := by
  intro x hx
  unfold heads at hx
  by_cases e : (nOf L i).kind = 2
  · rw [if_pos e, List.mem_singleton] at hx
    subst hx; exact lit_range hv i e
  · rw [if_neg e] at hx
    by_cases e3 : (nOf L i).kind = 3
    · rw [if_pos e3] at hx
      obtain ⟨j, h1, h2⟩ := litsOf_mem hx
      rw [← h2]; exact lit_range hv j h1
    · rw [if_neg e3] at hx; cases hx
theorem heads_len {L : List NodeT} (hl : lean L) (i : Int) : (heads L i).length ≤ 65536 := by
  unfold heads
  by_cases e : (nOf L i).kind = 2
  · rw [if_pos e]; simp
  · rw [if_neg e]
    by_cases e3 : (nOf L i).kind = 3
    · rw [if_pos e3]
      refine Nat.le_trans (litsOf_le _ _) ?_
      unfold nOf
      split
      · by_cases h : i.toNat < L.length
        · rw [List.getD_eq_getElem?_getD, List.getElem?_eq_getElem h, Option.getD_some]; exact hl _ h
        · rw [List.getD_eq_getElem?_getD, List.getElem?_eq_none (by omega)]; simp
      · simp
    · rw [if_neg e3]; simp
set_option maxRecDepth 100000 in
set_option maxHeartbeats 4000000 in
theorem Decision_c (n : Int) (L : List NodeT) (v : Value) (w : World) (hN : NodesAt w v L) (hlean : lean L) :
    Calls Tryd.prog 20 #[.agg #[.int .i64 n, v]] w (DecPost (validNet ⟨n, L⟩ && decideB L) w) := by
  have hB1 : Below w.heap.size w (w.alloc (.cells #[.int .i64 n, v] 24)) := (Below.refl _ w).alloc (Nat.le_refl _) _
  have hCK := Check_c n L v _ (hN.below hB1)
  cases hv : validNet ⟨n, L⟩ with
  | false =>
    unfold checkNo at hCK
    rw [hv, if_neg (by simp)] at hCK
    have HCK := hid hCK
    obtain ⟨x0, x1⟩ := NetVar.new w n v 24
    have HB1 := hid hB1
    clear hCK hB1 hN hv
    go_enter Tryd.func20, Tryd.ntmps20
    go_wp2_with fail
    refine HCK.out.mono ?_
    rintro e w2 ⟨rfl, hb2⟩
    go_wp2_with fail
    go_ret
    exact ⟨rfl, HB1.out.trans (hb2.mono HB1.out.size)⟩
  | true =>
  obtain ⟨⟨r1, r2, r3, r4⟩, hft⟩ := (validNet_iff _).1 hv
  simp only at r1 r2 r3 r4 hft
  rw [checkNo_t hv] at hCK
  have HCK := hid hCK
  have HNA := hid (hN.below hB1)
  obtain ⟨p, c, rfl, h⟩ := hN
  obtain ⟨b, off, rfl, hN⟩ := h.resolve_left (by intro e; rw [e] at r3; simp at r3)
  have hx := NetVar.new w n (.slice (some ⟨b, off, none⟩) L.length c) 24
  obtain ⟨x0, x1⟩ := hx
  have HN := hid hN
  have HFT := hid hft
  have HX := hid (NetVar.new w n (.slice (some ⟨b, off, none⟩) L.length c) 24)
  have HB1 := hid hB1
  have hv0 := hv
  clear hCK hN h hv hft hB1
  go_enter Tryd.func20, Tryd.ntmps20
  go_wp2_with fail
  refine HCK.out.mono ?_
  rintro e w2 ⟨rfl, hb2⟩
  obtain ⟨y0, y1⟩ := HX.out.below hb2
  have HNA3 := hid (HNA.out.below hb2)
  have HX3 := hid (HX.out.below hb2)
  have HB3 := hid (HB1.out.trans (hb2.mono HB1.out.size))
  have HVV := hid hv0
  have HLE := hid hlean
  have HLEN := hid r4
  clear x0 x1 hb2 HCK HX HB1 HNA hv0 hlean
  go_wp2_with fail
  obtain ⟨w3, hw3⟩ : ∃ w3 : World, w3 = w2 := ⟨_, rfl⟩
  subst hw3
  go_loopw [11] (fun z wr => ∃ (k : Nat), k ≤ L.length ∧ z = .int .i64 k ∧ Hid (∀ j (hj : j < L.length), j < k → (L[j].kind != 4 || (L[j].ins.length == 2 && opp (heads L (L[j].ins.getD 0 0)) (heads L (L[j].ins.getD 1 0)))) = true) ∧ Hid (Below w3.heap.size w3 wr)) (fun z _ => L.length - (intOf z).toNat)
  case atStart => exact ⟨0, Nat.zero_le _, rfl, fun j _ h => absurd h (Nat.not_lt_zero _), Below.refl _ _⟩
  case round =>
    obtain ⟨k, hk, rfl, hok, hbr⟩ := hrel
    by_cases hkl : k < L.length
    · obtain ⟨u, hu⟩ := HN.out k hkl
      have hbw := HB3.out.trans (hbr.out.mono HB3.out.size)
      have hur := hu.below hbw
      have d0 := hur.kind
      have d1 := hur.lit
      have d2 := hur.ins
      have HU := hid hur
      have HIN := hid (ins_lt HFT.out hkl)
      have hle := hur.len
      have zk : (0 : Int) ≤ (k : Int) ∧ (k : Int) < (L.length : Int) := by omega
      have HOK := hid (show (L[k].kind != 4 || (L[k].ins.length == 2 && opp (heads L (L[k].ins.getD 0 0)) (heads L (L[k].ins.getD 1 0)))) = true → ∀ j (hj : j < L.length), j < k + 1 → (L[j].kind != 4 || (L[j].ins.length == 2 && opp (heads L (L[j].ins.getD 0 0)) (heads L (L[j].ins.getD 1 0)))) = true from fun h j hj hlt => by
        by_cases e : j = k
        · subst e; exact h
        · exact hok.out j hj (by omega))
      have HNO := hid (show (L[k].kind != 4 || (L[k].ins.length == 2 && opp (heads L (L[k].ins.getD 0 0)) (heads L (L[k].ins.getD 1 0)))) = false → decideB L = false from fun h => all_not hkl h)
      have HBW := hid hbw
      have HBR := hid hbr.out
      clear hu hur hbw hok hbr
      generalize hxx : L[k] = x at *
      obtain ⟨xk, xl, xi⟩ := x
      obtain ⟨p2, c2, e2, hdrop⟩ := HU.out.ints
      subst e2
      clear hdrop hxx
      have b3 := Box3.new wr 39 (.int .i64 xk) (.int .i64 xl) (.slice p2 xi.length c2)
      by_cases h3 : xk = 4
      · subst h3
        have n0 := b3.cells.1
        have n2 := b3.cells.2.2
        have BK : Hid ((wr.alloc (.cells #[.int .i64 4, .int .i64 xl, .slice p2 xi.length c2] 39)).drew.cell? ⟨wr.heap.size, 0, none⟩ = some (.int .i64 4)) := n0
        have BI : Hid ((wr.alloc (.cells #[.int .i64 4, .int .i64 xl, .slice p2 xi.length c2] 39)).drew.cell? ⟨wr.heap.size, 2, none⟩ = some (.slice p2 xi.length c2)) := n2
        by_cases h2 : xi.length = 2
        · obtain ⟨qa, qb, rfl⟩ : ∃ qa qb, xi = [qa, qb] := by
            match xi, h2 with
            | [qa, qb], _ => exact ⟨qa, qb, rfl⟩
          obtain ⟨p3, c3, e3, h4⟩ := show IntsAt wr (.slice p2 2 c2) [qa, qb] from HU.out.ints
          injection e3 with e1 e0 e2
          clear e0
          subst e1; subst e2
          obtain ⟨b2, o2, rfl, hc⟩ := h4.resolve_left (by simp)
          have hc0 := hc 0 (by simp)
          have hc1 := hc 1 (by simp)
          have ha := HIN.out qa (by simp)
          have hb := HIN.out qb (by simp)
          obtain ⟨na, rfl⟩ : ∃ na : Nat, qa = (na : Int) := ⟨qa.toNat, by omega⟩
          obtain ⟨nb, rfl⟩ : ∃ nb : Nat, qb = (nb : Int) := ⟨qb.toNat, by omega⟩
          have hal : na < L.length := by omega
          have hbl : nb < L.length := by omega
          have HIA := hid (ins_lt HFT.out hal)
          have HIB := hid (ins_lt HFT.out hbl)
          have hba : Below wr.heap.size wr (wr.alloc (.cells #[.int .i64 4, .int .i64 xl, .slice (some ⟨b2, o2, none⟩) 2 c2] 39)) := (Below.refl _ wr).alloc (Nat.le_refl _) _
          have C0 : Hid ((wr.alloc (.cells #[.int .i64 4, .int .i64 xl, .slice (some ⟨b2, o2, none⟩) 2 c2] 39)).drew.cell? ⟨b2, o2, none⟩ = some (.int .i64 (na : Int))) := (hba.cell (cell_lt hc0)).trans hc0
          have C1 : Hid ((wr.alloc (.cells #[.int .i64 4, .int .i64 xl, .slice (some ⟨b2, o2, none⟩) 2 c2] 39)).drew.cell? ⟨b2, o2 + 1, none⟩ = some (.int .i64 (nb : Int))) := (hba.cell (cell_lt hc1)).trans hc1
          have HN5 : Hid (NodesAt (wr.alloc (.cells #[.int .i64 4, .int .i64 xl, .slice (some ⟨b2, o2, none⟩) 2 c2] 39)).drew (.slice (some ⟨b, off, none⟩) L.length c) L) := (HNA3.out.below HBR.out).below hba.drew
          obtain ⟨v0, v1⟩ := (HX3.out.below HBR.out).below hba
          have CN : Hid ((wr.alloc (.cells #[.int .i64 4, .int .i64 xl, .slice (some ⟨b2, o2, none⟩) 2 c2] 39)).drew.cell? ⟨w.heap.size, 0, none⟩ = some (.int .i64 n)) := v0
          have CV : Hid ((wr.alloc (.cells #[.int .i64 4, .int .i64 xl, .slice (some ⟨b2, o2, none⟩) 2 c2] 39)).drew.cell? ⟨w.heap.size, 1, none⟩ = some (.slice (some ⟨b, off, none⟩) L.length c)) := v1
          have HB4 := hid (HBR.out.alloc HBR.out.size (.cells #[.int .i64 4, .int .i64 xl, .slice (some ⟨b2, o2, none⟩) 2 c2] 39))
          simp only [List.length_cons, List.length_nil, Nat.zero_add, Nat.reduceAdd] at BI BK d2 b3
          clear hc hc0 hc1 ha hb hba v0 v1 h4 HU
          cases hop : opp (heads L (na : Int)) (heads L (nb : Int)) with
          | false =>
            have HO := hid (HNO.out (by show ((4 : Int) != 4 || ((2 : Nat) == 2 && opp (heads L (na : Int)) (heads L (nb : Int)))) = false; rw [hop]; rfl))
            go_wp2_with fail
            generalize wr.alloc (.cells #[.int .i64 4, .int .i64 xl, .slice (some ⟨b2, o2, none⟩) 2 c2] 39) = w5 at *
            refine Go.Proofs.YtpdbfbjfodckgaaDoor.wp_region_L 25 20 (fun w' => w'.cell? ⟨wr.heap.size, 0, none⟩ = some (.int .i64 4) ∧ w'.cell? ⟨wr.heap.size, 2, none⟩ = some (.slice (some ⟨b2, o2, none⟩) 2 c2) ∧ w'.cell? ⟨w.heap.size, 0, none⟩ = some (.int .i64 n) ∧ w'.cell? ⟨w.heap.size, 1, none⟩ = some (.slice (some ⟨b, off, none⟩) L.length c) ∧ w'.cell? ⟨b2, o2, none⟩ = some (.int .i64 (na : Int)) ∧ w'.cell? ⟨b2, o2 + 1, none⟩ = some (.int .i64 (nb : Int))) (by kernel_rfl) rfl ⟨BK.out, BI.out, CN.out, CV.out, C0.out, C1.out⟩ (fun _ => ?_)
            refine wpAnyL_pure (i := 0) (v := .pointer (some ⟨wr.heap.size, 0, none⟩)) (by simp only [List.getElem?_toArray, List.getElem?_cons_zero] <;> rfl) (by kernel_rfl) (by kernel_rfl) (by kernel_rfl) (by exact fun _ _ _ h => h) (by decide) (.inr ⟨BK.out, BI.out, CN.out, CV.out, C0.out, C1.out⟩) (Or.inl ⟨by rfl, fun w _ => (by simp [execOp, go_sem, Act.eval])⟩) (fun _ => ?_)
            simp only [Act.put, List.setIfInBounds_toArray, List.set_cons_zero, List.set_cons_succ]
            refine wpAnyL_load2 (i := 1) (v := .int .i64 4) (by simp only [List.getElem?_toArray, List.getElem?_cons_zero, List.getElem?_cons_succ] <;> rfl) (by kernel_rfl) (by kernel_rfl) (by kernel_rfl) (by exact fun _ _ _ h => h) (by decide) (Waits.more (j := 8) rfl ⟨⟨8, .guard⟩, by simp, rfl, rfl⟩ (Waits.more (j := 3) rfl ⟨⟨3, .chain⟩, by simp, rfl, rfl⟩ (Waits.more (j := 2) rfl ⟨⟨2, .data⟩, by simp, rfl, rfl⟩ (Waits.one rfl ⟨⟨1, .data⟩, by simp, rfl, rfl⟩)))) (by kernel_rfl) (by kernel_rfl) (.inr ⟨BK.out, BI.out, CN.out, CV.out, C0.out, C1.out⟩) (Or.inl ⟨by rfl, fun w hw => (by obtain ⟨x0, _, _, _, _, _⟩ := hw; simp [execOp, go_sem, Act.eval, x0])⟩) (fun _ => ?_)
            simp only [Act.put, List.setIfInBounds_toArray, List.set_cons_zero, List.set_cons_succ]
            refine wpAnyL_pure (i := 2) (v := .bool true) (by simp only [List.getElem?_toArray, List.getElem?_cons_zero, List.getElem?_cons_succ] <;> rfl) (by kernel_rfl) (by kernel_rfl) (by kernel_rfl) (by exact fun _ _ _ h => h) (by decide) (.inr ⟨BK.out, BI.out, CN.out, CV.out, C0.out, C1.out⟩) (Or.inl ⟨by rfl, fun w _ => (by simp [execOp, go_sem, Act.eval])⟩) (fun _ => ?_)
            simp only [Act.put, List.setIfInBounds_toArray, List.set_cons_zero, List.set_cons_succ]
            refine wpAnyL_pure (i := 3) (v := .bool true) (by simp only [List.getElem?_toArray, List.getElem?_cons_zero, List.getElem?_cons_succ] <;> rfl) (by kernel_rfl) (by kernel_rfl) (by kernel_rfl) (by exact fun _ _ _ h => h) (by decide) (.inr ⟨BK.out, BI.out, CN.out, CV.out, C0.out, C1.out⟩) (Or.inl ⟨by rfl, fun w _ => (by simp [execOp, go_sem, Act.eval])⟩) (fun _ => ?_)
            simp only [Act.put, List.setIfInBounds_toArray, List.set_cons_zero, List.set_cons_succ]
            refine wpAnyL_pure (i := 4) (v := .pointer (some ⟨wr.heap.size, 2, none⟩)) (by simp only [List.getElem?_toArray, List.getElem?_cons_zero, List.getElem?_cons_succ] <;> rfl) (by kernel_rfl) (by kernel_rfl) (by kernel_rfl) (by exact fun _ _ _ h => h) (by decide) (.inr ⟨BK.out, BI.out, CN.out, CV.out, C0.out, C1.out⟩) (Or.inl ⟨by rfl, fun w _ => (by simp [execOp, go_sem, Act.eval])⟩) (fun _ => ?_)
            simp only [Act.put, List.setIfInBounds_toArray, List.set_cons_zero, List.set_cons_succ]
            refine wpAnyL_load2 (i := 5) (v := .slice (some ⟨b2, o2, none⟩) 2 c2) (by simp only [List.getElem?_toArray, List.getElem?_cons_zero, List.getElem?_cons_succ] <;> rfl) (by kernel_rfl) (by kernel_rfl) (by kernel_rfl) (by exact fun _ _ _ h => h) (by decide) (Waits.more (j := 8) rfl ⟨⟨8, .guard⟩, by simp, rfl, rfl⟩ (Waits.more (j := 7) rfl ⟨⟨7, .data⟩, by simp, rfl, rfl⟩ (Waits.more (j := 6) rfl ⟨⟨6, .data⟩, by simp, rfl, rfl⟩ (Waits.one rfl ⟨⟨5, .data⟩, by simp, rfl, rfl⟩)))) (by kernel_rfl) (by kernel_rfl) (.inr ⟨BK.out, BI.out, CN.out, CV.out, C0.out, C1.out⟩) (Or.inl ⟨by rfl, fun w hw => (by obtain ⟨_, x1, _, _, _, _⟩ := hw; simp [execOp, go_sem, Act.eval, x1])⟩) (fun _ => ?_)
            simp only [Act.put, List.setIfInBounds_toArray, List.set_cons_zero, List.set_cons_succ]
            refine wpAnyL_pure (i := 6) (v := .int .i64 ((2 : Nat) : Int)) (by simp only [List.getElem?_toArray, List.getElem?_cons_zero, List.getElem?_cons_succ] <;> rfl) (by kernel_rfl) (by kernel_rfl) (by kernel_rfl) (by exact fun _ _ _ h => h) (by decide) (.inr ⟨BK.out, BI.out, CN.out, CV.out, C0.out, C1.out⟩) (Or.inl ⟨by rfl, fun w _ => (by simp [go_sem, Act.eval])⟩) (fun _ => ?_)
            simp only [Act.put, List.setIfInBounds_toArray, List.set_cons_zero, List.set_cons_succ]
            refine wpAnyL_pure (i := 7) (v := .bool false) (by simp only [List.getElem?_toArray, List.getElem?_cons_zero, List.getElem?_cons_succ] <;> rfl) (by kernel_rfl) (by kernel_rfl) (by kernel_rfl) (by exact fun _ _ _ h => h) (by decide) (.inr ⟨BK.out, BI.out, CN.out, CV.out, C0.out, C1.out⟩) (Or.inl ⟨by rfl, fun w _ => (by simp [execOp, go_sem, Act.eval])⟩) (fun _ => ?_)
            simp only [Act.put, List.setIfInBounds_toArray, List.set_cons_zero, List.set_cons_succ]
            refine wpAnyL_pure (i := 8) (v := .bool false) (by simp only [List.getElem?_toArray, List.getElem?_cons_zero, List.getElem?_cons_succ] <;> rfl) (by kernel_rfl) (by kernel_rfl) (by kernel_rfl) (by exact fun _ _ _ h => h) (by decide) (.inr ⟨BK.out, BI.out, CN.out, CV.out, C0.out, C1.out⟩) (Or.inl ⟨by rfl, fun w _ => (by simp [execOp, go_sem, Act.eval])⟩) (fun _ => ?_)
            simp only [Act.put, List.setIfInBounds_toArray, List.set_cons_zero, List.set_cons_succ]
            refine wpAnyL_load2 (i := 9) (v := .agg #[.int .i64 n, .slice (some ⟨b, off, none⟩) L.length c]) (by simp only [List.getElem?_toArray, List.getElem?_cons_zero, List.getElem?_cons_succ] <;> rfl) (by kernel_rfl) (by kernel_rfl) (by kernel_rfl) (by exact fun _ _ _ h => h) (by decide) (Waits.more (j := 14) rfl ⟨⟨14, .chain⟩, by simp, rfl, rfl⟩ (Waits.one rfl ⟨⟨9, .data⟩, by simp, rfl, rfl⟩)) (by kernel_rfl) (by kernel_rfl) (.inr ⟨BK.out, BI.out, CN.out, CV.out, C0.out, C1.out⟩) (Or.inl ⟨by rfl, fun w hw => (by obtain ⟨_, _, x2, x3, _, _⟩ := hw; simp [execOp, go_sem, Act.eval, x2, x3])⟩) (fun _ => ?_)
            simp only [Act.put, List.setIfInBounds_toArray, List.set_cons_zero, List.set_cons_succ]
            refine wpAnyL_pure (i := 10) (v := .pointer (some ⟨wr.heap.size, 2, none⟩)) (by simp only [List.getElem?_toArray, List.getElem?_cons_zero, List.getElem?_cons_succ] <;> rfl) (by kernel_rfl) (by kernel_rfl) (by kernel_rfl) (by exact fun _ _ _ h => h) (by decide) (.inr ⟨BK.out, BI.out, CN.out, CV.out, C0.out, C1.out⟩) (Or.inl ⟨by rfl, fun w _ => (by simp [execOp, go_sem, Act.eval])⟩) (fun _ => ?_)
            simp only [Act.put, List.setIfInBounds_toArray, List.set_cons_zero, List.set_cons_succ]
            refine wpAnyL_load2 (i := 11) (v := .slice (some ⟨b2, o2, none⟩) 2 c2) (by simp only [List.getElem?_toArray, List.getElem?_cons_zero, List.getElem?_cons_succ] <;> rfl) (by kernel_rfl) (by kernel_rfl) (by kernel_rfl) (by exact fun _ _ _ h => h) (by decide) (Waits.more (j := 14) rfl ⟨⟨14, .chain⟩, by simp, rfl, rfl⟩ (Waits.more (j := 13) rfl ⟨⟨13, .data⟩, by simp, rfl, rfl⟩ (Waits.more (j := 12) rfl ⟨⟨12, .data⟩, by simp, rfl, rfl⟩ (Waits.one rfl ⟨⟨11, .data⟩, by simp, rfl, rfl⟩)))) (by kernel_rfl) (by kernel_rfl) (.inr ⟨BK.out, BI.out, CN.out, CV.out, C0.out, C1.out⟩) (Or.inl ⟨by rfl, fun w hw => (by obtain ⟨_, x1, _, _, _, _⟩ := hw; simp [execOp, go_sem, Act.eval, x1])⟩) (fun _ => ?_)
            simp only [Act.put, List.setIfInBounds_toArray, List.set_cons_zero, List.set_cons_succ]
            refine wpAnyL_pure (i := 12) (v := .pointer (some ⟨b2, o2, none⟩)) (by simp only [List.getElem?_toArray, List.getElem?_cons_zero, List.getElem?_cons_succ] <;> rfl) (by kernel_rfl) (by kernel_rfl) (by kernel_rfl) (by exact fun _ _ _ h => h) (by decide) (.inr ⟨BK.out, BI.out, CN.out, CV.out, C0.out, C1.out⟩) (Or.inl ⟨by rfl, fun w _ => (by simp [execOp, go_sem, Act.eval])⟩) (fun _ => ?_)
            simp only [Act.put, List.setIfInBounds_toArray, List.set_cons_zero, List.set_cons_succ]
            refine wpAnyL_load2 (i := 13) (v := .int .i64 (na : Int)) (by simp only [List.getElem?_toArray, List.getElem?_cons_zero, List.getElem?_cons_succ] <;> rfl) (by kernel_rfl) (by kernel_rfl) (by kernel_rfl) (by exact fun _ _ _ h => h) (by decide) (Waits.more (j := 14) rfl ⟨⟨14, .chain⟩, by simp, rfl, rfl⟩ (Waits.one rfl ⟨⟨13, .data⟩, by simp, rfl, rfl⟩)) (by kernel_rfl) (by kernel_rfl) (.inr ⟨BK.out, BI.out, CN.out, CV.out, C0.out, C1.out⟩) (Or.inl ⟨by rfl, fun w hw => (by obtain ⟨_, _, _, _, x4, _⟩ := hw; simp [execOp, go_sem, Act.eval, x4])⟩) (fun _ => ?_)
            simp only [Act.put, List.setIfInBounds_toArray, List.set_cons_zero, List.set_cons_succ]
            refine wpAnyL_load2 (i := 15) (v := .agg #[.int .i64 n, .slice (some ⟨b, off, none⟩) L.length c]) (by simp only [List.getElem?_toArray, List.getElem?_cons_zero, List.getElem?_cons_succ] <;> rfl) (by kernel_rfl) (by kernel_rfl) (by kernel_rfl) (by exact fun _ _ _ h => h) (by decide) (Waits.one rfl ⟨⟨15, .data⟩, by simp, rfl, rfl⟩) (by kernel_rfl) (by kernel_rfl) (.inr ⟨BK.out, BI.out, CN.out, CV.out, C0.out, C1.out⟩) (Or.inl ⟨by rfl, fun w hw => (by obtain ⟨_, _, x2, x3, _, _⟩ := hw; simp [execOp, go_sem, Act.eval, x2, x3])⟩) (fun _ => ?_)
            simp only [Act.put, List.setIfInBounds_toArray, List.set_cons_zero, List.set_cons_succ]
            refine wpAnyL_pure (i := 16) (v := .pointer (some ⟨wr.heap.size, 2, none⟩)) (by simp only [List.getElem?_toArray, List.getElem?_cons_zero, List.getElem?_cons_succ] <;> rfl) (by kernel_rfl) (by kernel_rfl) (by kernel_rfl) (by exact fun _ _ _ h => h) (by decide) (.inr ⟨BK.out, BI.out, CN.out, CV.out, C0.out, C1.out⟩) (Or.inl ⟨by rfl, fun w _ => (by simp [execOp, go_sem, Act.eval])⟩) (fun _ => ?_)
            simp only [Act.put, List.setIfInBounds_toArray, List.set_cons_zero, List.set_cons_succ]
            refine wpAnyL_load2 (i := 17) (v := .slice (some ⟨b2, o2, none⟩) 2 c2) (by simp only [List.getElem?_toArray, List.getElem?_cons_zero, List.getElem?_cons_succ] <;> rfl) (by kernel_rfl) (by kernel_rfl) (by kernel_rfl) (by exact fun _ _ _ h => h) (by decide) (Waits.more (j := 19) rfl ⟨⟨19, .data⟩, by simp, rfl, rfl⟩ (Waits.more (j := 18) rfl ⟨⟨18, .data⟩, by simp, rfl, rfl⟩ (Waits.one rfl ⟨⟨17, .data⟩, by simp, rfl, rfl⟩))) (by kernel_rfl) (by kernel_rfl) (.inr ⟨BK.out, BI.out, CN.out, CV.out, C0.out, C1.out⟩) (Or.inl ⟨by rfl, fun w hw => (by obtain ⟨_, x1, _, _, _, _⟩ := hw; simp [execOp, go_sem, Act.eval, x1])⟩) (fun _ => ?_)
            simp only [Act.put, List.setIfInBounds_toArray, List.set_cons_zero, List.set_cons_succ]
            refine wpAnyL_pure (i := 18) (v := .pointer (some ⟨b2, o2 + 1, none⟩)) (by simp only [List.getElem?_toArray, List.getElem?_cons_zero, List.getElem?_cons_succ] <;> rfl) (by kernel_rfl) (by kernel_rfl) (by kernel_rfl) (by exact fun _ _ _ h => h) (by decide) (.inr ⟨BK.out, BI.out, CN.out, CV.out, C0.out, C1.out⟩) (Or.inl ⟨by rfl, fun w _ => (by simp [execOp, go_sem, Act.eval])⟩) (fun _ => ?_)
            simp only [Act.put, List.setIfInBounds_toArray, List.set_cons_zero, List.set_cons_succ]
            refine wpAnyL_load2 (i := 19) (v := .int .i64 (nb : Int)) (by simp only [List.getElem?_toArray, List.getElem?_cons_zero, List.getElem?_cons_succ] <;> rfl) (by kernel_rfl) (by kernel_rfl) (by kernel_rfl) (by exact fun _ _ _ h => h) (by decide) (Waits.one rfl ⟨⟨19, .data⟩, by simp, rfl, rfl⟩) (by kernel_rfl) (by kernel_rfl) (.inr ⟨BK.out, BI.out, CN.out, CV.out, C0.out, C1.out⟩) (Or.inl ⟨by rfl, fun w hw => (by obtain ⟨_, _, _, _, _, x5⟩ := hw; simp [execOp, go_sem, Act.eval, x5])⟩) (fun _ => ?_)
            simp only [Act.put, List.setIfInBounds_toArray, List.set_cons_zero, List.set_cons_succ]
            refine wpAnyL_one (i := 14) (by kernel_rfl) (by simp only [List.getElem?_toArray, List.getElem?_cons_zero, List.getElem?_cons_succ] <;> rfl) (by rfl) ?_
            refine opwp_call (f := 50) (args := #[.agg #[.int .i64 n, .slice (some ⟨b, off, none⟩) L.length c], .int .i64 (na : Int)]) (w' := w5.drew) (by simp [go_sem, Act.eval]) ?_
            refine (heads_c n L _ w5.drew na HN5.out hal HLEN.out HIA.out (HLE.out na hal)).mono ?_
            rintro e w6 ⟨u1, rfl, hu1, hb6⟩
            have hcc1_0 := hid ((hb6.cell (cell_lt BK.out)).trans BK.out)
            have hcc1_1 := hid ((hb6.cell (cell_lt BI.out)).trans BI.out)
            have hcc1_2 := hid ((hb6.cell (cell_lt CN.out)).trans CN.out)
            have hcc1_3 := hid ((hb6.cell (cell_lt CV.out)).trans CV.out)
            have hcc1_4 := hid ((hb6.cell (cell_lt C0.out)).trans C0.out)
            have hcc1_5 := hid ((hb6.cell (cell_lt C1.out)).trans C1.out)
            have HN6 := hid (HN5.out.below hb6)
            refine .inl ⟨_, rfl, .inr ⟨hcc1_0.out, hcc1_1.out, hcc1_2.out, hcc1_3.out, hcc1_4.out, hcc1_5.out⟩, ?_⟩
            simp only [Act.put, List.setIfInBounds_toArray, List.set_cons_zero, List.set_cons_succ]
            refine wpAnyL_one (i := 20) (by kernel_rfl) (by simp only [List.getElem?_toArray, List.getElem?_cons_zero, List.getElem?_cons_succ] <;> rfl) (by rfl) ?_
            refine opwp_call (f := 50) (args := #[.agg #[.int .i64 n, .slice (some ⟨b, off, none⟩) L.length c], .int .i64 (nb : Int)]) (w' := w6) (by simp [go_sem, Act.eval]) ?_
            refine (heads_c n L _ w6 nb HN6.out hbl HLEN.out HIB.out (HLE.out nb hbl)).mono ?_
            rintro e w7 ⟨u2, rfl, hu2, hb7⟩
            refine .inl ⟨_, rfl, .inl (by kernel_rfl), ?_⟩
            simp only [Act.put, List.setIfInBounds_toArray, List.set_cons_zero, List.set_cons_succ]
            refine wpAnyL_one (i := 21) (by kernel_rfl) (by simp only [List.getElem?_toArray, List.getElem?_cons_zero, List.getElem?_cons_succ] <;> rfl) (by rfl) ?_
            refine opwp_call (f := 49) (args := #[u1, u2]) (w' := w7) (by simp [go_sem, Act.eval]) ?_
            refine ((show Calls _ _ _ _ (DecPost false w7) from by have h := opposite_c u1 u2 (heads L (na : Int)) (heads L (nb : Int)) w7 (hu1.below hb7) hu2 (heads_len HLE.out _) (Nat.le_trans (heads_len HLE.out _) (by omega)) (heads_range HVV.out _) (heads_range HVV.out _); rw [hop] at h; exact h)).mono ?_
            rintro e w8 ⟨rfl, hb8⟩
            refine .inl ⟨_, rfl, .inl (by kernel_rfl), ?_⟩
            simp only [Act.put, List.setIfInBounds_toArray, List.set_cons_zero, List.set_cons_succ]
            refine wpAnyL_pure (i := 22) (v := .bool true) (by simp only [List.getElem?_toArray, List.getElem?_cons_zero, List.getElem?_cons_succ] <;> rfl) (by kernel_rfl) (by kernel_rfl) (by kernel_rfl) (by exact fun _ _ _ h => h) (by decide) (.inl (by kernel_rfl)) (Or.inl ⟨by rfl, fun w _ => (by simp [execOp, go_sem, Act.eval])⟩) (fun _ => ?_)
            simp only [Act.put, List.setIfInBounds_toArray, List.set_cons_zero, List.set_cons_succ]
            refine wpAnyL_pure (i := 23) (v := .bool true) (by simp only [List.getElem?_toArray, List.getElem?_cons_zero, List.getElem?_cons_succ] <;> rfl) (by kernel_rfl) (by kernel_rfl) (by kernel_rfl) (by exact fun _ _ _ h => h) (by decide) (.inl (by kernel_rfl)) (Or.inl ⟨by rfl, fun w _ => (by simp [execOp, go_sem, Act.eval])⟩) (fun _ => ?_)
            simp only [Act.put, List.setIfInBounds_toArray, List.set_cons_zero, List.set_cons_succ]
            refine wpAnyL_pure (i := 24) (v := .bool true) (by simp only [List.getElem?_toArray, List.getElem?_cons_zero, List.getElem?_cons_succ] <;> rfl) (by kernel_rfl) (by kernel_rfl) (by kernel_rfl) (by exact fun _ _ _ h => h) (by decide) (.inl (by kernel_rfl)) (Or.inl ⟨by rfl, fun w _ => (by simp [execOp, go_sem, Act.eval])⟩) (fun _ => ?_)
            simp only [Act.put, List.setIfInBounds_toArray, List.set_cons_zero, List.set_cons_succ]
            refine wpAnyL_done (by kernel_rfl) ?_ _
            have HB8 := hid (HB4.out.drew.trans ((((hb6.trans (hb7.mono hb6.size)).trans (hb8.mono (hb6.trans (hb7.mono hb6.size)).size)).mono HB4.out.size)))
            go_wp2_with fail
            go_ret
            exact ⟨by rw [HO.out]; rfl, HB3.out.trans (HB8.out.mono HB3.out.size)⟩
          | true =>
            have HO := hid (HOK.out (by show ((4 : Int) != 4 || ((2 : Nat) == 2 && opp (heads L (na : Int)) (heads L (nb : Int)))) = true; rw [hop]; rfl))
            go_wp2_with fail
            generalize wr.alloc (.cells #[.int .i64 4, .int .i64 xl, .slice (some ⟨b2, o2, none⟩) 2 c2] 39) = w5 at *
            refine Go.Proofs.YtpdbfbjfodckgaaDoor.wp_region_L 25 20 (fun w' => w'.cell? ⟨wr.heap.size, 0, none⟩ = some (.int .i64 4) ∧ w'.cell? ⟨wr.heap.size, 2, none⟩ = some (.slice (some ⟨b2, o2, none⟩) 2 c2) ∧ w'.cell? ⟨w.heap.size, 0, none⟩ = some (.int .i64 n) ∧ w'.cell? ⟨w.heap.size, 1, none⟩ = some (.slice (some ⟨b, off, none⟩) L.length c) ∧ w'.cell? ⟨b2, o2, none⟩ = some (.int .i64 (na : Int)) ∧ w'.cell? ⟨b2, o2 + 1, none⟩ = some (.int .i64 (nb : Int))) (by kernel_rfl) rfl ⟨BK.out, BI.out, CN.out, CV.out, C0.out, C1.out⟩ (fun _ => ?_)
            refine wpAnyL_pure (i := 0) (v := .pointer (some ⟨wr.heap.size, 0, none⟩)) (by simp only [List.getElem?_toArray, List.getElem?_cons_zero] <;> rfl) (by kernel_rfl) (by kernel_rfl) (by kernel_rfl) (by exact fun _ _ _ h => h) (by decide) (.inr ⟨BK.out, BI.out, CN.out, CV.out, C0.out, C1.out⟩) (Or.inl ⟨by rfl, fun w _ => (by simp [execOp, go_sem, Act.eval])⟩) (fun _ => ?_)
            simp only [Act.put, List.setIfInBounds_toArray, List.set_cons_zero, List.set_cons_succ]
            refine wpAnyL_load2 (i := 1) (v := .int .i64 4) (by simp only [List.getElem?_toArray, List.getElem?_cons_zero, List.getElem?_cons_succ] <;> rfl) (by kernel_rfl) (by kernel_rfl) (by kernel_rfl) (by exact fun _ _ _ h => h) (by decide) (Waits.more (j := 8) rfl ⟨⟨8, .guard⟩, by simp, rfl, rfl⟩ (Waits.more (j := 3) rfl ⟨⟨3, .chain⟩, by simp, rfl, rfl⟩ (Waits.more (j := 2) rfl ⟨⟨2, .data⟩, by simp, rfl, rfl⟩ (Waits.one rfl ⟨⟨1, .data⟩, by simp, rfl, rfl⟩)))) (by kernel_rfl) (by kernel_rfl) (.inr ⟨BK.out, BI.out, CN.out, CV.out, C0.out, C1.out⟩) (Or.inl ⟨by rfl, fun w hw => (by obtain ⟨x0, _, _, _, _, _⟩ := hw; simp [execOp, go_sem, Act.eval, x0])⟩) (fun _ => ?_)
            simp only [Act.put, List.setIfInBounds_toArray, List.set_cons_zero, List.set_cons_succ]
            refine wpAnyL_pure (i := 2) (v := .bool true) (by simp only [List.getElem?_toArray, List.getElem?_cons_zero, List.getElem?_cons_succ] <;> rfl) (by kernel_rfl) (by kernel_rfl) (by kernel_rfl) (by exact fun _ _ _ h => h) (by decide) (.inr ⟨BK.out, BI.out, CN.out, CV.out, C0.out, C1.out⟩) (Or.inl ⟨by rfl, fun w _ => (by simp [execOp, go_sem, Act.eval])⟩) (fun _ => ?_)
            simp only [Act.put, List.setIfInBounds_toArray, List.set_cons_zero, List.set_cons_succ]
            refine wpAnyL_pure (i := 3) (v := .bool true) (by simp only [List.getElem?_toArray, List.getElem?_cons_zero, List.getElem?_cons_succ] <;> rfl) (by kernel_rfl) (by kernel_rfl) (by kernel_rfl) (by exact fun _ _ _ h => h) (by decide) (.inr ⟨BK.out, BI.out, CN.out, CV.out, C0.out, C1.out⟩) (Or.inl ⟨by rfl, fun w _ => (by simp [execOp, go_sem, Act.eval])⟩) (fun _ => ?_)
            simp only [Act.put, List.setIfInBounds_toArray, List.set_cons_zero, List.set_cons_succ]
            refine wpAnyL_pure (i := 4) (v := .pointer (some ⟨wr.heap.size, 2, none⟩)) (by simp only [List.getElem?_toArray, List.getElem?_cons_zero, List.getElem?_cons_succ] <;> rfl) (by kernel_rfl) (by kernel_rfl) (by kernel_rfl) (by exact fun _ _ _ h => h) (by decide) (.inr ⟨BK.out, BI.out, CN.out, CV.out, C0.out, C1.out⟩) (Or.inl ⟨by rfl, fun w _ => (by simp [execOp, go_sem, Act.eval])⟩) (fun _ => ?_)
            simp only [Act.put, List.setIfInBounds_toArray, List.set_cons_zero, List.set_cons_succ]
            refine wpAnyL_load2 (i := 5) (v := .slice (some ⟨b2, o2, none⟩) 2 c2) (by simp only [List.getElem?_toArray, List.getElem?_cons_zero, List.getElem?_cons_succ] <;> rfl) (by kernel_rfl) (by kernel_rfl) (by kernel_rfl) (by exact fun _ _ _ h => h) (by decide) (Waits.more (j := 8) rfl ⟨⟨8, .guard⟩, by simp, rfl, rfl⟩ (Waits.more (j := 7) rfl ⟨⟨7, .data⟩, by simp, rfl, rfl⟩ (Waits.more (j := 6) rfl ⟨⟨6, .data⟩, by simp, rfl, rfl⟩ (Waits.one rfl ⟨⟨5, .data⟩, by simp, rfl, rfl⟩)))) (by kernel_rfl) (by kernel_rfl) (.inr ⟨BK.out, BI.out, CN.out, CV.out, C0.out, C1.out⟩) (Or.inl ⟨by rfl, fun w hw => (by obtain ⟨_, x1, _, _, _, _⟩ := hw; simp [execOp, go_sem, Act.eval, x1])⟩) (fun _ => ?_)
            simp only [Act.put, List.setIfInBounds_toArray, List.set_cons_zero, List.set_cons_succ]
            refine wpAnyL_pure (i := 6) (v := .int .i64 ((2 : Nat) : Int)) (by simp only [List.getElem?_toArray, List.getElem?_cons_zero, List.getElem?_cons_succ] <;> rfl) (by kernel_rfl) (by kernel_rfl) (by kernel_rfl) (by exact fun _ _ _ h => h) (by decide) (.inr ⟨BK.out, BI.out, CN.out, CV.out, C0.out, C1.out⟩) (Or.inl ⟨by rfl, fun w _ => (by simp [go_sem, Act.eval])⟩) (fun _ => ?_)
            simp only [Act.put, List.setIfInBounds_toArray, List.set_cons_zero, List.set_cons_succ]
            refine wpAnyL_pure (i := 7) (v := .bool false) (by simp only [List.getElem?_toArray, List.getElem?_cons_zero, List.getElem?_cons_succ] <;> rfl) (by kernel_rfl) (by kernel_rfl) (by kernel_rfl) (by exact fun _ _ _ h => h) (by decide) (.inr ⟨BK.out, BI.out, CN.out, CV.out, C0.out, C1.out⟩) (Or.inl ⟨by rfl, fun w _ => (by simp [execOp, go_sem, Act.eval])⟩) (fun _ => ?_)
            simp only [Act.put, List.setIfInBounds_toArray, List.set_cons_zero, List.set_cons_succ]
            refine wpAnyL_pure (i := 8) (v := .bool false) (by simp only [List.getElem?_toArray, List.getElem?_cons_zero, List.getElem?_cons_succ] <;> rfl) (by kernel_rfl) (by kernel_rfl) (by kernel_rfl) (by exact fun _ _ _ h => h) (by decide) (.inr ⟨BK.out, BI.out, CN.out, CV.out, C0.out, C1.out⟩) (Or.inl ⟨by rfl, fun w _ => (by simp [execOp, go_sem, Act.eval])⟩) (fun _ => ?_)
            simp only [Act.put, List.setIfInBounds_toArray, List.set_cons_zero, List.set_cons_succ]
            refine wpAnyL_load2 (i := 9) (v := .agg #[.int .i64 n, .slice (some ⟨b, off, none⟩) L.length c]) (by simp only [List.getElem?_toArray, List.getElem?_cons_zero, List.getElem?_cons_succ] <;> rfl) (by kernel_rfl) (by kernel_rfl) (by kernel_rfl) (by exact fun _ _ _ h => h) (by decide) (Waits.more (j := 14) rfl ⟨⟨14, .chain⟩, by simp, rfl, rfl⟩ (Waits.one rfl ⟨⟨9, .data⟩, by simp, rfl, rfl⟩)) (by kernel_rfl) (by kernel_rfl) (.inr ⟨BK.out, BI.out, CN.out, CV.out, C0.out, C1.out⟩) (Or.inl ⟨by rfl, fun w hw => (by obtain ⟨_, _, x2, x3, _, _⟩ := hw; simp [execOp, go_sem, Act.eval, x2, x3])⟩) (fun _ => ?_)
            simp only [Act.put, List.setIfInBounds_toArray, List.set_cons_zero, List.set_cons_succ]
            refine wpAnyL_pure (i := 10) (v := .pointer (some ⟨wr.heap.size, 2, none⟩)) (by simp only [List.getElem?_toArray, List.getElem?_cons_zero, List.getElem?_cons_succ] <;> rfl) (by kernel_rfl) (by kernel_rfl) (by kernel_rfl) (by exact fun _ _ _ h => h) (by decide) (.inr ⟨BK.out, BI.out, CN.out, CV.out, C0.out, C1.out⟩) (Or.inl ⟨by rfl, fun w _ => (by simp [execOp, go_sem, Act.eval])⟩) (fun _ => ?_)
            simp only [Act.put, List.setIfInBounds_toArray, List.set_cons_zero, List.set_cons_succ]
            refine wpAnyL_load2 (i := 11) (v := .slice (some ⟨b2, o2, none⟩) 2 c2) (by simp only [List.getElem?_toArray, List.getElem?_cons_zero, List.getElem?_cons_succ] <;> rfl) (by kernel_rfl) (by kernel_rfl) (by kernel_rfl) (by exact fun _ _ _ h => h) (by decide) (Waits.more (j := 14) rfl ⟨⟨14, .chain⟩, by simp, rfl, rfl⟩ (Waits.more (j := 13) rfl ⟨⟨13, .data⟩, by simp, rfl, rfl⟩ (Waits.more (j := 12) rfl ⟨⟨12, .data⟩, by simp, rfl, rfl⟩ (Waits.one rfl ⟨⟨11, .data⟩, by simp, rfl, rfl⟩)))) (by kernel_rfl) (by kernel_rfl) (.inr ⟨BK.out, BI.out, CN.out, CV.out, C0.out, C1.out⟩) (Or.inl ⟨by rfl, fun w hw => (by obtain ⟨_, x1, _, _, _, _⟩ := hw; simp [execOp, go_sem, Act.eval, x1])⟩) (fun _ => ?_)
            simp only [Act.put, List.setIfInBounds_toArray, List.set_cons_zero, List.set_cons_succ]
            refine wpAnyL_pure (i := 12) (v := .pointer (some ⟨b2, o2, none⟩)) (by simp only [List.getElem?_toArray, List.getElem?_cons_zero, List.getElem?_cons_succ] <;> rfl) (by kernel_rfl) (by kernel_rfl) (by kernel_rfl) (by exact fun _ _ _ h => h) (by decide) (.inr ⟨BK.out, BI.out, CN.out, CV.out, C0.out, C1.out⟩) (Or.inl ⟨by rfl, fun w _ => (by simp [execOp, go_sem, Act.eval])⟩) (fun _ => ?_)
            simp only [Act.put, List.setIfInBounds_toArray, List.set_cons_zero, List.set_cons_succ]
            refine wpAnyL_load2 (i := 13) (v := .int .i64 (na : Int)) (by simp only [List.getElem?_toArray, List.getElem?_cons_zero, List.getElem?_cons_succ] <;> rfl) (by kernel_rfl) (by kernel_rfl) (by kernel_rfl) (by exact fun _ _ _ h => h) (by decide) (Waits.more (j := 14) rfl ⟨⟨14, .chain⟩, by simp, rfl, rfl⟩ (Waits.one rfl ⟨⟨13, .data⟩, by simp, rfl, rfl⟩)) (by kernel_rfl) (by kernel_rfl) (.inr ⟨BK.out, BI.out, CN.out, CV.out, C0.out, C1.out⟩) (Or.inl ⟨by rfl, fun w hw => (by obtain ⟨_, _, _, _, x4, _⟩ := hw; simp [execOp, go_sem, Act.eval, x4])⟩) (fun _ => ?_)
            simp only [Act.put, List.setIfInBounds_toArray, List.set_cons_zero, List.set_cons_succ]
            refine wpAnyL_load2 (i := 15) (v := .agg #[.int .i64 n, .slice (some ⟨b, off, none⟩) L.length c]) (by simp only [List.getElem?_toArray, List.getElem?_cons_zero, List.getElem?_cons_succ] <;> rfl) (by kernel_rfl) (by kernel_rfl) (by kernel_rfl) (by exact fun _ _ _ h => h) (by decide) (Waits.one rfl ⟨⟨15, .data⟩, by simp, rfl, rfl⟩) (by kernel_rfl) (by kernel_rfl) (.inr ⟨BK.out, BI.out, CN.out, CV.out, C0.out, C1.out⟩) (Or.inl ⟨by rfl, fun w hw => (by obtain ⟨_, _, x2, x3, _, _⟩ := hw; simp [execOp, go_sem, Act.eval, x2, x3])⟩) (fun _ => ?_)
            simp only [Act.put, List.setIfInBounds_toArray, List.set_cons_zero, List.set_cons_succ]
            refine wpAnyL_pure (i := 16) (v := .pointer (some ⟨wr.heap.size, 2, none⟩)) (by simp only [List.getElem?_toArray, List.getElem?_cons_zero, List.getElem?_cons_succ] <;> rfl) (by kernel_rfl) (by kernel_rfl) (by kernel_rfl) (by exact fun _ _ _ h => h) (by decide) (.inr ⟨BK.out, BI.out, CN.out, CV.out, C0.out, C1.out⟩) (Or.inl ⟨by rfl, fun w _ => (by simp [execOp, go_sem, Act.eval])⟩) (fun _ => ?_)
            simp only [Act.put, List.setIfInBounds_toArray, List.set_cons_zero, List.set_cons_succ]
            refine wpAnyL_load2 (i := 17) (v := .slice (some ⟨b2, o2, none⟩) 2 c2) (by simp only [List.getElem?_toArray, List.getElem?_cons_zero, List.getElem?_cons_succ] <;> rfl) (by kernel_rfl) (by kernel_rfl) (by kernel_rfl) (by exact fun _ _ _ h => h) (by decide) (Waits.more (j := 19) rfl ⟨⟨19, .data⟩, by simp, rfl, rfl⟩ (Waits.more (j := 18) rfl ⟨⟨18, .data⟩, by simp, rfl, rfl⟩ (Waits.one rfl ⟨⟨17, .data⟩, by simp, rfl, rfl⟩))) (by kernel_rfl) (by kernel_rfl) (.inr ⟨BK.out, BI.out, CN.out, CV.out, C0.out, C1.out⟩) (Or.inl ⟨by rfl, fun w hw => (by obtain ⟨_, x1, _, _, _, _⟩ := hw; simp [execOp, go_sem, Act.eval, x1])⟩) (fun _ => ?_)
            simp only [Act.put, List.setIfInBounds_toArray, List.set_cons_zero, List.set_cons_succ]
            refine wpAnyL_pure (i := 18) (v := .pointer (some ⟨b2, o2 + 1, none⟩)) (by simp only [List.getElem?_toArray, List.getElem?_cons_zero, List.getElem?_cons_succ] <;> rfl) (by kernel_rfl) (by kernel_rfl) (by kernel_rfl) (by exact fun _ _ _ h => h) (by decide) (.inr ⟨BK.out, BI.out, CN.out, CV.out, C0.out, C1.out⟩) (Or.inl ⟨by rfl, fun w _ => (by simp [execOp, go_sem, Act.eval])⟩) (fun _ => ?_)
            simp only [Act.put, List.setIfInBounds_toArray, List.set_cons_zero, List.set_cons_succ]
            refine wpAnyL_load2 (i := 19) (v := .int .i64 (nb : Int)) (by simp only [List.getElem?_toArray, List.getElem?_cons_zero, List.getElem?_cons_succ] <;> rfl) (by kernel_rfl) (by kernel_rfl) (by kernel_rfl) (by exact fun _ _ _ h => h) (by decide) (Waits.one rfl ⟨⟨19, .data⟩, by simp, rfl, rfl⟩) (by kernel_rfl) (by kernel_rfl) (.inr ⟨BK.out, BI.out, CN.out, CV.out, C0.out, C1.out⟩) (Or.inl ⟨by rfl, fun w hw => (by obtain ⟨_, _, _, _, _, x5⟩ := hw; simp [execOp, go_sem, Act.eval, x5])⟩) (fun _ => ?_)
            simp only [Act.put, List.setIfInBounds_toArray, List.set_cons_zero, List.set_cons_succ]
            refine wpAnyL_one (i := 14) (by kernel_rfl) (by simp only [List.getElem?_toArray, List.getElem?_cons_zero, List.getElem?_cons_succ] <;> rfl) (by rfl) ?_
            refine opwp_call (f := 50) (args := #[.agg #[.int .i64 n, .slice (some ⟨b, off, none⟩) L.length c], .int .i64 (na : Int)]) (w' := w5.drew) (by simp [go_sem, Act.eval]) ?_
            refine (heads_c n L _ w5.drew na HN5.out hal HLEN.out HIA.out (HLE.out na hal)).mono ?_
            rintro e w6 ⟨u1, rfl, hu1, hb6⟩
            have hcd1_0 := hid ((hb6.cell (cell_lt BK.out)).trans BK.out)
            have hcd1_1 := hid ((hb6.cell (cell_lt BI.out)).trans BI.out)
            have hcd1_2 := hid ((hb6.cell (cell_lt CN.out)).trans CN.out)
            have hcd1_3 := hid ((hb6.cell (cell_lt CV.out)).trans CV.out)
            have hcd1_4 := hid ((hb6.cell (cell_lt C0.out)).trans C0.out)
            have hcd1_5 := hid ((hb6.cell (cell_lt C1.out)).trans C1.out)
            have HN6 := hid (HN5.out.below hb6)
            refine .inl ⟨_, rfl, .inr ⟨hcd1_0.out, hcd1_1.out, hcd1_2.out, hcd1_3.out, hcd1_4.out, hcd1_5.out⟩, ?_⟩
            simp only [Act.put, List.setIfInBounds_toArray, List.set_cons_zero, List.set_cons_succ]
            refine wpAnyL_one (i := 20) (by kernel_rfl) (by simp only [List.getElem?_toArray, List.getElem?_cons_zero, List.getElem?_cons_succ] <;> rfl) (by rfl) ?_
            refine opwp_call (f := 50) (args := #[.agg #[.int .i64 n, .slice (some ⟨b, off, none⟩) L.length c], .int .i64 (nb : Int)]) (w' := w6) (by simp [go_sem, Act.eval]) ?_
            refine (heads_c n L _ w6 nb HN6.out hbl HLEN.out HIB.out (HLE.out nb hbl)).mono ?_
            rintro e w7 ⟨u2, rfl, hu2, hb7⟩
            refine .inl ⟨_, rfl, .inl (by kernel_rfl), ?_⟩
            simp only [Act.put, List.setIfInBounds_toArray, List.set_cons_zero, List.set_cons_succ]
            refine wpAnyL_one (i := 21) (by kernel_rfl) (by simp only [List.getElem?_toArray, List.getElem?_cons_zero, List.getElem?_cons_succ] <;> rfl) (by rfl) ?_
            refine opwp_call (f := 49) (args := #[u1, u2]) (w' := w7) (by simp [go_sem, Act.eval]) ?_
            refine ((show Calls _ _ _ _ (DecPost true w7) from by have h := opposite_c u1 u2 (heads L (na : Int)) (heads L (nb : Int)) w7 (hu1.below hb7) hu2 (heads_len HLE.out _) (Nat.le_trans (heads_len HLE.out _) (by omega)) (heads_range HVV.out _) (heads_range HVV.out _); rw [hop] at h; exact h)).mono ?_
            rintro e w8 ⟨rfl, hb8⟩
            refine .inl ⟨_, rfl, .inl (by kernel_rfl), ?_⟩
            simp only [Act.put, List.setIfInBounds_toArray, List.set_cons_zero, List.set_cons_succ]
            refine wpAnyL_pure (i := 22) (v := .bool false) (by simp only [List.getElem?_toArray, List.getElem?_cons_zero, List.getElem?_cons_succ] <;> rfl) (by kernel_rfl) (by kernel_rfl) (by kernel_rfl) (by exact fun _ _ _ h => h) (by decide) (.inl (by kernel_rfl)) (Or.inl ⟨by rfl, fun w _ => (by simp [execOp, go_sem, Act.eval])⟩) (fun _ => ?_)
            simp only [Act.put, List.setIfInBounds_toArray, List.set_cons_zero, List.set_cons_succ]
            refine wpAnyL_pure (i := 23) (v := .bool false) (by simp only [List.getElem?_toArray, List.getElem?_cons_zero, List.getElem?_cons_succ] <;> rfl) (by kernel_rfl) (by kernel_rfl) (by kernel_rfl) (by exact fun _ _ _ h => h) (by decide) (.inl (by kernel_rfl)) (Or.inl ⟨by rfl, fun w _ => (by simp [execOp, go_sem, Act.eval])⟩) (fun _ => ?_)
            simp only [Act.put, List.setIfInBounds_toArray, List.set_cons_zero, List.set_cons_succ]
            refine wpAnyL_pure (i := 24) (v := .bool false) (by simp only [List.getElem?_toArray, List.getElem?_cons_zero, List.getElem?_cons_succ] <;> rfl) (by kernel_rfl) (by kernel_rfl) (by kernel_rfl) (by exact fun _ _ _ h => h) (by decide) (.inl (by kernel_rfl)) (Or.inl ⟨by rfl, fun w _ => (by simp [execOp, go_sem, Act.eval])⟩) (fun _ => ?_)
            simp only [Act.put, List.setIfInBounds_toArray, List.set_cons_zero, List.set_cons_succ]
            refine wpAnyL_done (by kernel_rfl) ?_ _
            have HB8 := hid (HB4.out.drew.trans ((((hb6.trans (hb7.mono hb6.size)).trans (hb8.mono (hb6.trans (hb7.mono hb6.size)).size)).mono HB4.out.size)))
            go_wp2_with fail
            go_roundw
            case rel => exact ⟨k + 1, by omega, by go_num, HO.out, HB8.out⟩
            case measure => simp [intOf]; omega
        · have HO := hid (HNO.out (by simp only; rw [show (xi.length == 2) = false from by rw [beq_eq_false_iff_ne]; exact h2]; rfl))
          have h2b : ¬ ((xi.length : Nat) : Int) = 2 := by omega
          have HB4 := hid (HBR.out.alloc HBR.out.size (.cells #[.int .i64 4, .int .i64 xl, .slice p2 xi.length c2] 39))
          go_wp2_with fail
          generalize wr.alloc (.cells #[.int .i64 4, .int .i64 xl, .slice p2 xi.length c2] 39) = w5 at *
          refine Go.Proofs.YtpdbfbjfodckgaaDoor.wp_region_L 25 7 (fun w' => w'.cell? ⟨wr.heap.size, 0, none⟩ = some (.int .i64 4) ∧ w'.cell? ⟨wr.heap.size, 2, none⟩ = some (.slice p2 xi.length c2)) (by kernel_rfl) rfl ⟨BK.out, BI.out⟩ (fun _ => ?_)
          refine wpAnyL_pure (i := 0) (v := .pointer (some ⟨wr.heap.size, 0, none⟩)) (by simp only [List.getElem?_toArray, List.getElem?_cons_zero] <;> rfl) (by kernel_rfl) (by kernel_rfl) (by kernel_rfl) (by exact fun _ _ _ h => h) (by decide) (.inr ⟨BK.out, BI.out⟩) (Or.inl ⟨by rfl, fun w _ => (by simp [execOp, go_sem, Act.eval])⟩) (fun _ => ?_)
          simp only [Act.put, List.setIfInBounds_toArray, List.set_cons_zero, List.set_cons_succ]
          refine wpAnyL_load2 (i := 1) (v := .int .i64 4) (by simp only [List.getElem?_toArray, List.getElem?_cons_zero, List.getElem?_cons_succ] <;> rfl) (by kernel_rfl) (by kernel_rfl) (by kernel_rfl) (by exact fun _ _ _ h => h) (by decide) (Waits.more (j := 3) rfl ⟨⟨3, .guard⟩, by simp, rfl, rfl⟩ (Waits.more (j := 2) rfl ⟨⟨2, .data⟩, by simp, rfl, rfl⟩ (Waits.one rfl ⟨⟨1, .data⟩, by simp, rfl, rfl⟩))) (by kernel_rfl) (by kernel_rfl) (.inr ⟨BK.out, BI.out⟩) (Or.inl ⟨by rfl, fun w hw => (by obtain ⟨x0, _⟩ := hw; simp [execOp, go_sem, Act.eval, x0])⟩) (fun _ => ?_)
          simp only [Act.put, List.setIfInBounds_toArray, List.set_cons_zero, List.set_cons_succ]
          refine wpAnyL_pure (i := 2) (v := .bool true) (by simp only [List.getElem?_toArray, List.getElem?_cons_zero, List.getElem?_cons_succ] <;> rfl) (by kernel_rfl) (by kernel_rfl) (by kernel_rfl) (by exact fun _ _ _ h => h) (by decide) (.inr ⟨BK.out, BI.out⟩) (Or.inl ⟨by rfl, fun w _ => (by simp [execOp, go_sem, Act.eval])⟩) (fun _ => ?_)
          simp only [Act.put, List.setIfInBounds_toArray, List.set_cons_zero, List.set_cons_succ]
          refine wpAnyL_pure (i := 3) (v := .bool true) (by simp only [List.getElem?_toArray, List.getElem?_cons_zero, List.getElem?_cons_succ] <;> rfl) (by kernel_rfl) (by kernel_rfl) (by kernel_rfl) (by exact fun _ _ _ h => h) (by decide) (.inr ⟨BK.out, BI.out⟩) (Or.inl ⟨by rfl, fun w _ => (by simp [execOp, go_sem, Act.eval])⟩) (fun _ => ?_)
          simp only [Act.put, List.setIfInBounds_toArray, List.set_cons_zero, List.set_cons_succ]
          refine wpAnyL_pure (i := 4) (v := .pointer (some ⟨wr.heap.size, 2, none⟩)) (by simp only [List.getElem?_toArray, List.getElem?_cons_zero, List.getElem?_cons_succ] <;> rfl) (by kernel_rfl) (by kernel_rfl) (by kernel_rfl) (by exact fun _ _ _ h => h) (by decide) (.inr ⟨BK.out, BI.out⟩) (Or.inl ⟨by rfl, fun w _ => (by simp [execOp, go_sem, Act.eval])⟩) (fun _ => ?_)
          simp only [Act.put, List.setIfInBounds_toArray, List.set_cons_zero, List.set_cons_succ]
          refine wpAnyL_load2 (i := 5) (v := .slice p2 xi.length c2) (by simp only [List.getElem?_toArray, List.getElem?_cons_zero, List.getElem?_cons_succ] <;> rfl) (by kernel_rfl) (by kernel_rfl) (by kernel_rfl) (by exact fun _ _ _ h => h) (by decide) (Waits.more (j := 6) rfl ⟨⟨6, .data⟩, by simp, rfl, rfl⟩ (Waits.one rfl ⟨⟨5, .data⟩, by simp, rfl, rfl⟩)) (by kernel_rfl) (by kernel_rfl) (.inr ⟨BK.out, BI.out⟩) (Or.inl ⟨by rfl, fun w hw => (by obtain ⟨_, x1⟩ := hw; simp [execOp, go_sem, Act.eval, x1])⟩) (fun _ => ?_)
          simp only [Act.put, List.setIfInBounds_toArray, List.set_cons_zero, List.set_cons_succ]
          refine wpAnyL_pure (i := 6) (v := .int .i64 ((xi.length : Nat) : Int)) (by simp only [List.getElem?_toArray, List.getElem?_cons_zero, List.getElem?_cons_succ] <;> rfl) (by kernel_rfl) (by kernel_rfl) (by kernel_rfl) (by exact fun _ _ _ h => h) (by decide) (.inr ⟨BK.out, BI.out⟩) (Or.inl ⟨by rfl, fun w _ => (by simp [go_sem, Act.eval])⟩) (fun _ => ?_)
          simp only [Act.put, List.setIfInBounds_toArray, List.set_cons_zero, List.set_cons_succ]
          refine wpAnyL_one (i := 7) (by kernel_rfl) (by simp only [List.getElem?_toArray, List.getElem?_cons_zero, List.getElem?_cons_succ] <;> rfl) (by rfl) ?_
          refine opwp_value (v := .bool true) (w' := w5.drew) (by simp [execOp, go_sem, Act.eval, h2b]) ⟨.inl (by kernel_rfl), ?_⟩
          simp only [Act.put, List.setIfInBounds_toArray, List.set_cons_zero, List.set_cons_succ]
          refine wpAnyL_pure (i := 8) (v := .bool true) (by simp only [List.getElem?_toArray, List.getElem?_cons_zero, List.getElem?_cons_succ] <;> rfl) (by kernel_rfl) (by kernel_rfl) (by kernel_rfl) (by exact fun _ _ _ h => h) (by decide) (.inl (by kernel_rfl)) (Or.inl ⟨by rfl, fun w _ => (by simp [execOp, go_sem, Act.eval])⟩) (fun _ => ?_)
          simp only [Act.put, List.setIfInBounds_toArray, List.set_cons_zero, List.set_cons_succ]
          refine wpAnyL_pure (i := 9) (v := undef) (by simp only [List.getElem?_toArray, List.getElem?_cons_zero, List.getElem?_cons_succ] <;> rfl) (by kernel_rfl) (by kernel_rfl) (by kernel_rfl) (by exact fun _ _ _ h => h) (by decide) (.inl (by kernel_rfl)) (Or.inr ⟨by rfl, rfl⟩) (fun _ => ?_)
          simp only [Act.put, List.setIfInBounds_toArray, List.set_cons_zero, List.set_cons_succ]
          refine wpAnyL_pure (i := 10) (v := undef) (by simp only [List.getElem?_toArray, List.getElem?_cons_zero, List.getElem?_cons_succ] <;> rfl) (by kernel_rfl) (by kernel_rfl) (by kernel_rfl) (by exact fun _ _ _ h => h) (by decide) (.inl (by kernel_rfl)) (Or.inr ⟨by rfl, rfl⟩) (fun _ => ?_)
          simp only [Act.put, List.setIfInBounds_toArray, List.set_cons_zero, List.set_cons_succ]
          refine wpAnyL_pure (i := 11) (v := undef) (by simp only [List.getElem?_toArray, List.getElem?_cons_zero, List.getElem?_cons_succ] <;> rfl) (by kernel_rfl) (by kernel_rfl) (by kernel_rfl) (by exact fun _ _ _ h => h) (by decide) (.inl (by kernel_rfl)) (Or.inr ⟨by rfl, rfl⟩) (fun _ => ?_)
          simp only [Act.put, List.setIfInBounds_toArray, List.set_cons_zero, List.set_cons_succ]
          refine wpAnyL_pure (i := 12) (v := undef) (by simp only [List.getElem?_toArray, List.getElem?_cons_zero, List.getElem?_cons_succ] <;> rfl) (by kernel_rfl) (by kernel_rfl) (by kernel_rfl) (by exact fun _ _ _ h => h) (by decide) (.inl (by kernel_rfl)) (Or.inr ⟨by rfl, rfl⟩) (fun _ => ?_)
          simp only [Act.put, List.setIfInBounds_toArray, List.set_cons_zero, List.set_cons_succ]
          refine wpAnyL_pure (i := 13) (v := undef) (by simp only [List.getElem?_toArray, List.getElem?_cons_zero, List.getElem?_cons_succ] <;> rfl) (by kernel_rfl) (by kernel_rfl) (by kernel_rfl) (by exact fun _ _ _ h => h) (by decide) (.inl (by kernel_rfl)) (Or.inr ⟨by rfl, rfl⟩) (fun _ => ?_)
          simp only [Act.put, List.setIfInBounds_toArray, List.set_cons_zero, List.set_cons_succ]
          refine wpAnyL_pure (i := 14) (v := undef) (by simp only [List.getElem?_toArray, List.getElem?_cons_zero, List.getElem?_cons_succ] <;> rfl) (by kernel_rfl) (by kernel_rfl) (by kernel_rfl) (by exact fun _ _ _ h => h) (by decide) (.inl (by kernel_rfl)) (Or.inr ⟨by rfl, rfl⟩) (fun _ => ?_)
          simp only [Act.put, List.setIfInBounds_toArray, List.set_cons_zero, List.set_cons_succ]
          refine wpAnyL_pure (i := 15) (v := undef) (by simp only [List.getElem?_toArray, List.getElem?_cons_zero, List.getElem?_cons_succ] <;> rfl) (by kernel_rfl) (by kernel_rfl) (by kernel_rfl) (by exact fun _ _ _ h => h) (by decide) (.inl (by kernel_rfl)) (Or.inr ⟨by rfl, rfl⟩) (fun _ => ?_)
          simp only [Act.put, List.setIfInBounds_toArray, List.set_cons_zero, List.set_cons_succ]
          refine wpAnyL_pure (i := 16) (v := undef) (by simp only [List.getElem?_toArray, List.getElem?_cons_zero, List.getElem?_cons_succ] <;> rfl) (by kernel_rfl) (by kernel_rfl) (by kernel_rfl) (by exact fun _ _ _ h => h) (by decide) (.inl (by kernel_rfl)) (Or.inr ⟨by rfl, rfl⟩) (fun _ => ?_)
          simp only [Act.put, List.setIfInBounds_toArray, List.set_cons_zero, List.set_cons_succ]
          refine wpAnyL_pure (i := 17) (v := undef) (by simp only [List.getElem?_toArray, List.getElem?_cons_zero, List.getElem?_cons_succ] <;> rfl) (by kernel_rfl) (by kernel_rfl) (by kernel_rfl) (by exact fun _ _ _ h => h) (by decide) (.inl (by kernel_rfl)) (Or.inr ⟨by rfl, rfl⟩) (fun _ => ?_)
          simp only [Act.put, List.setIfInBounds_toArray, List.set_cons_zero, List.set_cons_succ]
          refine wpAnyL_pure (i := 18) (v := undef) (by simp only [List.getElem?_toArray, List.getElem?_cons_zero, List.getElem?_cons_succ] <;> rfl) (by kernel_rfl) (by kernel_rfl) (by kernel_rfl) (by exact fun _ _ _ h => h) (by decide) (.inl (by kernel_rfl)) (Or.inr ⟨by rfl, rfl⟩) (fun _ => ?_)
          simp only [Act.put, List.setIfInBounds_toArray, List.set_cons_zero, List.set_cons_succ]
          refine wpAnyL_pure (i := 19) (v := undef) (by simp only [List.getElem?_toArray, List.getElem?_cons_zero, List.getElem?_cons_succ] <;> rfl) (by kernel_rfl) (by kernel_rfl) (by kernel_rfl) (by exact fun _ _ _ h => h) (by decide) (.inl (by kernel_rfl)) (Or.inr ⟨by rfl, rfl⟩) (fun _ => ?_)
          simp only [Act.put, List.setIfInBounds_toArray, List.set_cons_zero, List.set_cons_succ]
          refine wpAnyL_pure (i := 20) (v := undef) (by simp only [List.getElem?_toArray, List.getElem?_cons_zero, List.getElem?_cons_succ] <;> rfl) (by kernel_rfl) (by kernel_rfl) (by kernel_rfl) (by exact fun _ _ _ h => h) (by decide) (.inl (by kernel_rfl)) (Or.inr ⟨by rfl, rfl⟩) (fun _ => ?_)
          simp only [Act.put, List.setIfInBounds_toArray, List.set_cons_zero, List.set_cons_succ]
          refine wpAnyL_pure (i := 21) (v := undef) (by simp only [List.getElem?_toArray, List.getElem?_cons_zero, List.getElem?_cons_succ] <;> rfl) (by kernel_rfl) (by kernel_rfl) (by kernel_rfl) (by exact fun _ _ _ h => h) (by decide) (.inl (by kernel_rfl)) (Or.inr ⟨by rfl, rfl⟩) (fun _ => ?_)
          simp only [Act.put, List.setIfInBounds_toArray, List.set_cons_zero, List.set_cons_succ]
          refine wpAnyL_pure (i := 22) (v := undef) (by simp only [List.getElem?_toArray, List.getElem?_cons_zero, List.getElem?_cons_succ] <;> rfl) (by kernel_rfl) (by kernel_rfl) (by kernel_rfl) (by exact fun _ _ _ h => h) (by decide) (.inl (by kernel_rfl)) (Or.inr ⟨by rfl, rfl⟩) (fun _ => ?_)
          simp only [Act.put, List.setIfInBounds_toArray, List.set_cons_zero, List.set_cons_succ]
          refine wpAnyL_pure (i := 23) (v := .bool true) (by simp only [List.getElem?_toArray, List.getElem?_cons_zero, List.getElem?_cons_succ] <;> rfl) (by kernel_rfl) (by kernel_rfl) (by kernel_rfl) (by exact fun _ _ _ h => h) (by decide) (.inl (by kernel_rfl)) (Or.inl ⟨by rfl, fun w _ => (by simp [execOp, go_sem, Act.eval])⟩) (fun _ => ?_)
          simp only [Act.put, List.setIfInBounds_toArray, List.set_cons_zero, List.set_cons_succ]
          refine wpAnyL_pure (i := 24) (v := .bool true) (by simp only [List.getElem?_toArray, List.getElem?_cons_zero, List.getElem?_cons_succ] <;> rfl) (by kernel_rfl) (by kernel_rfl) (by kernel_rfl) (by exact fun _ _ _ h => h) (by decide) (.inl (by kernel_rfl)) (Or.inl ⟨by rfl, fun w _ => (by simp [execOp, go_sem, Act.eval])⟩) (fun _ => ?_)
          simp only [Act.put, List.setIfInBounds_toArray, List.set_cons_zero, List.set_cons_succ]
          refine wpAnyL_done (by kernel_rfl) ?_ _
          go_wp2_with fail
          go_ret
          exact ⟨by rw [HO.out]; rfl, HB3.out.trans (HB4.out.drew.mono HB3.out.size)⟩
      · have h3b : (xk != 4) = true := by simp [h3]
        have HO := hid (HOK.out (by simp only; rw [h3b]; rfl))
        have BK : Hid ((wr.alloc (.cells #[.int .i64 xk, .int .i64 xl, .slice p2 xi.length c2] 39)).drew.cell? ⟨wr.heap.size, 0, none⟩ = some (.int .i64 xk)) := b3.cells.1
        have HB4 := hid (HBR.out.alloc HBR.out.size (.cells #[.int .i64 xk, .int .i64 xl, .slice p2 xi.length c2] 39))
        go_wp2_with fail
        generalize wr.alloc (.cells #[.int .i64 xk, .int .i64 xl, .slice p2 xi.length c2] 39) = w5 at *
        refine Go.Proofs.YtpdbfbjfodckgaaDoor.wp_region_L 25 2 (fun w' => w'.cell? ⟨wr.heap.size, 0, none⟩ = some (.int .i64 xk)) (by kernel_rfl) rfl BK.out (fun _ => ?_)
        refine wpAnyL_pure (i := 0) (v := .pointer (some ⟨wr.heap.size, 0, none⟩)) (by simp only [List.getElem?_toArray, List.getElem?_cons_zero] <;> rfl) (by kernel_rfl) (by kernel_rfl) (by kernel_rfl) (by exact fun _ _ _ h => h) (by decide) (.inr BK.out) (Or.inl ⟨by rfl, fun w _ => (by simp [execOp, go_sem, Act.eval])⟩) (fun _ => ?_)
        simp only [Act.put, List.setIfInBounds_toArray, List.set_cons_zero, List.set_cons_succ]
        refine wpAnyL_load2 (i := 1) (v := .int .i64 xk) (by simp only [List.getElem?_toArray, List.getElem?_cons_zero, List.getElem?_cons_succ] <;> rfl) (by kernel_rfl) (by kernel_rfl) (by kernel_rfl) (by exact fun _ _ _ h => h) (by decide) (Waits.one rfl ⟨⟨1, .data⟩, by simp, rfl, rfl⟩) (by kernel_rfl) (by kernel_rfl) (.inr BK.out) (Or.inl ⟨by rfl, fun w hw => (by have x0 := hw; simp [execOp, go_sem, Act.eval, x0])⟩) (fun _ => ?_)
        simp only [Act.put, List.setIfInBounds_toArray, List.set_cons_zero, List.set_cons_succ]
        refine wpAnyL_one (i := 2) (by kernel_rfl) (by simp only [List.getElem?_toArray, List.getElem?_cons_zero, List.getElem?_cons_succ] <;> rfl) (by rfl) ?_
        refine opwp_value (v := .bool false) (w' := w5.drew) (by simp [execOp, go_sem, Act.eval, h3]) ⟨.inl (by kernel_rfl), ?_⟩
        simp only [Act.put, List.setIfInBounds_toArray, List.set_cons_zero, List.set_cons_succ]
        refine wpAnyL_pure (i := 3) (v := .bool false) (by simp only [List.getElem?_toArray, List.getElem?_cons_zero, List.getElem?_cons_succ] <;> rfl) (by kernel_rfl) (by kernel_rfl) (by kernel_rfl) (by exact fun _ _ _ h => h) (by decide) (.inl (by kernel_rfl)) (Or.inl ⟨by rfl, fun w _ => (by simp [execOp, go_sem, Act.eval])⟩) (fun _ => ?_)
        simp only [Act.put, List.setIfInBounds_toArray, List.set_cons_zero, List.set_cons_succ]
        refine wpAnyL_pure (i := 4) (v := undef) (by simp only [List.getElem?_toArray, List.getElem?_cons_zero, List.getElem?_cons_succ] <;> rfl) (by kernel_rfl) (by kernel_rfl) (by kernel_rfl) (by exact fun _ _ _ h => h) (by decide) (.inl (by kernel_rfl)) (Or.inr ⟨by rfl, rfl⟩) (fun _ => ?_)
        simp only [Act.put, List.setIfInBounds_toArray, List.set_cons_zero, List.set_cons_succ]
        refine wpAnyL_pure (i := 5) (v := undef) (by simp only [List.getElem?_toArray, List.getElem?_cons_zero, List.getElem?_cons_succ] <;> rfl) (by kernel_rfl) (by kernel_rfl) (by kernel_rfl) (by exact fun _ _ _ h => h) (by decide) (.inl (by kernel_rfl)) (Or.inr ⟨by rfl, rfl⟩) (fun _ => ?_)
        simp only [Act.put, List.setIfInBounds_toArray, List.set_cons_zero, List.set_cons_succ]
        refine wpAnyL_pure (i := 6) (v := undef) (by simp only [List.getElem?_toArray, List.getElem?_cons_zero, List.getElem?_cons_succ] <;> rfl) (by kernel_rfl) (by kernel_rfl) (by kernel_rfl) (by exact fun _ _ _ h => h) (by decide) (.inl (by kernel_rfl)) (Or.inr ⟨by rfl, rfl⟩) (fun _ => ?_)
        simp only [Act.put, List.setIfInBounds_toArray, List.set_cons_zero, List.set_cons_succ]
        refine wpAnyL_pure (i := 7) (v := undef) (by simp only [List.getElem?_toArray, List.getElem?_cons_zero, List.getElem?_cons_succ] <;> rfl) (by kernel_rfl) (by kernel_rfl) (by kernel_rfl) (by exact fun _ _ _ h => h) (by decide) (.inl (by kernel_rfl)) (Or.inr ⟨by rfl, rfl⟩) (fun _ => ?_)
        simp only [Act.put, List.setIfInBounds_toArray, List.set_cons_zero, List.set_cons_succ]
        refine wpAnyL_pure (i := 8) (v := undef) (by simp only [List.getElem?_toArray, List.getElem?_cons_zero, List.getElem?_cons_succ] <;> rfl) (by kernel_rfl) (by kernel_rfl) (by kernel_rfl) (by exact fun _ _ _ h => h) (by decide) (.inl (by kernel_rfl)) (Or.inr ⟨by rfl, rfl⟩) (fun _ => ?_)
        simp only [Act.put, List.setIfInBounds_toArray, List.set_cons_zero, List.set_cons_succ]
        refine wpAnyL_pure (i := 9) (v := undef) (by simp only [List.getElem?_toArray, List.getElem?_cons_zero, List.getElem?_cons_succ] <;> rfl) (by kernel_rfl) (by kernel_rfl) (by kernel_rfl) (by exact fun _ _ _ h => h) (by decide) (.inl (by kernel_rfl)) (Or.inr ⟨by rfl, rfl⟩) (fun _ => ?_)
        simp only [Act.put, List.setIfInBounds_toArray, List.set_cons_zero, List.set_cons_succ]
        refine wpAnyL_pure (i := 10) (v := undef) (by simp only [List.getElem?_toArray, List.getElem?_cons_zero, List.getElem?_cons_succ] <;> rfl) (by kernel_rfl) (by kernel_rfl) (by kernel_rfl) (by exact fun _ _ _ h => h) (by decide) (.inl (by kernel_rfl)) (Or.inr ⟨by rfl, rfl⟩) (fun _ => ?_)
        simp only [Act.put, List.setIfInBounds_toArray, List.set_cons_zero, List.set_cons_succ]
        refine wpAnyL_pure (i := 11) (v := undef) (by simp only [List.getElem?_toArray, List.getElem?_cons_zero, List.getElem?_cons_succ] <;> rfl) (by kernel_rfl) (by kernel_rfl) (by kernel_rfl) (by exact fun _ _ _ h => h) (by decide) (.inl (by kernel_rfl)) (Or.inr ⟨by rfl, rfl⟩) (fun _ => ?_)
        simp only [Act.put, List.setIfInBounds_toArray, List.set_cons_zero, List.set_cons_succ]
        refine wpAnyL_pure (i := 12) (v := undef) (by simp only [List.getElem?_toArray, List.getElem?_cons_zero, List.getElem?_cons_succ] <;> rfl) (by kernel_rfl) (by kernel_rfl) (by kernel_rfl) (by exact fun _ _ _ h => h) (by decide) (.inl (by kernel_rfl)) (Or.inr ⟨by rfl, rfl⟩) (fun _ => ?_)
        simp only [Act.put, List.setIfInBounds_toArray, List.set_cons_zero, List.set_cons_succ]
        refine wpAnyL_pure (i := 13) (v := undef) (by simp only [List.getElem?_toArray, List.getElem?_cons_zero, List.getElem?_cons_succ] <;> rfl) (by kernel_rfl) (by kernel_rfl) (by kernel_rfl) (by exact fun _ _ _ h => h) (by decide) (.inl (by kernel_rfl)) (Or.inr ⟨by rfl, rfl⟩) (fun _ => ?_)
        simp only [Act.put, List.setIfInBounds_toArray, List.set_cons_zero, List.set_cons_succ]
        refine wpAnyL_pure (i := 14) (v := undef) (by simp only [List.getElem?_toArray, List.getElem?_cons_zero, List.getElem?_cons_succ] <;> rfl) (by kernel_rfl) (by kernel_rfl) (by kernel_rfl) (by exact fun _ _ _ h => h) (by decide) (.inl (by kernel_rfl)) (Or.inr ⟨by rfl, rfl⟩) (fun _ => ?_)
        simp only [Act.put, List.setIfInBounds_toArray, List.set_cons_zero, List.set_cons_succ]
        refine wpAnyL_pure (i := 15) (v := undef) (by simp only [List.getElem?_toArray, List.getElem?_cons_zero, List.getElem?_cons_succ] <;> rfl) (by kernel_rfl) (by kernel_rfl) (by kernel_rfl) (by exact fun _ _ _ h => h) (by decide) (.inl (by kernel_rfl)) (Or.inr ⟨by rfl, rfl⟩) (fun _ => ?_)
        simp only [Act.put, List.setIfInBounds_toArray, List.set_cons_zero, List.set_cons_succ]
        refine wpAnyL_pure (i := 16) (v := undef) (by simp only [List.getElem?_toArray, List.getElem?_cons_zero, List.getElem?_cons_succ] <;> rfl) (by kernel_rfl) (by kernel_rfl) (by kernel_rfl) (by exact fun _ _ _ h => h) (by decide) (.inl (by kernel_rfl)) (Or.inr ⟨by rfl, rfl⟩) (fun _ => ?_)
        simp only [Act.put, List.setIfInBounds_toArray, List.set_cons_zero, List.set_cons_succ]
        refine wpAnyL_pure (i := 17) (v := undef) (by simp only [List.getElem?_toArray, List.getElem?_cons_zero, List.getElem?_cons_succ] <;> rfl) (by kernel_rfl) (by kernel_rfl) (by kernel_rfl) (by exact fun _ _ _ h => h) (by decide) (.inl (by kernel_rfl)) (Or.inr ⟨by rfl, rfl⟩) (fun _ => ?_)
        simp only [Act.put, List.setIfInBounds_toArray, List.set_cons_zero, List.set_cons_succ]
        refine wpAnyL_pure (i := 18) (v := undef) (by simp only [List.getElem?_toArray, List.getElem?_cons_zero, List.getElem?_cons_succ] <;> rfl) (by kernel_rfl) (by kernel_rfl) (by kernel_rfl) (by exact fun _ _ _ h => h) (by decide) (.inl (by kernel_rfl)) (Or.inr ⟨by rfl, rfl⟩) (fun _ => ?_)
        simp only [Act.put, List.setIfInBounds_toArray, List.set_cons_zero, List.set_cons_succ]
        refine wpAnyL_pure (i := 19) (v := undef) (by simp only [List.getElem?_toArray, List.getElem?_cons_zero, List.getElem?_cons_succ] <;> rfl) (by kernel_rfl) (by kernel_rfl) (by kernel_rfl) (by exact fun _ _ _ h => h) (by decide) (.inl (by kernel_rfl)) (Or.inr ⟨by rfl, rfl⟩) (fun _ => ?_)
        simp only [Act.put, List.setIfInBounds_toArray, List.set_cons_zero, List.set_cons_succ]
        refine wpAnyL_pure (i := 20) (v := undef) (by simp only [List.getElem?_toArray, List.getElem?_cons_zero, List.getElem?_cons_succ] <;> rfl) (by kernel_rfl) (by kernel_rfl) (by kernel_rfl) (by exact fun _ _ _ h => h) (by decide) (.inl (by kernel_rfl)) (Or.inr ⟨by rfl, rfl⟩) (fun _ => ?_)
        simp only [Act.put, List.setIfInBounds_toArray, List.set_cons_zero, List.set_cons_succ]
        refine wpAnyL_pure (i := 21) (v := undef) (by simp only [List.getElem?_toArray, List.getElem?_cons_zero, List.getElem?_cons_succ] <;> rfl) (by kernel_rfl) (by kernel_rfl) (by kernel_rfl) (by exact fun _ _ _ h => h) (by decide) (.inl (by kernel_rfl)) (Or.inr ⟨by rfl, rfl⟩) (fun _ => ?_)
        simp only [Act.put, List.setIfInBounds_toArray, List.set_cons_zero, List.set_cons_succ]
        refine wpAnyL_pure (i := 22) (v := undef) (by simp only [List.getElem?_toArray, List.getElem?_cons_zero, List.getElem?_cons_succ] <;> rfl) (by kernel_rfl) (by kernel_rfl) (by kernel_rfl) (by exact fun _ _ _ h => h) (by decide) (.inl (by kernel_rfl)) (Or.inr ⟨by rfl, rfl⟩) (fun _ => ?_)
        simp only [Act.put, List.setIfInBounds_toArray, List.set_cons_zero, List.set_cons_succ]
        refine wpAnyL_pure (i := 23) (v := undef) (by simp only [List.getElem?_toArray, List.getElem?_cons_zero, List.getElem?_cons_succ] <;> rfl) (by kernel_rfl) (by kernel_rfl) (by kernel_rfl) (by exact fun _ _ _ h => h) (by decide) (.inl (by kernel_rfl)) (Or.inr ⟨by rfl, rfl⟩) (fun _ => ?_)
        simp only [Act.put, List.setIfInBounds_toArray, List.set_cons_zero, List.set_cons_succ]
        refine wpAnyL_pure (i := 24) (v := .bool false) (by simp only [List.getElem?_toArray, List.getElem?_cons_zero, List.getElem?_cons_succ] <;> rfl) (by kernel_rfl) (by kernel_rfl) (by kernel_rfl) (by exact fun _ _ _ h => h) (by decide) (.inl (by kernel_rfl)) (Or.inl ⟨by rfl, fun w _ => (by simp [execOp, go_sem, Act.eval])⟩) (fun _ => ?_)
        simp only [Act.put, List.setIfInBounds_toArray, List.set_cons_zero, List.set_cons_succ]
        refine wpAnyL_done (by kernel_rfl) ?_ _
        go_wp2_with fail
        go_roundw
        case rel => exact ⟨k + 1, by omega, by go_num, HO.out, HB4.out.drew⟩
        case measure => simp [intOf]; omega
    · obtain rfl : k = L.length := by omega
      have HT := hid (show decideB L = true from all_to fun k hk => hok.out k hk hk)
      have HBW := hid (HB3.out.trans (hbr.out.mono HB3.out.size))
      clear hok hbr
      go_wp2_with fail
      go_ret
      exact ⟨by rw [HT.out]; rfl, HBW.out⟩
end Go.Proofs.YtpdbfbjfodckgaaDoor
