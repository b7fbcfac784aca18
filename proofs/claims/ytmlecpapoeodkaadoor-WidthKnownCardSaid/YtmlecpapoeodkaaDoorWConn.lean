/- Walks: whether each vertex and each edge lies in a bag; whether the bags of each vertex are connected. -/
import Derived.Test.YtmlecpapoeodkaaDoorWOfW
import Derived.Test.YtmlecpapoeodkaaDoorWTree
namespace Go.Proofs.YtmlecpapoeodkaaDoor
open Go.RowKit
attribute [local go_sem ↓] run_eqlS run_neqS run_eqlS0 run_neqS0

theorem together_succ (B : List VS) (k : Nat) (h : k < B.length) (v : Int) : together (B.take (k + 1)) v = if has B[k] v = true then together (B.take k) v ||| B[k] else together (B.take k) v := by
  unfold together
  rw [List.take_succ_eq_append_getElem h, List.foldl_append]; rfl
/-- What the row of unions holds in a round, behind so many of the bag's members. -/
def TogTo (L B : List VS) (k : Nat) (b : VS) (j : Nat) (T : List VS) : Prop := T.length = L.length ∧ ∀ v : Nat, v < L.length → gOf T (v : Int) = if (v : Int) ∈ (mems b).take j then together (B.take k) (v : Int) ||| b else together (B.take k) (v : Int)
theorem TogTo.step {L B : List VS} {k : Nat} {b : VS} {j : Nat} {T : List VS} (h : TogTo L B k b j T) (hj : j < (mems b).length) {u : Nat} (hu : (mems b)[j] = (u : Int)) (hul : u < L.length) : TogTo L B k b (j + 1) (T.set u (gOf T (u : Int) ||| b)) := by
  obtain ⟨h1, h2⟩ := h
  have hnd := mems_nodup b
  refine ⟨by rw [List.length_set, h1], fun v hv => ?_⟩
  rw [gOf_set T u (by omega), List.take_succ_eq_append_getElem hj, hu]
  by_cases e : (v : Int) = (u : Int)
  · rw [if_pos e, if_pos (by rw [e]; simp), e, h2 u hul, if_neg]
    intro hm
    obtain ⟨i, hi, ei⟩ := List.mem_iff_getElem.1 hm
    rw [List.length_take] at hi
    rw [List.getElem_take, ← hu] at ei
    have := hnd.idxOf_getElem i (by omega)
    have h4 := hnd.idxOf_getElem j hj
    rw [ei] at this
    omega
  · rw [if_neg e, h2 v hv]
    by_cases hm : (v : Int) ∈ (mems b).take j
    · rw [if_pos hm, if_pos (List.mem_append_left _ hm)]
    · rw [if_neg hm, if_neg (by rw [List.mem_append]; rintro (h | h); exact hm h; exact e (by simpa using h))]
theorem TogTo.next {L B : List VS} {k : Nat} (hk : k < B.length) {T : List VS} (h : TogTo L B k B[k] (mems B[k]).length T) (b : VS) : TogTo L B (k + 1) b 0 T := by
  obtain ⟨h1, h2⟩ := h
  refine ⟨h1, fun v hv => ?_⟩
  rw [h2 v hv, List.take_length, List.take_zero, if_neg (List.not_mem_nil : ¬ (v : Int) ∈ []), together_succ B k hk]
  by_cases e : has B[k] (v : Int) = true
  · rw [if_pos ((mem_mems _ _).2 e), if_pos e]
  · rw [if_neg (fun hm => e ((mem_mems _ _).1 hm)), if_neg e]
theorem TogTo.start (L B : List VS) (b : VS) : TogTo L B 0 b 0 (List.replicate L.length 0) :=
  ⟨List.length_replicate, fun v hv => by rw [gOf_nat _ v (by simpa using hv), List.getElem_replicate, List.take_zero, if_neg (List.not_mem_nil : ¬ (v : Int) ∈ [])]; rfl⟩
def covTo (L B : List VS) (k : Nat) : Prop := ∀ j : Nat, j < k → covAt L B (j : Int) = true
theorem covTo_all {L B : List VS} (h : covTo L B L.length) : covB L B = true := by
  unfold covB
  rw [List.all_eq_true]
  intro k hk
  rw [List.mem_range] at hk
  exact h k hk
theorem covB_no {L B : List VS} {k : Nat} (hk : k < L.length) (h : covAt L B (k : Int) = false) : covB L B = false := by
  cases hc : covB L B
  · rfl
  · unfold covB at hc
    rw [List.all_eq_true] at hc
    have := hc k (by rw [List.mem_range]; exact hk)
    rw [h] at this; cases this
set_option maxRecDepth 100000 in
set_option maxHeartbeats 8000000 in
theorem covered_c (v x y : Value) (L B : List VS) (w : World) (hI : SetsAt w v L) (hx : SetsAt w x B) (hT : TabAt w) (hL : L.length ≤ 129) (hB : B.length ≤ 65536) (hin : ∀ b ∈ B, ∀ u, has b u = true → u < (L.length : Int)) :
    Calls Tryd.prog 53 #[v, .agg #[x, y]] w fun e w' => e = .returned (.bool (covB L B)) ∧ Below w.heap.size w w' := by
  have HI := hid hI
  have HIN := hid hin
  obtain ⟨p, c, rfl, hdrop⟩ := id hI
  obtain ⟨p2, c2, rfl, hp2⟩ := id hx
  have HP2 := hid hp2
  clear hdrop hp2 hI hx hin
  have hB0 : Below w.heap.size w (w.alloc (.cells #[.slice p2 B.length c2, y] 25)) := (Below.refl _ w).alloc (Nat.le_refl _) _
  have b0 := Box2.new w 25 (.slice p2 B.length c2) y
  obtain ⟨c0, c1, _, _⟩ := b0.cells
  have hmk := fun w' => make_sets w' L.length (by omega) (L.length : Int) (L.length : Int) rfl rfl
  go_enter Tryd.func53, Tryd.ntmps53
  go_wp2_with fail
  have hR0 : SetRow ((w.alloc (.cells #[.slice p2 B.length c2, y] 25)).alloc (.cells (madeCells #[.int .u64 ((lw 0#128).toNat : Int), .int .u64 ((hw 0#128).toNat : Int)] (L.length * 2)) 32)) (w.heap.size + 1) (List.replicate L.length 0) := by
    have h := SetRow.made (w.alloc (.cells #[.slice p2 B.length c2, y] 25)) L.length
    rw [World.size_alloc] at h
    exact h
  have hBm : Below w.heap.size w ((w.alloc (.cells #[.slice p2 B.length c2, y] 25)).alloc (.cells (madeCells #[.int .u64 ((lw 0#128).toNat : Int), .int .u64 ((hw 0#128).toNat : Int)] (L.length * 2)) 32)) := hB0.alloc hB0.size _
  generalize (w.alloc (.cells #[.slice p2 B.length c2, y] 25)).alloc (.cells (madeCells #[.int .u64 ((lw 0#128).toNat : Int), .int .u64 ((hw 0#128).toNat : Int)] (L.length * 2)) 32) = w1 at *
  clear hmk c0 c1 b0 hB0
  obtain ⟨gT, hgT⟩ : ∃ gT, gT = w.heap.size + 1 := ⟨_, rfl⟩
  rw [← hgT] at hR0 ⊢
  have hgw : w.heap.size < gT := by omega
  clear hgT
  go_loopw [18] (fun i wr => ∃ (k : Nat) (T : List VS), k ≤ B.length ∧ i = .int .i64 k ∧ SetRow wr gT T ∧ Hid (TogTo L B k 0 0 T) ∧ Below w.heap.size w wr) (fun i _ => B.length - (intOf i).toNat)
  case atStart => exact ⟨0, _, Nat.zero_le _, rfl, hR0, TogTo.start L B 0, hBm⟩
  case round =>
    clear hR0 hBm
    obtain ⟨k, T, hk, rfl, hR, hTo, hBw⟩ := hrel
    by_cases hkl : k < B.length
    · obtain ⟨b2, o2, rfl, hm⟩ := HP2.out.resolve_left (by rintro rfl; simp at hkl)
      obtain ⟨q0, q1⟩ := (hm k hkl).below hBw
      have hlb : b2 < wr.heap.size := cell_lt q0
      have zk : (0 : Int) ≤ (k : Int) ∧ (k : Int) < (B.length : Int) := by omega
      have HNX := hid (fun T' (h : TogTo L B k B[k] (mems B[k]).length T') => h.next hkl 0)
      have hin := HIN.out _ (List.getElem_mem hkl)
      have hto0 : TogTo L B k B[k] 0 T := ⟨hTo.out.1, fun v hv => by have := hTo.out.2 v hv; rw [List.take_zero] at this ⊢; rw [if_neg (List.not_mem_nil : ¬ (v : Int) ∈ [])] at this ⊢; exact this⟩
      generalize B[k] = s at *
      have HTO0 := hid hto0
      have HINS := hid hin
      have hv1 := SetVar.new wr s 32
      have hb4 : Below wr.heap.size wr (wr.alloc (.cells #[.int .u64 ((lw s).toNat : Int), .int .u64 ((hw s).toNat : Int)] 32)) := (Below.refl _ wr).alloc (Nat.le_refl _) _
      have hR4 := hR.below hb4 hR.lt
      have hB4 := hBw.trans (hb4.mono hBw.size)
      have hgl := hR.lt
      clear hm hto0 hin hTo hR hBw hb4
      go_wp2_with fail
      obtain ⟨n0, n1, _, _⟩ := hv1.cells
      generalize wr.alloc (.cells #[.int .u64 ((lw s).toNat : Int), .int .u64 ((hw s).toNat : Int)] 32) = w4 at *
      generalize wr.heap.size = ps at *
      have HL := hid (List_c s w4 (hT.below hT.lt hB4))
      clear q0 q1 hlb
      go_wp2_with fail
      refine HL.out.mono ?_
      rintro e w5 ⟨v5, rfl, hn5, hb5⟩
      have hB5 := hB4.trans (hb5.mono hB4.size)
      have hR5 := hR4.below hb5 hR4.lt
      have SV5 := hid (hv1.below hb5 hv1.lt)
      have hgl4 := hR4.lt
      obtain ⟨pm, cm, e4, hmm⟩ := hn5.ints
      subst e4
      have hfarm : ∀ x n c', Value.slice pm (mems s).length cm = .slice (some x) n c' → x.block ≠ gT := fun x n c' e => by
        have := (World.ownsRow.lt hn5.1 x.block (by rw [e]; rfl)).1
        omega
      have HFARM := hid hfarm
      have HMM := hid hmm
      have hmlen := mems_length s
      have HB5 := hid hB5
      clear hmm hn5 hb5 n0 n1 HL hfarm hR4 hB4 hv1 hB5
      go_wp2_with fail
      go_loopw [25] (fun i wq => ∃ (j : Nat) (N : List VS), j ≤ (mems s).length ∧ i = .int .i64 j ∧ Hid (TogTo L B k s j N) ∧ SetRow wq gT N ∧ w5.grownBy wq (some gT)) (fun i _ => (mems s).length - (intOf i).toNat)
      case atStart => exact ⟨0, T, Nat.zero_le _, rfl, HTO0.out, hR5, World.grownBy.refl _ _⟩
      case round =>
        clear hR5
        obtain ⟨j, N, hj, rfl, hN, hro, hgr⟩ := hrel
        have SVq := hid (SV5.out.kept' hgr (fun e => by have h2 := Option.some.inj e; omega))
        by_cases hjl : j < (mems s).length
        · obtain ⟨bm, om, rfl, hmm⟩ := HMM.out.resolve_left (by intro e; rw [e] at hjl; simp at hjl)
          have hc := hmm j hjl
          rw [List.getElem?_eq_getElem hjl, Option.getD_some] at hc
          have hc2 := (World.cell?_of_block (w := w5) (hgr.block bm (cell_lt hc) (by simpa using HFARM.out _ _ _ rfl))).trans hc
          have hmem : has s (mems s)[j] = true := (mem_mems _ _).1 (List.getElem_mem hjl)
          have hrgm := has_range hmem
          have hul := HINS.out _ hmem
          obtain ⟨u2, hu2⟩ : ∃ u2 : Nat, (mems s)[j] = (u2 : Int) := ⟨((mems s)[j]).toNat, by omega⟩
          rw [hu2] at hc2 hrgm hul
          have hu2l : u2 < L.length := by omega
          have HNS := hid (hN.out.step hjl hu2 hu2l)
          have zj : (0 : Int) ≤ (j : Int) ∧ (j : Int) < ((mems s).length : Int) := by omega
          have zu2 : (0 : Int) ≤ (u2 : Int) ∧ (u2 : Int) < (L.length : Int) := by omega
          have hNl : N.length = L.length := hN.out.1
          obtain ⟨t, ht, r0, r1, _, _⟩ := hro.get u2 (by rw [hNl]; exact hu2l)
          rw [ht] at HNS
          have RT : Hid (wr.drew.cell? ⟨gT, u2 * 2, none⟩ = some (.int .u64 ((lw t).toNat : Int)) ∧ wr.drew.cell? ⟨gT, u2 * 2 + 1, none⟩ = some (.int .u64 ((hw t).toNat : Int))) := ⟨r0, r1⟩
          have SVd : Hid (SetVar wr.drew ps s) := SVq.out
          have HRO := hid hro
          have HGR := hid hgr
          clear hmm hc hrgm hul hu2 hmem r0 r1 ht hro hgr
          go_wp2_with fail
          refine Go.Proofs.YtmlecpapoeodkaaDoor.wp_region_L 10 7 (fun w' => (w'.cell? ⟨gT, u2 * 2, none⟩ = some (.int .u64 ((lw (t)).toNat : Int)) ∧ w'.cell? ⟨gT, u2 * 2 + 1, none⟩ = some (.int .u64 ((hw (t)).toNat : Int))) ∧ SetVar w' (ps) (s)) (by kernel_rfl) rfl ⟨RT.out, SVd.out⟩ (fun _ => ?_)
          refine wpAnyL_pure (i := 0) (v := .slice (some ⟨gT, 0, none⟩) L.length L.length) (by simp only [List.getElem?_toArray, List.getElem?_cons_zero] <;> rfl) (by kernel_rfl) (by kernel_rfl) (by kernel_rfl) (by exact fun _ _ _ h => h) (by decide) (.inr ⟨RT.out, SVd.out⟩) (Or.inl ⟨by rfl, fun w _ => (by simp [execOp, go_sem, Act.eval])⟩) (fun _ => ?_)
          simp only [Act.put, List.setIfInBounds_toArray, List.set_cons_zero, List.set_cons_succ]
          refine wpAnyL_pure (i := 1) (v := .int .i64 (u2 : Int)) (by simp only [List.getElem?_toArray, List.getElem?_cons_zero, List.getElem?_cons_succ] <;> rfl) (by kernel_rfl) (by kernel_rfl) (by kernel_rfl) (by exact fun _ _ _ h => h) (by decide) (.inr ⟨RT.out, SVd.out⟩) (Or.inl ⟨by rfl, fun w _ => (by simp [execOp, go_sem, Act.eval])⟩) (fun _ => ?_)
          simp only [Act.put, List.setIfInBounds_toArray, List.set_cons_zero, List.set_cons_succ]
          refine wpAnyL_pure (i := 2) (v := .slice (some ⟨gT, 0, none⟩) L.length L.length) (by simp only [List.getElem?_toArray, List.getElem?_cons_zero, List.getElem?_cons_succ] <;> rfl) (by kernel_rfl) (by kernel_rfl) (by kernel_rfl) (by exact fun _ _ _ h => h) (by decide) (.inr ⟨RT.out, SVd.out⟩) (Or.inl ⟨by rfl, fun w _ => (by simp [execOp, go_sem, Act.eval])⟩) (fun _ => ?_)
          simp only [Act.put, List.setIfInBounds_toArray, List.set_cons_zero, List.set_cons_succ]
          refine wpAnyL_pure (i := 3) (v := .int .i64 (u2 : Int)) (by simp only [List.getElem?_toArray, List.getElem?_cons_zero, List.getElem?_cons_succ] <;> rfl) (by kernel_rfl) (by kernel_rfl) (by kernel_rfl) (by exact fun _ _ _ h => h) (by decide) (.inr ⟨RT.out, SVd.out⟩) (Or.inl ⟨by rfl, fun w _ => (by simp [execOp, go_sem, Act.eval])⟩) (fun _ => ?_)
          simp only [Act.put, List.setIfInBounds_toArray, List.set_cons_zero, List.set_cons_succ]
          refine wpAnyL_pure (i := 4) (v := .pointer (some ⟨gT, u2 * 2, none⟩)) (by simp only [List.getElem?_toArray, List.getElem?_cons_zero, List.getElem?_cons_succ] <;> rfl) (by kernel_rfl) (by kernel_rfl) (by kernel_rfl) (by exact fun _ _ _ h => h) (by decide) (.inr ⟨RT.out, SVd.out⟩) (Or.inl ⟨by rfl, fun w _ => (by simp [execOp, go_sem, Act.eval, zu2])⟩) (fun _ => ?_)
          simp only [Act.put, List.setIfInBounds_toArray, List.set_cons_zero, List.set_cons_succ]
          refine wpAnyL_load2 (i := 5) (v := encS (t)) (by simp only [List.getElem?_toArray, List.getElem?_cons_zero, List.getElem?_cons_succ] <;> rfl) (by kernel_rfl) (by kernel_rfl) (by kernel_rfl) (by exact fun _ _ _ h => h) (by decide) (Waits.one rfl ⟨⟨5, .data⟩, by simp, rfl, rfl⟩) (by kernel_rfl) (by kernel_rfl) (.inr ⟨RT.out, SVd.out⟩) (Or.inl ⟨by rfl, fun w hw => (by obtain ⟨⟨y0, z0⟩, _⟩ := hw; simp [execOp, go_sem, Act.eval, y0, z0])⟩) (fun _ => ?_)
          simp only [Act.put, List.setIfInBounds_toArray, List.set_cons_zero, List.set_cons_succ]
          refine wpAnyL_load2 (i := 6) (v := encS s) (by simp only [List.getElem?_toArray, List.getElem?_cons_zero, List.getElem?_cons_succ] <;> rfl) (by kernel_rfl) (by kernel_rfl) (by kernel_rfl) (by exact fun _ _ _ h => h) (by decide) (Waits.one rfl ⟨⟨6, .data⟩, by simp, rfl, rfl⟩) (by kernel_rfl) (by kernel_rfl) (.inr ⟨RT.out, SVd.out⟩) (Or.inl ⟨by rfl, fun w hw => (by obtain ⟨_, x1⟩ := hw; simp [execOp, go_sem, Act.eval, x1.cells.1, x1.cells.2.1])⟩) (fun _ => ?_)
          simp only [Act.put, List.setIfInBounds_toArray, List.set_cons_zero, List.set_cons_succ]
          refine wpAnyL_one (i := 7) (by kernel_rfl) (by simp only [List.getElem?_toArray, List.getElem?_cons_zero, List.getElem?_cons_succ] <;> rfl) (by rfl) ?_
          refine opwp_call (f := 41) (args := #[encS (t), encS s]) (w' := wr.drew) (by simp [go_sem, Act.eval]) ?_
          refine (Union_c t s wr.drew).mono ?_
          rintro e w6 ⟨rfl, hb6⟩
          refine .inl ⟨_, rfl, .inl (by kernel_rfl), ?_⟩
          simp only [Act.put, List.setIfInBounds_toArray, List.set_cons_zero, List.set_cons_succ]
          refine wpAnyL_pure (i := 8) (v := .pointer (some ⟨gT, u2 * 2, none⟩)) (by simp only [List.getElem?_toArray, List.getElem?_cons_zero, List.getElem?_cons_succ] <;> rfl) (by kernel_rfl) (by kernel_rfl) (by kernel_rfl) (by exact fun _ _ _ h => h) (by decide) (.inl (by kernel_rfl)) (Or.inl ⟨by rfl, fun w _ => (by simp [execOp, go_sem, Act.eval, zu2])⟩) (fun _ => ?_)
          simp only [Act.put, List.setIfInBounds_toArray, List.set_cons_zero, List.set_cons_succ]
          have hro7 := HRO.out.same ((((Below.refl _ wr).drew.trans hb6)).block gT HRO.out.lt)
          obtain ⟨t2, ht2, y0, y1, y2, y3⟩ := hro7.get u2 (by rw [hNl]; exact hu2l)
          refine wpAnyL_one (i := 9) (by kernel_rfl) (by simp only [List.getElem?_toArray, List.getElem?_cons_zero, List.getElem?_cons_succ] <;> rfl) (by rfl) ?_
          refine opwp_skip (w' := ((w6.setCell ⟨gT, u2 * 2, none⟩ (.int .u64 ((lw (t ||| s)).toNat : Int))).setCell ⟨gT, u2 * 2 + 1, none⟩ (.int .u64 ((hw (t ||| s)).toNat : Int)))) (by simp [execOp, go_sem, Act.eval, y0, y1, y2, y3]) ⟨.inl (by kernel_rfl), ?_⟩
          simp only [Act.put]
          refine wpAnyL_done (by kernel_rfl) ?_ _
          have HR2 := hid (hro7.store u2 (by rw [hNl]; exact hu2l) (t ||| s))
          have HG2 := hid (grownBy_then (grownBy_then HGR.out (grownBy_of_below' ((Below.refl _ wr).drew.trans hb6) _)) (grownBy_set2 w6 gT (u2 * 2) (u2 * 2 + 1) (.int .u64 ((lw (t ||| s)).toNat : Int)) (.int .u64 ((hw (t ||| s)).toNat : Int))))
          clear hro7 y0 y1 y2 y3 hb6 ht2
          go_wp2_with fail
          go_roundw
          case rel => exact ⟨j + 1, _, by omega, by go_num, HNS.out, HR2.out, HG2.out⟩
          case measure => simp [intOf]; omega
        · obtain rfl : j = (mems s).length := by omega
          have HX := hid (HNX.out N hN.out)
          have HBq := hid (HB5.out.grown hgr HB5.out.size (by intro k e; cases e; omega))
          clear HNX hN
          go_wp2_with fail
          go_roundw
          case rel => exact ⟨k + 1, N, by omega, by go_num, hro, HX.out, HBq.out⟩
          case measure => simp [intOf]; omega
    · obtain rfl : k = B.length := by omega
      have HTG : Hid (T.length = L.length ∧ ∀ v : Nat, v < L.length → gOf T (v : Int) = together B (v : Int)) := ⟨hTo.out.1, fun v hv => by have := hTo.out.2 v hv; rw [List.take_zero, if_neg (List.not_mem_nil : ¬ (v : Int) ∈ []), List.take_length] at this; exact this⟩
      have HR := hid hR
      clear hTo hR
      obtain ⟨wo, hwo⟩ : ∃ wo : World, wo = wr := ⟨_, rfl⟩
      subst hwo
      go_wp2_with fail
      go_loopw [42] (fun i wr => ∃ k : Nat, k ≤ L.length ∧ i = .int .i64 k ∧ Hid (covTo L B k) ∧ Below wo.heap.size wo wr) (fun i _ => L.length - (intOf i).toNat)
      case atStart => exact ⟨0, Nat.zero_le _, rfl, fun j hj => by omega, Below.refl _ _⟩
      case round =>
        obtain ⟨k, hk, rfl, hcv, hBo⟩ := hrel
        have hBr := hBw.trans (hBo.mono hBw.size)
        by_cases hkl : k < L.length
        · obtain ⟨b1, o1, c1', e1, l1⟩ := (HI.out.below hBr).form (by omega)
          injection e1 with e1 _ e1'
          subst e1; subst e1'
          obtain ⟨s, hs, q0, q1⟩ := (HI.out.below hBr).get k hkl
          have hRr := HR.out.below hBo HR.out.lt
          obtain ⟨t, ht, r0, r1, _, _⟩ := hRr.get k (by rw [HTG.out.1]; exact hkl)
          have zk : (0 : Int) ≤ (k : Int) ∧ (k : Int) < (L.length : Int) := by omega
          have htg := HTG.out.2 k hkl
          rw [ht] at htg
          have hca : covAt L B (k : Int) = ((decide ((k : Int) ≤ 0) || has t (k : Int)) && sub s t) := by
            unfold covAt
            rw [← htg, gOf_nat L k hkl, hs]
          have HCA := hid hca
          have HST := hid (show covAt L B (k : Int) = true → covTo L B (k + 1) from fun h j hj => by
            by_cases e : j = k
            · subst e; exact h
            · exact hcv.out j (by omega))
          have HNO := hid (show covAt L B (k : Int) = false → covB L B = false from covB_no hkl)
          have hv1 := SetVar.new wr s 32
          have hb4 : Below wr.heap.size wr (wr.alloc (.cells #[.int .u64 ((lw s).toNat : Int), .int .u64 ((hw s).toNat : Int)] 32)) := (Below.refl _ wr).alloc (Nat.le_refl _) _
          have hR4 := hRr.below hb4 hRr.lt
          have hBo4 := hBo.trans (hb4.mono hBo.size)
          have HTE := hid ht
          clear hs ht htg hca hcv hRr hb4 r0 r1
          go_wp2_with fail
          have hnew := hv1.lt
          obtain ⟨n0, n1, _, _⟩ := hv1.cells
          obtain ⟨t', ht', r0, r1, _, _⟩ := hR4.get k (by rw [HTG.out.1]; exact hkl)
          have hlt := hR4.lt
          have hte : t' = t := ht'.symm.trans HTE.out
          subst hte
          generalize wr.alloc (.cells #[.int .u64 ((lw s).toNat : Int), .int .u64 ((hw s).toNat : Int)] 32) = wd at *
          generalize wr.heap.size = ps at *
          have RT : Hid (wd.drew.cell? ⟨gT, k * 2, none⟩ = some (.int .u64 ((lw t').toNat : Int)) ∧ wd.drew.cell? ⟨gT, k * 2 + 1, none⟩ = some (.int .u64 ((hw t').toNat : Int))) := ⟨r0, r1⟩
          have SVd : Hid (SetVar wd.drew ps s) := hv1
          clear n0 n1 r0 r1 q0 q1 ht' hR4
          have HH := hid (Has_c t' (k : Int) wd.drew)
          have HSB := hid (fun x => Sub_c s t' x)
          by_cases hkN : 0 < k
          · rw [decide_eq_false (by omega : ¬ (k : Int) ≤ 0), Bool.false_or] at HCA
            cases e1 : has t' (k : Int)
            · rw [e1] at HH HCA
              have HX := hid (HNO.out (by rw [HCA.out]; rfl))
              clear HST HNO HCA
              refine Go.Proofs.YtmlecpapoeodkaaDoor.wp_region_L 20 19 (fun w' => (w'.cell? ⟨gT, k * 2, none⟩ = some (.int .u64 ((lw (t')).toNat : Int)) ∧ w'.cell? ⟨gT, k * 2 + 1, none⟩ = some (.int .u64 ((hw (t')).toNat : Int))) ∧ SetVar w' (ps) (s)) (by kernel_rfl) rfl ⟨RT.out, SVd.out⟩ (fun _ => ?_)
              refine wpAnyL_pure (i := 0) (v := .int .i64 (k : Int)) (by simp only [List.getElem?_toArray, List.getElem?_cons_zero] <;> rfl) (by kernel_rfl) (by kernel_rfl) (by kernel_rfl) (by exact fun _ _ _ h => h) (by decide) (.inr ⟨RT.out, SVd.out⟩) (Or.inl ⟨by rfl, fun w _ => (by simp [execOp, go_sem, Act.eval])⟩) (fun _ => ?_)
              simp only [Act.put, List.setIfInBounds_toArray, List.set_cons_zero, List.set_cons_succ]
              refine wpAnyL_pure (i := 1) (v := .bool true) (by simp only [List.getElem?_toArray, List.getElem?_cons_zero, List.getElem?_cons_succ] <;> rfl) (by kernel_rfl) (by kernel_rfl) (by kernel_rfl) (by exact fun _ _ _ h => h) (by decide) (.inr ⟨RT.out, SVd.out⟩) (Or.inl ⟨by rfl, fun w _ => (by simp [execOp, go_sem, Act.eval, hkN])⟩) (fun _ => ?_)
              simp only [Act.put, List.setIfInBounds_toArray, List.set_cons_zero, List.set_cons_succ]
              refine wpAnyL_pure (i := 2) (v := .bool true) (by simp only [List.getElem?_toArray, List.getElem?_cons_zero, List.getElem?_cons_succ] <;> rfl) (by kernel_rfl) (by kernel_rfl) (by kernel_rfl) (by exact fun _ _ _ h => h) (by decide) (.inr ⟨RT.out, SVd.out⟩) (Or.inl ⟨by rfl, fun w _ => (by simp [execOp, go_sem, Act.eval])⟩) (fun _ => ?_)
              simp only [Act.put, List.setIfInBounds_toArray, List.set_cons_zero, List.set_cons_succ]
              refine wpAnyL_pure (i := 3) (v := .slice (some ⟨gT, 0, none⟩) L.length L.length) (by simp only [List.getElem?_toArray, List.getElem?_cons_zero, List.getElem?_cons_succ] <;> rfl) (by kernel_rfl) (by kernel_rfl) (by kernel_rfl) (by exact fun _ _ _ h => h) (by decide) (.inr ⟨RT.out, SVd.out⟩) (Or.inl ⟨by rfl, fun w _ => (by simp [execOp, go_sem, Act.eval])⟩) (fun _ => ?_)
              simp only [Act.put, List.setIfInBounds_toArray, List.set_cons_zero, List.set_cons_succ]
              refine wpAnyL_pure (i := 4) (v := .int .i64 (k : Int)) (by simp only [List.getElem?_toArray, List.getElem?_cons_zero, List.getElem?_cons_succ] <;> rfl) (by kernel_rfl) (by kernel_rfl) (by kernel_rfl) (by exact fun _ _ _ h => h) (by decide) (.inr ⟨RT.out, SVd.out⟩) (Or.inl ⟨by rfl, fun w _ => (by simp [execOp, go_sem, Act.eval])⟩) (fun _ => ?_)
              simp only [Act.put, List.setIfInBounds_toArray, List.set_cons_zero, List.set_cons_succ]
              refine wpAnyL_pure (i := 5) (v := .pointer (some ⟨gT, k * 2, none⟩)) (by simp only [List.getElem?_toArray, List.getElem?_cons_zero, List.getElem?_cons_succ] <;> rfl) (by kernel_rfl) (by kernel_rfl) (by kernel_rfl) (by exact fun _ _ _ h => h) (by decide) (.inr ⟨RT.out, SVd.out⟩) (Or.inl ⟨by rfl, fun w _ => (by simp [execOp, go_sem, Act.eval, zk])⟩) (fun _ => ?_)
              simp only [Act.put, List.setIfInBounds_toArray, List.set_cons_zero, List.set_cons_succ]
              refine wpAnyL_load2 (i := 6) (v := encS (t')) (by simp only [List.getElem?_toArray, List.getElem?_cons_zero, List.getElem?_cons_succ] <;> rfl) (by kernel_rfl) (by kernel_rfl) (by kernel_rfl) (by exact fun _ _ _ h => h) (by decide) (Waits.more (j := 11) rfl ⟨⟨11, .data⟩, by simp, rfl, rfl⟩ (Waits.more (j := 8) rfl ⟨⟨8, .chain⟩, by simp, rfl, rfl⟩ (Waits.one rfl ⟨⟨6, .data⟩, by simp, rfl, rfl⟩))) (by kernel_rfl) (by kernel_rfl) (.inr ⟨RT.out, SVd.out⟩) (Or.inl ⟨by rfl, fun w hw => (by obtain ⟨⟨y0, z0⟩, _⟩ := hw; simp [execOp, go_sem, Act.eval, y0, z0])⟩) (fun _ => ?_)
              simp only [Act.put, List.setIfInBounds_toArray, List.set_cons_zero, List.set_cons_succ]
              refine wpAnyL_pure (i := 7) (v := .int .i64 (k : Int)) (by simp only [List.getElem?_toArray, List.getElem?_cons_zero, List.getElem?_cons_succ] <;> rfl) (by kernel_rfl) (by kernel_rfl) (by kernel_rfl) (by exact fun _ _ _ h => h) (by decide) (.inr ⟨RT.out, SVd.out⟩) (Or.inl ⟨by rfl, fun w _ => (by simp [execOp, go_sem, Act.eval])⟩) (fun _ => ?_)
              simp only [Act.put, List.setIfInBounds_toArray, List.set_cons_zero, List.set_cons_succ]
              refine wpAnyL_one (i := 8) (by kernel_rfl) (by simp only [List.getElem?_toArray, List.getElem?_cons_zero, List.getElem?_cons_succ] <;> rfl) (by rfl) ?_
              refine opwp_call (f := 76) (args := #[encS (t'), .int .i64 (k : Int)]) (w' := wd.drew) (by simp [go_sem, Act.eval]) ?_
              refine (HH.out).mono ?_
              rintro e w5 ⟨rfl, hb5⟩
              have hca1_0 := hid (show (w5.cell? ⟨gT, k * 2, none⟩ = some (.int .u64 ((lw (t')).toNat : Int)) ∧ w5.cell? ⟨gT, k * 2 + 1, none⟩ = some (.int .u64 ((hw (t')).toNat : Int))) from ⟨(hb5.cell (cell_lt RT.out.1)).trans RT.out.1, (hb5.cell (cell_lt RT.out.2)).trans RT.out.2⟩)
              have hca1_1 := hid (SVd.out.below hb5 SVd.out.lt)
              refine .inl ⟨_, rfl, .inr ⟨hca1_0.out, hca1_1.out⟩, ?_⟩
              simp only [Act.put, List.setIfInBounds_toArray, List.set_cons_zero, List.set_cons_succ]
              refine wpAnyL_pure (i := 9) (v := .bool true) (by simp only [List.getElem?_toArray, List.getElem?_cons_zero, List.getElem?_cons_succ] <;> rfl) (by kernel_rfl) (by kernel_rfl) (by kernel_rfl) (by exact fun _ _ _ h => h) (by decide) (.inr ⟨hca1_0.out, hca1_1.out⟩) (Or.inl ⟨by rfl, fun w _ => (by simp [execOp, go_sem, Act.eval])⟩) (fun _ => ?_)
              simp only [Act.put, List.setIfInBounds_toArray, List.set_cons_zero, List.set_cons_succ]
              refine wpAnyL_pure (i := 10) (v := .bool true) (by simp only [List.getElem?_toArray, List.getElem?_cons_zero, List.getElem?_cons_succ] <;> rfl) (by kernel_rfl) (by kernel_rfl) (by kernel_rfl) (by exact fun _ _ _ h => h) (by decide) (.inr ⟨hca1_0.out, hca1_1.out⟩) (Or.inl ⟨by rfl, fun w _ => (by simp [execOp, go_sem, Act.eval])⟩) (fun _ => ?_)
              simp only [Act.put, List.setIfInBounds_toArray, List.set_cons_zero, List.set_cons_succ]
              refine wpAnyL_pure (i := 11) (v := .bool true) (by simp only [List.getElem?_toArray, List.getElem?_cons_zero, List.getElem?_cons_succ] <;> rfl) (by kernel_rfl) (by kernel_rfl) (by kernel_rfl) (by exact fun _ _ _ h => h) (by decide) (.inr ⟨hca1_0.out, hca1_1.out⟩) (Or.inl ⟨by rfl, fun w _ => (by simp [execOp, go_sem, Act.eval])⟩) (fun _ => ?_)
              simp only [Act.put, List.setIfInBounds_toArray, List.set_cons_zero, List.set_cons_succ]
              refine wpAnyL_pure (i := 12) (v := undef) (by simp only [List.getElem?_toArray, List.getElem?_cons_zero, List.getElem?_cons_succ] <;> rfl) (by kernel_rfl) (by kernel_rfl) (by kernel_rfl) (by exact fun _ _ _ h => h) (by decide) (.inr ⟨hca1_0.out, hca1_1.out⟩) (Or.inr ⟨by rfl, rfl⟩) (fun _ => ?_)
              simp only [Act.put, List.setIfInBounds_toArray, List.set_cons_zero, List.set_cons_succ]
              refine wpAnyL_pure (i := 13) (v := undef) (by simp only [List.getElem?_toArray, List.getElem?_cons_zero, List.getElem?_cons_succ] <;> rfl) (by kernel_rfl) (by kernel_rfl) (by kernel_rfl) (by exact fun _ _ _ h => h) (by decide) (.inr ⟨hca1_0.out, hca1_1.out⟩) (Or.inr ⟨by rfl, rfl⟩) (fun _ => ?_)
              simp only [Act.put, List.setIfInBounds_toArray, List.set_cons_zero, List.set_cons_succ]
              refine wpAnyL_pure (i := 14) (v := undef) (by simp only [List.getElem?_toArray, List.getElem?_cons_zero, List.getElem?_cons_succ] <;> rfl) (by kernel_rfl) (by kernel_rfl) (by kernel_rfl) (by exact fun _ _ _ h => h) (by decide) (.inr ⟨hca1_0.out, hca1_1.out⟩) (Or.inr ⟨by rfl, rfl⟩) (fun _ => ?_)
              simp only [Act.put, List.setIfInBounds_toArray, List.set_cons_zero, List.set_cons_succ]
              refine wpAnyL_pure (i := 15) (v := undef) (by simp only [List.getElem?_toArray, List.getElem?_cons_zero, List.getElem?_cons_succ] <;> rfl) (by kernel_rfl) (by kernel_rfl) (by kernel_rfl) (by exact fun _ _ _ h => h) (by decide) (.inr ⟨hca1_0.out, hca1_1.out⟩) (Or.inr ⟨by rfl, rfl⟩) (fun _ => ?_)
              simp only [Act.put, List.setIfInBounds_toArray, List.set_cons_zero, List.set_cons_succ]
              refine wpAnyL_pure (i := 16) (v := undef) (by simp only [List.getElem?_toArray, List.getElem?_cons_zero, List.getElem?_cons_succ] <;> rfl) (by kernel_rfl) (by kernel_rfl) (by kernel_rfl) (by exact fun _ _ _ h => h) (by decide) (.inr ⟨hca1_0.out, hca1_1.out⟩) (Or.inr ⟨by rfl, rfl⟩) (fun _ => ?_)
              simp only [Act.put, List.setIfInBounds_toArray, List.set_cons_zero, List.set_cons_succ]
              refine wpAnyL_pure (i := 17) (v := undef) (by simp only [List.getElem?_toArray, List.getElem?_cons_zero, List.getElem?_cons_succ] <;> rfl) (by kernel_rfl) (by kernel_rfl) (by kernel_rfl) (by exact fun _ _ _ h => h) (by decide) (.inr ⟨hca1_0.out, hca1_1.out⟩) (Or.inr ⟨by rfl, rfl⟩) (fun _ => ?_)
              simp only [Act.put, List.setIfInBounds_toArray, List.set_cons_zero, List.set_cons_succ]
              refine wpAnyL_pure (i := 18) (v := undef) (by simp only [List.getElem?_toArray, List.getElem?_cons_zero, List.getElem?_cons_succ] <;> rfl) (by kernel_rfl) (by kernel_rfl) (by kernel_rfl) (by exact fun _ _ _ h => h) (by decide) (.inr ⟨hca1_0.out, hca1_1.out⟩) (Or.inr ⟨by rfl, rfl⟩) (fun _ => ?_)
              simp only [Act.put, List.setIfInBounds_toArray, List.set_cons_zero, List.set_cons_succ]
              refine wpAnyL_one (i := 19) (by kernel_rfl) (by simp only [List.getElem?_toArray, List.getElem?_cons_zero, List.getElem?_cons_succ] <;> rfl) (by rfl) ?_
              refine opwp_value (v := .bool true) (w' := w5) (by simp [execOp, go_sem, Act.eval]) ⟨.inl (by kernel_rfl), ?_⟩
              simp only [Act.put, List.setIfInBounds_toArray, List.set_cons_zero, List.set_cons_succ]
              refine wpAnyL_done (by kernel_rfl) ?_ _
              have hB5 := hBo4.trans (((Below.refl _ wd).drew.trans hb5).mono hBo4.size)
              go_wp2_with fail
              go_ret
              exact ⟨by rw [HX.out]; rfl, hBw.trans (hB5.mono hBw.size)⟩
            · cases e2 : sub s t'
              · rw [e1] at HH HCA
                rw [e2] at HSB HCA
                have HX := hid (HNO.out (by rw [HCA.out]; rfl))
                clear HST HNO HCA
                refine Go.Proofs.YtmlecpapoeodkaaDoor.wp_region_L 20 19 (fun w' => (w'.cell? ⟨gT, k * 2, none⟩ = some (.int .u64 ((lw (t')).toNat : Int)) ∧ w'.cell? ⟨gT, k * 2 + 1, none⟩ = some (.int .u64 ((hw (t')).toNat : Int))) ∧ SetVar w' (ps) (s)) (by kernel_rfl) rfl ⟨RT.out, SVd.out⟩ (fun _ => ?_)
                refine wpAnyL_pure (i := 0) (v := .int .i64 (k : Int)) (by simp only [List.getElem?_toArray, List.getElem?_cons_zero] <;> rfl) (by kernel_rfl) (by kernel_rfl) (by kernel_rfl) (by exact fun _ _ _ h => h) (by decide) (.inr ⟨RT.out, SVd.out⟩) (Or.inl ⟨by rfl, fun w _ => (by simp [execOp, go_sem, Act.eval])⟩) (fun _ => ?_)
                simp only [Act.put, List.setIfInBounds_toArray, List.set_cons_zero, List.set_cons_succ]
                refine wpAnyL_pure (i := 1) (v := .bool true) (by simp only [List.getElem?_toArray, List.getElem?_cons_zero, List.getElem?_cons_succ] <;> rfl) (by kernel_rfl) (by kernel_rfl) (by kernel_rfl) (by exact fun _ _ _ h => h) (by decide) (.inr ⟨RT.out, SVd.out⟩) (Or.inl ⟨by rfl, fun w _ => (by simp [execOp, go_sem, Act.eval, hkN])⟩) (fun _ => ?_)
                simp only [Act.put, List.setIfInBounds_toArray, List.set_cons_zero, List.set_cons_succ]
                refine wpAnyL_pure (i := 2) (v := .bool true) (by simp only [List.getElem?_toArray, List.getElem?_cons_zero, List.getElem?_cons_succ] <;> rfl) (by kernel_rfl) (by kernel_rfl) (by kernel_rfl) (by exact fun _ _ _ h => h) (by decide) (.inr ⟨RT.out, SVd.out⟩) (Or.inl ⟨by rfl, fun w _ => (by simp [execOp, go_sem, Act.eval])⟩) (fun _ => ?_)
                simp only [Act.put, List.setIfInBounds_toArray, List.set_cons_zero, List.set_cons_succ]
                refine wpAnyL_pure (i := 3) (v := .slice (some ⟨gT, 0, none⟩) L.length L.length) (by simp only [List.getElem?_toArray, List.getElem?_cons_zero, List.getElem?_cons_succ] <;> rfl) (by kernel_rfl) (by kernel_rfl) (by kernel_rfl) (by exact fun _ _ _ h => h) (by decide) (.inr ⟨RT.out, SVd.out⟩) (Or.inl ⟨by rfl, fun w _ => (by simp [execOp, go_sem, Act.eval])⟩) (fun _ => ?_)
                simp only [Act.put, List.setIfInBounds_toArray, List.set_cons_zero, List.set_cons_succ]
                refine wpAnyL_pure (i := 4) (v := .int .i64 (k : Int)) (by simp only [List.getElem?_toArray, List.getElem?_cons_zero, List.getElem?_cons_succ] <;> rfl) (by kernel_rfl) (by kernel_rfl) (by kernel_rfl) (by exact fun _ _ _ h => h) (by decide) (.inr ⟨RT.out, SVd.out⟩) (Or.inl ⟨by rfl, fun w _ => (by simp [execOp, go_sem, Act.eval])⟩) (fun _ => ?_)
                simp only [Act.put, List.setIfInBounds_toArray, List.set_cons_zero, List.set_cons_succ]
                refine wpAnyL_pure (i := 5) (v := .pointer (some ⟨gT, k * 2, none⟩)) (by simp only [List.getElem?_toArray, List.getElem?_cons_zero, List.getElem?_cons_succ] <;> rfl) (by kernel_rfl) (by kernel_rfl) (by kernel_rfl) (by exact fun _ _ _ h => h) (by decide) (.inr ⟨RT.out, SVd.out⟩) (Or.inl ⟨by rfl, fun w _ => (by simp [execOp, go_sem, Act.eval, zk])⟩) (fun _ => ?_)
                simp only [Act.put, List.setIfInBounds_toArray, List.set_cons_zero, List.set_cons_succ]
                refine wpAnyL_load2 (i := 6) (v := encS (t')) (by simp only [List.getElem?_toArray, List.getElem?_cons_zero, List.getElem?_cons_succ] <;> rfl) (by kernel_rfl) (by kernel_rfl) (by kernel_rfl) (by exact fun _ _ _ h => h) (by decide) (Waits.more (j := 11) rfl ⟨⟨11, .data⟩, by simp, rfl, rfl⟩ (Waits.more (j := 8) rfl ⟨⟨8, .chain⟩, by simp, rfl, rfl⟩ (Waits.one rfl ⟨⟨6, .data⟩, by simp, rfl, rfl⟩))) (by kernel_rfl) (by kernel_rfl) (.inr ⟨RT.out, SVd.out⟩) (Or.inl ⟨by rfl, fun w hw => (by obtain ⟨⟨y0, z0⟩, _⟩ := hw; simp [execOp, go_sem, Act.eval, y0, z0])⟩) (fun _ => ?_)
                simp only [Act.put, List.setIfInBounds_toArray, List.set_cons_zero, List.set_cons_succ]
                refine wpAnyL_pure (i := 7) (v := .int .i64 (k : Int)) (by simp only [List.getElem?_toArray, List.getElem?_cons_zero, List.getElem?_cons_succ] <;> rfl) (by kernel_rfl) (by kernel_rfl) (by kernel_rfl) (by exact fun _ _ _ h => h) (by decide) (.inr ⟨RT.out, SVd.out⟩) (Or.inl ⟨by rfl, fun w _ => (by simp [execOp, go_sem, Act.eval])⟩) (fun _ => ?_)
                simp only [Act.put, List.setIfInBounds_toArray, List.set_cons_zero, List.set_cons_succ]
                refine wpAnyL_one (i := 8) (by kernel_rfl) (by simp only [List.getElem?_toArray, List.getElem?_cons_zero, List.getElem?_cons_succ] <;> rfl) (by rfl) ?_
                refine opwp_call (f := 76) (args := #[encS (t'), .int .i64 (k : Int)]) (w' := wd.drew) (by simp [go_sem, Act.eval]) ?_
                refine (HH.out).mono ?_
                rintro e w5 ⟨rfl, hb5⟩
                have hcb1_0 := hid (show (w5.cell? ⟨gT, k * 2, none⟩ = some (.int .u64 ((lw (t')).toNat : Int)) ∧ w5.cell? ⟨gT, k * 2 + 1, none⟩ = some (.int .u64 ((hw (t')).toNat : Int))) from ⟨(hb5.cell (cell_lt RT.out.1)).trans RT.out.1, (hb5.cell (cell_lt RT.out.2)).trans RT.out.2⟩)
                have hcb1_1 := hid (SVd.out.below hb5 SVd.out.lt)
                refine .inl ⟨_, rfl, .inr ⟨hcb1_0.out, hcb1_1.out⟩, ?_⟩
                simp only [Act.put, List.setIfInBounds_toArray, List.set_cons_zero, List.set_cons_succ]
                refine wpAnyL_pure (i := 9) (v := .bool false) (by simp only [List.getElem?_toArray, List.getElem?_cons_zero, List.getElem?_cons_succ] <;> rfl) (by kernel_rfl) (by kernel_rfl) (by kernel_rfl) (by exact fun _ _ _ h => h) (by decide) (.inr ⟨hcb1_0.out, hcb1_1.out⟩) (Or.inl ⟨by rfl, fun w _ => (by simp [execOp, go_sem, Act.eval])⟩) (fun _ => ?_)
                simp only [Act.put, List.setIfInBounds_toArray, List.set_cons_zero, List.set_cons_succ]
                refine wpAnyL_pure (i := 10) (v := .bool false) (by simp only [List.getElem?_toArray, List.getElem?_cons_zero, List.getElem?_cons_succ] <;> rfl) (by kernel_rfl) (by kernel_rfl) (by kernel_rfl) (by exact fun _ _ _ h => h) (by decide) (.inr ⟨hcb1_0.out, hcb1_1.out⟩) (Or.inl ⟨by rfl, fun w _ => (by simp [execOp, go_sem, Act.eval])⟩) (fun _ => ?_)
                simp only [Act.put, List.setIfInBounds_toArray, List.set_cons_zero, List.set_cons_succ]
                refine wpAnyL_pure (i := 11) (v := .bool false) (by simp only [List.getElem?_toArray, List.getElem?_cons_zero, List.getElem?_cons_succ] <;> rfl) (by kernel_rfl) (by kernel_rfl) (by kernel_rfl) (by exact fun _ _ _ h => h) (by decide) (.inr ⟨hcb1_0.out, hcb1_1.out⟩) (Or.inl ⟨by rfl, fun w _ => (by simp [execOp, go_sem, Act.eval])⟩) (fun _ => ?_)
                simp only [Act.put, List.setIfInBounds_toArray, List.set_cons_zero, List.set_cons_succ]
                refine wpAnyL_load2 (i := 12) (v := encS s) (by simp only [List.getElem?_toArray, List.getElem?_cons_zero, List.getElem?_cons_succ] <;> rfl) (by kernel_rfl) (by kernel_rfl) (by kernel_rfl) (by exact fun _ _ _ h => h) (by decide) (Waits.more (j := 18) rfl ⟨⟨18, .data⟩, by simp, rfl, rfl⟩ (Waits.more (j := 17) rfl ⟨⟨17, .data⟩, by simp, rfl, rfl⟩ (Waits.one rfl ⟨⟨12, .data⟩, by simp, rfl, rfl⟩))) (by kernel_rfl) (by kernel_rfl) (.inr ⟨hcb1_0.out, hcb1_1.out⟩) (Or.inl ⟨by rfl, fun w hw => (by obtain ⟨_, x1⟩ := hw; simp [execOp, go_sem, Act.eval, x1.cells.1, x1.cells.2.1])⟩) (fun _ => ?_)
                simp only [Act.put, List.setIfInBounds_toArray, List.set_cons_zero, List.set_cons_succ]
                refine wpAnyL_pure (i := 13) (v := .slice (some ⟨gT, 0, none⟩) L.length L.length) (by simp only [List.getElem?_toArray, List.getElem?_cons_zero, List.getElem?_cons_succ] <;> rfl) (by kernel_rfl) (by kernel_rfl) (by kernel_rfl) (by exact fun _ _ _ h => h) (by decide) (.inr ⟨hcb1_0.out, hcb1_1.out⟩) (Or.inl ⟨by rfl, fun w _ => (by simp [execOp, go_sem, Act.eval])⟩) (fun _ => ?_)
                simp only [Act.put, List.setIfInBounds_toArray, List.set_cons_zero, List.set_cons_succ]
                refine wpAnyL_pure (i := 14) (v := .int .i64 (k : Int)) (by simp only [List.getElem?_toArray, List.getElem?_cons_zero, List.getElem?_cons_succ] <;> rfl) (by kernel_rfl) (by kernel_rfl) (by kernel_rfl) (by exact fun _ _ _ h => h) (by decide) (.inr ⟨hcb1_0.out, hcb1_1.out⟩) (Or.inl ⟨by rfl, fun w _ => (by simp [execOp, go_sem, Act.eval])⟩) (fun _ => ?_)
                simp only [Act.put, List.setIfInBounds_toArray, List.set_cons_zero, List.set_cons_succ]
                refine wpAnyL_pure (i := 15) (v := .pointer (some ⟨gT, k * 2, none⟩)) (by simp only [List.getElem?_toArray, List.getElem?_cons_zero, List.getElem?_cons_succ] <;> rfl) (by kernel_rfl) (by kernel_rfl) (by kernel_rfl) (by exact fun _ _ _ h => h) (by decide) (.inr ⟨hcb1_0.out, hcb1_1.out⟩) (Or.inl ⟨by rfl, fun w _ => (by simp [execOp, go_sem, Act.eval, zk])⟩) (fun _ => ?_)
                simp only [Act.put, List.setIfInBounds_toArray, List.set_cons_zero, List.set_cons_succ]
                refine wpAnyL_load2 (i := 16) (v := encS (t')) (by simp only [List.getElem?_toArray, List.getElem?_cons_zero, List.getElem?_cons_succ] <;> rfl) (by kernel_rfl) (by kernel_rfl) (by kernel_rfl) (by exact fun _ _ _ h => h) (by decide) (Waits.more (j := 18) rfl ⟨⟨18, .data⟩, by simp, rfl, rfl⟩ (Waits.more (j := 17) rfl ⟨⟨17, .data⟩, by simp, rfl, rfl⟩ (Waits.one rfl ⟨⟨16, .data⟩, by simp, rfl, rfl⟩))) (by kernel_rfl) (by kernel_rfl) (.inr ⟨hcb1_0.out, hcb1_1.out⟩) (Or.inl ⟨by rfl, fun w hw => (by obtain ⟨⟨y0, z0⟩, _⟩ := hw; simp [execOp, go_sem, Act.eval, y0, z0])⟩) (fun _ => ?_)
                simp only [Act.put, List.setIfInBounds_toArray, List.set_cons_zero, List.set_cons_succ]
                refine wpAnyL_one (i := 17) (by kernel_rfl) (by simp only [List.getElem?_toArray, List.getElem?_cons_zero, List.getElem?_cons_succ] <;> rfl) (by rfl) ?_
                refine opwp_call (f := 31) (args := #[encS s, encS (t')]) (w' := w5) (by simp [go_sem, Act.eval]) ?_
                refine (HSB.out w5).mono ?_
                rintro e w6 ⟨rfl, hb6⟩
                have hcb2_0 := hid (show (w6.cell? ⟨gT, k * 2, none⟩ = some (.int .u64 ((lw (t')).toNat : Int)) ∧ w6.cell? ⟨gT, k * 2 + 1, none⟩ = some (.int .u64 ((hw (t')).toNat : Int))) from ⟨(hb6.cell (cell_lt hcb1_0.out.1)).trans hcb1_0.out.1, (hb6.cell (cell_lt hcb1_0.out.2)).trans hcb1_0.out.2⟩)
                have hcb2_1 := hid (hcb1_1.out.below hb6 hcb1_1.out.lt)
                refine .inl ⟨_, rfl, .inr ⟨hcb2_0.out, hcb2_1.out⟩, ?_⟩
                simp only [Act.put, List.setIfInBounds_toArray, List.set_cons_zero, List.set_cons_succ]
                refine wpAnyL_pure (i := 18) (v := .bool true) (by simp only [List.getElem?_toArray, List.getElem?_cons_zero, List.getElem?_cons_succ] <;> rfl) (by kernel_rfl) (by kernel_rfl) (by kernel_rfl) (by exact fun _ _ _ h => h) (by decide) (.inr ⟨hcb2_0.out, hcb2_1.out⟩) (Or.inl ⟨by rfl, fun w _ => (by simp [execOp, go_sem, Act.eval])⟩) (fun _ => ?_)
                simp only [Act.put, List.setIfInBounds_toArray, List.set_cons_zero, List.set_cons_succ]
                refine wpAnyL_one (i := 19) (by kernel_rfl) (by simp only [List.getElem?_toArray, List.getElem?_cons_zero, List.getElem?_cons_succ] <;> rfl) (by rfl) ?_
                refine opwp_value (v := .bool true) (w' := w6) (by simp [execOp, go_sem, Act.eval]) ⟨.inl (by kernel_rfl), ?_⟩
                simp only [Act.put, List.setIfInBounds_toArray, List.set_cons_zero, List.set_cons_succ]
                refine wpAnyL_done (by kernel_rfl) ?_ _
                have hB5 := hBo4.trans ((((Below.refl _ wd).drew.trans hb5).trans (hb6.mono hb5.size)).mono hBo4.size)
                go_wp2_with fail
                go_ret
                exact ⟨by rw [HX.out]; rfl, hBw.trans (hB5.mono hBw.size)⟩
              · rw [e1] at HH HCA
                rw [e2] at HSB HCA
                have HX := hid (HST.out (by rw [HCA.out]; rfl))
                clear HST HNO HCA
                refine Go.Proofs.YtmlecpapoeodkaaDoor.wp_region_L 20 19 (fun w' => (w'.cell? ⟨gT, k * 2, none⟩ = some (.int .u64 ((lw (t')).toNat : Int)) ∧ w'.cell? ⟨gT, k * 2 + 1, none⟩ = some (.int .u64 ((hw (t')).toNat : Int))) ∧ SetVar w' (ps) (s)) (by kernel_rfl) rfl ⟨RT.out, SVd.out⟩ (fun _ => ?_)
                refine wpAnyL_pure (i := 0) (v := .int .i64 (k : Int)) (by simp only [List.getElem?_toArray, List.getElem?_cons_zero] <;> rfl) (by kernel_rfl) (by kernel_rfl) (by kernel_rfl) (by exact fun _ _ _ h => h) (by decide) (.inr ⟨RT.out, SVd.out⟩) (Or.inl ⟨by rfl, fun w _ => (by simp [execOp, go_sem, Act.eval])⟩) (fun _ => ?_)
                simp only [Act.put, List.setIfInBounds_toArray, List.set_cons_zero, List.set_cons_succ]
                refine wpAnyL_pure (i := 1) (v := .bool true) (by simp only [List.getElem?_toArray, List.getElem?_cons_zero, List.getElem?_cons_succ] <;> rfl) (by kernel_rfl) (by kernel_rfl) (by kernel_rfl) (by exact fun _ _ _ h => h) (by decide) (.inr ⟨RT.out, SVd.out⟩) (Or.inl ⟨by rfl, fun w _ => (by simp [execOp, go_sem, Act.eval, hkN])⟩) (fun _ => ?_)
                simp only [Act.put, List.setIfInBounds_toArray, List.set_cons_zero, List.set_cons_succ]
                refine wpAnyL_pure (i := 2) (v := .bool true) (by simp only [List.getElem?_toArray, List.getElem?_cons_zero, List.getElem?_cons_succ] <;> rfl) (by kernel_rfl) (by kernel_rfl) (by kernel_rfl) (by exact fun _ _ _ h => h) (by decide) (.inr ⟨RT.out, SVd.out⟩) (Or.inl ⟨by rfl, fun w _ => (by simp [execOp, go_sem, Act.eval])⟩) (fun _ => ?_)
                simp only [Act.put, List.setIfInBounds_toArray, List.set_cons_zero, List.set_cons_succ]
                refine wpAnyL_pure (i := 3) (v := .slice (some ⟨gT, 0, none⟩) L.length L.length) (by simp only [List.getElem?_toArray, List.getElem?_cons_zero, List.getElem?_cons_succ] <;> rfl) (by kernel_rfl) (by kernel_rfl) (by kernel_rfl) (by exact fun _ _ _ h => h) (by decide) (.inr ⟨RT.out, SVd.out⟩) (Or.inl ⟨by rfl, fun w _ => (by simp [execOp, go_sem, Act.eval])⟩) (fun _ => ?_)
                simp only [Act.put, List.setIfInBounds_toArray, List.set_cons_zero, List.set_cons_succ]
                refine wpAnyL_pure (i := 4) (v := .int .i64 (k : Int)) (by simp only [List.getElem?_toArray, List.getElem?_cons_zero, List.getElem?_cons_succ] <;> rfl) (by kernel_rfl) (by kernel_rfl) (by kernel_rfl) (by exact fun _ _ _ h => h) (by decide) (.inr ⟨RT.out, SVd.out⟩) (Or.inl ⟨by rfl, fun w _ => (by simp [execOp, go_sem, Act.eval])⟩) (fun _ => ?_)
                simp only [Act.put, List.setIfInBounds_toArray, List.set_cons_zero, List.set_cons_succ]
                refine wpAnyL_pure (i := 5) (v := .pointer (some ⟨gT, k * 2, none⟩)) (by simp only [List.getElem?_toArray, List.getElem?_cons_zero, List.getElem?_cons_succ] <;> rfl) (by kernel_rfl) (by kernel_rfl) (by kernel_rfl) (by exact fun _ _ _ h => h) (by decide) (.inr ⟨RT.out, SVd.out⟩) (Or.inl ⟨by rfl, fun w _ => (by simp [execOp, go_sem, Act.eval, zk])⟩) (fun _ => ?_)
                simp only [Act.put, List.setIfInBounds_toArray, List.set_cons_zero, List.set_cons_succ]
                refine wpAnyL_load2 (i := 6) (v := encS (t')) (by simp only [List.getElem?_toArray, List.getElem?_cons_zero, List.getElem?_cons_succ] <;> rfl) (by kernel_rfl) (by kernel_rfl) (by kernel_rfl) (by exact fun _ _ _ h => h) (by decide) (Waits.more (j := 11) rfl ⟨⟨11, .data⟩, by simp, rfl, rfl⟩ (Waits.more (j := 8) rfl ⟨⟨8, .chain⟩, by simp, rfl, rfl⟩ (Waits.one rfl ⟨⟨6, .data⟩, by simp, rfl, rfl⟩))) (by kernel_rfl) (by kernel_rfl) (.inr ⟨RT.out, SVd.out⟩) (Or.inl ⟨by rfl, fun w hw => (by obtain ⟨⟨y0, z0⟩, _⟩ := hw; simp [execOp, go_sem, Act.eval, y0, z0])⟩) (fun _ => ?_)
                simp only [Act.put, List.setIfInBounds_toArray, List.set_cons_zero, List.set_cons_succ]
                refine wpAnyL_pure (i := 7) (v := .int .i64 (k : Int)) (by simp only [List.getElem?_toArray, List.getElem?_cons_zero, List.getElem?_cons_succ] <;> rfl) (by kernel_rfl) (by kernel_rfl) (by kernel_rfl) (by exact fun _ _ _ h => h) (by decide) (.inr ⟨RT.out, SVd.out⟩) (Or.inl ⟨by rfl, fun w _ => (by simp [execOp, go_sem, Act.eval])⟩) (fun _ => ?_)
                simp only [Act.put, List.setIfInBounds_toArray, List.set_cons_zero, List.set_cons_succ]
                refine wpAnyL_one (i := 8) (by kernel_rfl) (by simp only [List.getElem?_toArray, List.getElem?_cons_zero, List.getElem?_cons_succ] <;> rfl) (by rfl) ?_
                refine opwp_call (f := 76) (args := #[encS (t'), .int .i64 (k : Int)]) (w' := wd.drew) (by simp [go_sem, Act.eval]) ?_
                refine (HH.out).mono ?_
                rintro e w5 ⟨rfl, hb5⟩
                have hcc1_0 := hid (show (w5.cell? ⟨gT, k * 2, none⟩ = some (.int .u64 ((lw (t')).toNat : Int)) ∧ w5.cell? ⟨gT, k * 2 + 1, none⟩ = some (.int .u64 ((hw (t')).toNat : Int))) from ⟨(hb5.cell (cell_lt RT.out.1)).trans RT.out.1, (hb5.cell (cell_lt RT.out.2)).trans RT.out.2⟩)
                have hcc1_1 := hid (SVd.out.below hb5 SVd.out.lt)
                refine .inl ⟨_, rfl, .inr ⟨hcc1_0.out, hcc1_1.out⟩, ?_⟩
                simp only [Act.put, List.setIfInBounds_toArray, List.set_cons_zero, List.set_cons_succ]
                refine wpAnyL_pure (i := 9) (v := .bool false) (by simp only [List.getElem?_toArray, List.getElem?_cons_zero, List.getElem?_cons_succ] <;> rfl) (by kernel_rfl) (by kernel_rfl) (by kernel_rfl) (by exact fun _ _ _ h => h) (by decide) (.inr ⟨hcc1_0.out, hcc1_1.out⟩) (Or.inl ⟨by rfl, fun w _ => (by simp [execOp, go_sem, Act.eval])⟩) (fun _ => ?_)
                simp only [Act.put, List.setIfInBounds_toArray, List.set_cons_zero, List.set_cons_succ]
                refine wpAnyL_pure (i := 10) (v := .bool false) (by simp only [List.getElem?_toArray, List.getElem?_cons_zero, List.getElem?_cons_succ] <;> rfl) (by kernel_rfl) (by kernel_rfl) (by kernel_rfl) (by exact fun _ _ _ h => h) (by decide) (.inr ⟨hcc1_0.out, hcc1_1.out⟩) (Or.inl ⟨by rfl, fun w _ => (by simp [execOp, go_sem, Act.eval])⟩) (fun _ => ?_)
                simp only [Act.put, List.setIfInBounds_toArray, List.set_cons_zero, List.set_cons_succ]
                refine wpAnyL_pure (i := 11) (v := .bool false) (by simp only [List.getElem?_toArray, List.getElem?_cons_zero, List.getElem?_cons_succ] <;> rfl) (by kernel_rfl) (by kernel_rfl) (by kernel_rfl) (by exact fun _ _ _ h => h) (by decide) (.inr ⟨hcc1_0.out, hcc1_1.out⟩) (Or.inl ⟨by rfl, fun w _ => (by simp [execOp, go_sem, Act.eval])⟩) (fun _ => ?_)
                simp only [Act.put, List.setIfInBounds_toArray, List.set_cons_zero, List.set_cons_succ]
                refine wpAnyL_load2 (i := 12) (v := encS s) (by simp only [List.getElem?_toArray, List.getElem?_cons_zero, List.getElem?_cons_succ] <;> rfl) (by kernel_rfl) (by kernel_rfl) (by kernel_rfl) (by exact fun _ _ _ h => h) (by decide) (Waits.more (j := 18) rfl ⟨⟨18, .data⟩, by simp, rfl, rfl⟩ (Waits.more (j := 17) rfl ⟨⟨17, .data⟩, by simp, rfl, rfl⟩ (Waits.one rfl ⟨⟨12, .data⟩, by simp, rfl, rfl⟩))) (by kernel_rfl) (by kernel_rfl) (.inr ⟨hcc1_0.out, hcc1_1.out⟩) (Or.inl ⟨by rfl, fun w hw => (by obtain ⟨_, x1⟩ := hw; simp [execOp, go_sem, Act.eval, x1.cells.1, x1.cells.2.1])⟩) (fun _ => ?_)
                simp only [Act.put, List.setIfInBounds_toArray, List.set_cons_zero, List.set_cons_succ]
                refine wpAnyL_pure (i := 13) (v := .slice (some ⟨gT, 0, none⟩) L.length L.length) (by simp only [List.getElem?_toArray, List.getElem?_cons_zero, List.getElem?_cons_succ] <;> rfl) (by kernel_rfl) (by kernel_rfl) (by kernel_rfl) (by exact fun _ _ _ h => h) (by decide) (.inr ⟨hcc1_0.out, hcc1_1.out⟩) (Or.inl ⟨by rfl, fun w _ => (by simp [execOp, go_sem, Act.eval])⟩) (fun _ => ?_)
                simp only [Act.put, List.setIfInBounds_toArray, List.set_cons_zero, List.set_cons_succ]
                refine wpAnyL_pure (i := 14) (v := .int .i64 (k : Int)) (by simp only [List.getElem?_toArray, List.getElem?_cons_zero, List.getElem?_cons_succ] <;> rfl) (by kernel_rfl) (by kernel_rfl) (by kernel_rfl) (by exact fun _ _ _ h => h) (by decide) (.inr ⟨hcc1_0.out, hcc1_1.out⟩) (Or.inl ⟨by rfl, fun w _ => (by simp [execOp, go_sem, Act.eval])⟩) (fun _ => ?_)
                simp only [Act.put, List.setIfInBounds_toArray, List.set_cons_zero, List.set_cons_succ]
                refine wpAnyL_pure (i := 15) (v := .pointer (some ⟨gT, k * 2, none⟩)) (by simp only [List.getElem?_toArray, List.getElem?_cons_zero, List.getElem?_cons_succ] <;> rfl) (by kernel_rfl) (by kernel_rfl) (by kernel_rfl) (by exact fun _ _ _ h => h) (by decide) (.inr ⟨hcc1_0.out, hcc1_1.out⟩) (Or.inl ⟨by rfl, fun w _ => (by simp [execOp, go_sem, Act.eval, zk])⟩) (fun _ => ?_)
                simp only [Act.put, List.setIfInBounds_toArray, List.set_cons_zero, List.set_cons_succ]
                refine wpAnyL_load2 (i := 16) (v := encS (t')) (by simp only [List.getElem?_toArray, List.getElem?_cons_zero, List.getElem?_cons_succ] <;> rfl) (by kernel_rfl) (by kernel_rfl) (by kernel_rfl) (by exact fun _ _ _ h => h) (by decide) (Waits.more (j := 18) rfl ⟨⟨18, .data⟩, by simp, rfl, rfl⟩ (Waits.more (j := 17) rfl ⟨⟨17, .data⟩, by simp, rfl, rfl⟩ (Waits.one rfl ⟨⟨16, .data⟩, by simp, rfl, rfl⟩))) (by kernel_rfl) (by kernel_rfl) (.inr ⟨hcc1_0.out, hcc1_1.out⟩) (Or.inl ⟨by rfl, fun w hw => (by obtain ⟨⟨y0, z0⟩, _⟩ := hw; simp [execOp, go_sem, Act.eval, y0, z0])⟩) (fun _ => ?_)
                simp only [Act.put, List.setIfInBounds_toArray, List.set_cons_zero, List.set_cons_succ]
                refine wpAnyL_one (i := 17) (by kernel_rfl) (by simp only [List.getElem?_toArray, List.getElem?_cons_zero, List.getElem?_cons_succ] <;> rfl) (by rfl) ?_
                refine opwp_call (f := 31) (args := #[encS s, encS (t')]) (w' := w5) (by simp [go_sem, Act.eval]) ?_
                refine (HSB.out w5).mono ?_
                rintro e w6 ⟨rfl, hb6⟩
                have hcc2_0 := hid (show (w6.cell? ⟨gT, k * 2, none⟩ = some (.int .u64 ((lw (t')).toNat : Int)) ∧ w6.cell? ⟨gT, k * 2 + 1, none⟩ = some (.int .u64 ((hw (t')).toNat : Int))) from ⟨(hb6.cell (cell_lt hcc1_0.out.1)).trans hcc1_0.out.1, (hb6.cell (cell_lt hcc1_0.out.2)).trans hcc1_0.out.2⟩)
                have hcc2_1 := hid (hcc1_1.out.below hb6 hcc1_1.out.lt)
                refine .inl ⟨_, rfl, .inr ⟨hcc2_0.out, hcc2_1.out⟩, ?_⟩
                simp only [Act.put, List.setIfInBounds_toArray, List.set_cons_zero, List.set_cons_succ]
                refine wpAnyL_pure (i := 18) (v := .bool false) (by simp only [List.getElem?_toArray, List.getElem?_cons_zero, List.getElem?_cons_succ] <;> rfl) (by kernel_rfl) (by kernel_rfl) (by kernel_rfl) (by exact fun _ _ _ h => h) (by decide) (.inr ⟨hcc2_0.out, hcc2_1.out⟩) (Or.inl ⟨by rfl, fun w _ => (by simp [execOp, go_sem, Act.eval])⟩) (fun _ => ?_)
                simp only [Act.put, List.setIfInBounds_toArray, List.set_cons_zero, List.set_cons_succ]
                refine wpAnyL_one (i := 19) (by kernel_rfl) (by simp only [List.getElem?_toArray, List.getElem?_cons_zero, List.getElem?_cons_succ] <;> rfl) (by rfl) ?_
                refine opwp_value (v := .bool false) (w' := w6) (by simp [execOp, go_sem, Act.eval]) ⟨.inl (by kernel_rfl), ?_⟩
                simp only [Act.put, List.setIfInBounds_toArray, List.set_cons_zero, List.set_cons_succ]
                refine wpAnyL_done (by kernel_rfl) ?_ _
                have hB5 := hBo4.trans ((((Below.refl _ wd).drew.trans hb5).trans (hb6.mono hb5.size)).mono hBo4.size)
                go_wp2_with fail
                go_roundw
                case rel => exact ⟨k + 1, by omega, by go_num, HX.out, hB5⟩
                case measure => simp [intOf]; omega
          · rw [decide_eq_true (by omega : (k : Int) ≤ 0), Bool.true_or, Bool.true_and] at HCA
            cases e2 : sub s t'
            · rw [e2] at HSB HCA
              have HX := hid (HNO.out HCA.out)
              clear HST HNO HCA
              refine Go.Proofs.YtmlecpapoeodkaaDoor.wp_region_L 20 19 (fun w' => (w'.cell? ⟨gT, k * 2, none⟩ = some (.int .u64 ((lw (t')).toNat : Int)) ∧ w'.cell? ⟨gT, k * 2 + 1, none⟩ = some (.int .u64 ((hw (t')).toNat : Int))) ∧ SetVar w' (ps) (s)) (by kernel_rfl) rfl ⟨RT.out, SVd.out⟩ (fun _ => ?_)
              refine wpAnyL_pure (i := 0) (v := .int .i64 (k : Int)) (by simp only [List.getElem?_toArray, List.getElem?_cons_zero] <;> rfl) (by kernel_rfl) (by kernel_rfl) (by kernel_rfl) (by exact fun _ _ _ h => h) (by decide) (.inr ⟨RT.out, SVd.out⟩) (Or.inl ⟨by rfl, fun w _ => (by simp [execOp, go_sem, Act.eval])⟩) (fun _ => ?_)
              simp only [Act.put, List.setIfInBounds_toArray, List.set_cons_zero, List.set_cons_succ]
              refine wpAnyL_pure (i := 1) (v := .bool false) (by simp only [List.getElem?_toArray, List.getElem?_cons_zero, List.getElem?_cons_succ] <;> rfl) (by kernel_rfl) (by kernel_rfl) (by kernel_rfl) (by exact fun _ _ _ h => h) (by decide) (.inr ⟨RT.out, SVd.out⟩) (Or.inl ⟨by rfl, fun w _ => (by simp [execOp, go_sem, Act.eval, hkN])⟩) (fun _ => ?_)
              simp only [Act.put, List.setIfInBounds_toArray, List.set_cons_zero, List.set_cons_succ]
              refine wpAnyL_pure (i := 2) (v := .bool false) (by simp only [List.getElem?_toArray, List.getElem?_cons_zero, List.getElem?_cons_succ] <;> rfl) (by kernel_rfl) (by kernel_rfl) (by kernel_rfl) (by exact fun _ _ _ h => h) (by decide) (.inr ⟨RT.out, SVd.out⟩) (Or.inl ⟨by rfl, fun w _ => (by simp [execOp, go_sem, Act.eval])⟩) (fun _ => ?_)
              simp only [Act.put, List.setIfInBounds_toArray, List.set_cons_zero, List.set_cons_succ]
              refine wpAnyL_pure (i := 3) (v := undef) (by simp only [List.getElem?_toArray, List.getElem?_cons_zero, List.getElem?_cons_succ] <;> rfl) (by kernel_rfl) (by kernel_rfl) (by kernel_rfl) (by exact fun _ _ _ h => h) (by decide) (.inr ⟨RT.out, SVd.out⟩) (Or.inr ⟨by rfl, rfl⟩) (fun _ => ?_)
              simp only [Act.put, List.setIfInBounds_toArray, List.set_cons_zero, List.set_cons_succ]
              refine wpAnyL_pure (i := 4) (v := undef) (by simp only [List.getElem?_toArray, List.getElem?_cons_zero, List.getElem?_cons_succ] <;> rfl) (by kernel_rfl) (by kernel_rfl) (by kernel_rfl) (by exact fun _ _ _ h => h) (by decide) (.inr ⟨RT.out, SVd.out⟩) (Or.inr ⟨by rfl, rfl⟩) (fun _ => ?_)
              simp only [Act.put, List.setIfInBounds_toArray, List.set_cons_zero, List.set_cons_succ]
              refine wpAnyL_pure (i := 5) (v := undef) (by simp only [List.getElem?_toArray, List.getElem?_cons_zero, List.getElem?_cons_succ] <;> rfl) (by kernel_rfl) (by kernel_rfl) (by kernel_rfl) (by exact fun _ _ _ h => h) (by decide) (.inr ⟨RT.out, SVd.out⟩) (Or.inr ⟨by rfl, rfl⟩) (fun _ => ?_)
              simp only [Act.put, List.setIfInBounds_toArray, List.set_cons_zero, List.set_cons_succ]
              refine wpAnyL_pure (i := 6) (v := undef) (by simp only [List.getElem?_toArray, List.getElem?_cons_zero, List.getElem?_cons_succ] <;> rfl) (by kernel_rfl) (by kernel_rfl) (by kernel_rfl) (by exact fun _ _ _ h => h) (by decide) (.inr ⟨RT.out, SVd.out⟩) (Or.inr ⟨by rfl, rfl⟩) (fun _ => ?_)
              simp only [Act.put, List.setIfInBounds_toArray, List.set_cons_zero, List.set_cons_succ]
              refine wpAnyL_pure (i := 7) (v := undef) (by simp only [List.getElem?_toArray, List.getElem?_cons_zero, List.getElem?_cons_succ] <;> rfl) (by kernel_rfl) (by kernel_rfl) (by kernel_rfl) (by exact fun _ _ _ h => h) (by decide) (.inr ⟨RT.out, SVd.out⟩) (Or.inr ⟨by rfl, rfl⟩) (fun _ => ?_)
              simp only [Act.put, List.setIfInBounds_toArray, List.set_cons_zero, List.set_cons_succ]
              refine wpAnyL_pure (i := 8) (v := undef) (by simp only [List.getElem?_toArray, List.getElem?_cons_zero, List.getElem?_cons_succ] <;> rfl) (by kernel_rfl) (by kernel_rfl) (by kernel_rfl) (by exact fun _ _ _ h => h) (by decide) (.inr ⟨RT.out, SVd.out⟩) (Or.inr ⟨by rfl, rfl⟩) (fun _ => ?_)
              simp only [Act.put, List.setIfInBounds_toArray, List.set_cons_zero, List.set_cons_succ]
              refine wpAnyL_pure (i := 9) (v := undef) (by simp only [List.getElem?_toArray, List.getElem?_cons_zero, List.getElem?_cons_succ] <;> rfl) (by kernel_rfl) (by kernel_rfl) (by kernel_rfl) (by exact fun _ _ _ h => h) (by decide) (.inr ⟨RT.out, SVd.out⟩) (Or.inr ⟨by rfl, rfl⟩) (fun _ => ?_)
              simp only [Act.put, List.setIfInBounds_toArray, List.set_cons_zero, List.set_cons_succ]
              refine wpAnyL_pure (i := 10) (v := .bool false) (by simp only [List.getElem?_toArray, List.getElem?_cons_zero, List.getElem?_cons_succ] <;> rfl) (by kernel_rfl) (by kernel_rfl) (by kernel_rfl) (by exact fun _ _ _ h => h) (by decide) (.inr ⟨RT.out, SVd.out⟩) (Or.inl ⟨by rfl, fun w _ => (by simp [execOp, go_sem, Act.eval])⟩) (fun _ => ?_)
              simp only [Act.put, List.setIfInBounds_toArray, List.set_cons_zero, List.set_cons_succ]
              refine wpAnyL_pure (i := 11) (v := .bool false) (by simp only [List.getElem?_toArray, List.getElem?_cons_zero, List.getElem?_cons_succ] <;> rfl) (by kernel_rfl) (by kernel_rfl) (by kernel_rfl) (by exact fun _ _ _ h => h) (by decide) (.inr ⟨RT.out, SVd.out⟩) (Or.inl ⟨by rfl, fun w _ => (by simp [execOp, go_sem, Act.eval])⟩) (fun _ => ?_)
              simp only [Act.put, List.setIfInBounds_toArray, List.set_cons_zero, List.set_cons_succ]
              refine wpAnyL_load2 (i := 12) (v := encS s) (by simp only [List.getElem?_toArray, List.getElem?_cons_zero, List.getElem?_cons_succ] <;> rfl) (by kernel_rfl) (by kernel_rfl) (by kernel_rfl) (by exact fun _ _ _ h => h) (by decide) (Waits.more (j := 18) rfl ⟨⟨18, .data⟩, by simp, rfl, rfl⟩ (Waits.more (j := 17) rfl ⟨⟨17, .data⟩, by simp, rfl, rfl⟩ (Waits.one rfl ⟨⟨12, .data⟩, by simp, rfl, rfl⟩))) (by kernel_rfl) (by kernel_rfl) (.inr ⟨RT.out, SVd.out⟩) (Or.inl ⟨by rfl, fun w hw => (by obtain ⟨_, x1⟩ := hw; simp [execOp, go_sem, Act.eval, x1.cells.1, x1.cells.2.1])⟩) (fun _ => ?_)
              simp only [Act.put, List.setIfInBounds_toArray, List.set_cons_zero, List.set_cons_succ]
              refine wpAnyL_pure (i := 13) (v := .slice (some ⟨gT, 0, none⟩) L.length L.length) (by simp only [List.getElem?_toArray, List.getElem?_cons_zero, List.getElem?_cons_succ] <;> rfl) (by kernel_rfl) (by kernel_rfl) (by kernel_rfl) (by exact fun _ _ _ h => h) (by decide) (.inr ⟨RT.out, SVd.out⟩) (Or.inl ⟨by rfl, fun w _ => (by simp [execOp, go_sem, Act.eval])⟩) (fun _ => ?_)
              simp only [Act.put, List.setIfInBounds_toArray, List.set_cons_zero, List.set_cons_succ]
              refine wpAnyL_pure (i := 14) (v := .int .i64 (k : Int)) (by simp only [List.getElem?_toArray, List.getElem?_cons_zero, List.getElem?_cons_succ] <;> rfl) (by kernel_rfl) (by kernel_rfl) (by kernel_rfl) (by exact fun _ _ _ h => h) (by decide) (.inr ⟨RT.out, SVd.out⟩) (Or.inl ⟨by rfl, fun w _ => (by simp [execOp, go_sem, Act.eval])⟩) (fun _ => ?_)
              simp only [Act.put, List.setIfInBounds_toArray, List.set_cons_zero, List.set_cons_succ]
              refine wpAnyL_pure (i := 15) (v := .pointer (some ⟨gT, k * 2, none⟩)) (by simp only [List.getElem?_toArray, List.getElem?_cons_zero, List.getElem?_cons_succ] <;> rfl) (by kernel_rfl) (by kernel_rfl) (by kernel_rfl) (by exact fun _ _ _ h => h) (by decide) (.inr ⟨RT.out, SVd.out⟩) (Or.inl ⟨by rfl, fun w _ => (by simp [execOp, go_sem, Act.eval, zk])⟩) (fun _ => ?_)
              simp only [Act.put, List.setIfInBounds_toArray, List.set_cons_zero, List.set_cons_succ]
              refine wpAnyL_load2 (i := 16) (v := encS (t')) (by simp only [List.getElem?_toArray, List.getElem?_cons_zero, List.getElem?_cons_succ] <;> rfl) (by kernel_rfl) (by kernel_rfl) (by kernel_rfl) (by exact fun _ _ _ h => h) (by decide) (Waits.more (j := 18) rfl ⟨⟨18, .data⟩, by simp, rfl, rfl⟩ (Waits.more (j := 17) rfl ⟨⟨17, .data⟩, by simp, rfl, rfl⟩ (Waits.one rfl ⟨⟨16, .data⟩, by simp, rfl, rfl⟩))) (by kernel_rfl) (by kernel_rfl) (.inr ⟨RT.out, SVd.out⟩) (Or.inl ⟨by rfl, fun w hw => (by obtain ⟨⟨y0, z0⟩, _⟩ := hw; simp [execOp, go_sem, Act.eval, y0, z0])⟩) (fun _ => ?_)
              simp only [Act.put, List.setIfInBounds_toArray, List.set_cons_zero, List.set_cons_succ]
              refine wpAnyL_one (i := 17) (by kernel_rfl) (by simp only [List.getElem?_toArray, List.getElem?_cons_zero, List.getElem?_cons_succ] <;> rfl) (by rfl) ?_
              refine opwp_call (f := 31) (args := #[encS s, encS (t')]) (w' := wd.drew) (by simp [go_sem, Act.eval]) ?_
              refine (HSB.out wd.drew).mono ?_
              rintro e w6 ⟨rfl, hb6⟩
              have hcd1_0 := hid (show (w6.cell? ⟨gT, k * 2, none⟩ = some (.int .u64 ((lw (t')).toNat : Int)) ∧ w6.cell? ⟨gT, k * 2 + 1, none⟩ = some (.int .u64 ((hw (t')).toNat : Int))) from ⟨(hb6.cell (cell_lt RT.out.1)).trans RT.out.1, (hb6.cell (cell_lt RT.out.2)).trans RT.out.2⟩)
              have hcd1_1 := hid (SVd.out.below hb6 SVd.out.lt)
              refine .inl ⟨_, rfl, .inr ⟨hcd1_0.out, hcd1_1.out⟩, ?_⟩
              simp only [Act.put, List.setIfInBounds_toArray, List.set_cons_zero, List.set_cons_succ]
              refine wpAnyL_pure (i := 18) (v := .bool true) (by simp only [List.getElem?_toArray, List.getElem?_cons_zero, List.getElem?_cons_succ] <;> rfl) (by kernel_rfl) (by kernel_rfl) (by kernel_rfl) (by exact fun _ _ _ h => h) (by decide) (.inr ⟨hcd1_0.out, hcd1_1.out⟩) (Or.inl ⟨by rfl, fun w _ => (by simp [execOp, go_sem, Act.eval])⟩) (fun _ => ?_)
              simp only [Act.put, List.setIfInBounds_toArray, List.set_cons_zero, List.set_cons_succ]
              refine wpAnyL_one (i := 19) (by kernel_rfl) (by simp only [List.getElem?_toArray, List.getElem?_cons_zero, List.getElem?_cons_succ] <;> rfl) (by rfl) ?_
              refine opwp_value (v := .bool true) (w' := w6) (by simp [execOp, go_sem, Act.eval]) ⟨.inl (by kernel_rfl), ?_⟩
              simp only [Act.put, List.setIfInBounds_toArray, List.set_cons_zero, List.set_cons_succ]
              refine wpAnyL_done (by kernel_rfl) ?_ _
              have hB5 := hBo4.trans (((Below.refl _ wd).drew.trans hb6).mono hBo4.size)
              go_wp2_with fail
              go_ret
              exact ⟨by rw [HX.out]; rfl, hBw.trans (hB5.mono hBw.size)⟩
            · rw [e2] at HSB HCA
              have HX := hid (HST.out HCA.out)
              clear HST HNO HCA
              refine Go.Proofs.YtmlecpapoeodkaaDoor.wp_region_L 20 19 (fun w' => (w'.cell? ⟨gT, k * 2, none⟩ = some (.int .u64 ((lw (t')).toNat : Int)) ∧ w'.cell? ⟨gT, k * 2 + 1, none⟩ = some (.int .u64 ((hw (t')).toNat : Int))) ∧ SetVar w' (ps) (s)) (by kernel_rfl) rfl ⟨RT.out, SVd.out⟩ (fun _ => ?_)
              refine wpAnyL_pure (i := 0) (v := .int .i64 (k : Int)) (by simp only [List.getElem?_toArray, List.getElem?_cons_zero] <;> rfl) (by kernel_rfl) (by kernel_rfl) (by kernel_rfl) (by exact fun _ _ _ h => h) (by decide) (.inr ⟨RT.out, SVd.out⟩) (Or.inl ⟨by rfl, fun w _ => (by simp [execOp, go_sem, Act.eval])⟩) (fun _ => ?_)
              simp only [Act.put, List.setIfInBounds_toArray, List.set_cons_zero, List.set_cons_succ]
              refine wpAnyL_pure (i := 1) (v := .bool false) (by simp only [List.getElem?_toArray, List.getElem?_cons_zero, List.getElem?_cons_succ] <;> rfl) (by kernel_rfl) (by kernel_rfl) (by kernel_rfl) (by exact fun _ _ _ h => h) (by decide) (.inr ⟨RT.out, SVd.out⟩) (Or.inl ⟨by rfl, fun w _ => (by simp [execOp, go_sem, Act.eval, hkN])⟩) (fun _ => ?_)
              simp only [Act.put, List.setIfInBounds_toArray, List.set_cons_zero, List.set_cons_succ]
              refine wpAnyL_pure (i := 2) (v := .bool false) (by simp only [List.getElem?_toArray, List.getElem?_cons_zero, List.getElem?_cons_succ] <;> rfl) (by kernel_rfl) (by kernel_rfl) (by kernel_rfl) (by exact fun _ _ _ h => h) (by decide) (.inr ⟨RT.out, SVd.out⟩) (Or.inl ⟨by rfl, fun w _ => (by simp [execOp, go_sem, Act.eval])⟩) (fun _ => ?_)
              simp only [Act.put, List.setIfInBounds_toArray, List.set_cons_zero, List.set_cons_succ]
              refine wpAnyL_pure (i := 3) (v := undef) (by simp only [List.getElem?_toArray, List.getElem?_cons_zero, List.getElem?_cons_succ] <;> rfl) (by kernel_rfl) (by kernel_rfl) (by kernel_rfl) (by exact fun _ _ _ h => h) (by decide) (.inr ⟨RT.out, SVd.out⟩) (Or.inr ⟨by rfl, rfl⟩) (fun _ => ?_)
              simp only [Act.put, List.setIfInBounds_toArray, List.set_cons_zero, List.set_cons_succ]
              refine wpAnyL_pure (i := 4) (v := undef) (by simp only [List.getElem?_toArray, List.getElem?_cons_zero, List.getElem?_cons_succ] <;> rfl) (by kernel_rfl) (by kernel_rfl) (by kernel_rfl) (by exact fun _ _ _ h => h) (by decide) (.inr ⟨RT.out, SVd.out⟩) (Or.inr ⟨by rfl, rfl⟩) (fun _ => ?_)
              simp only [Act.put, List.setIfInBounds_toArray, List.set_cons_zero, List.set_cons_succ]
              refine wpAnyL_pure (i := 5) (v := undef) (by simp only [List.getElem?_toArray, List.getElem?_cons_zero, List.getElem?_cons_succ] <;> rfl) (by kernel_rfl) (by kernel_rfl) (by kernel_rfl) (by exact fun _ _ _ h => h) (by decide) (.inr ⟨RT.out, SVd.out⟩) (Or.inr ⟨by rfl, rfl⟩) (fun _ => ?_)
              simp only [Act.put, List.setIfInBounds_toArray, List.set_cons_zero, List.set_cons_succ]
              refine wpAnyL_pure (i := 6) (v := undef) (by simp only [List.getElem?_toArray, List.getElem?_cons_zero, List.getElem?_cons_succ] <;> rfl) (by kernel_rfl) (by kernel_rfl) (by kernel_rfl) (by exact fun _ _ _ h => h) (by decide) (.inr ⟨RT.out, SVd.out⟩) (Or.inr ⟨by rfl, rfl⟩) (fun _ => ?_)
              simp only [Act.put, List.setIfInBounds_toArray, List.set_cons_zero, List.set_cons_succ]
              refine wpAnyL_pure (i := 7) (v := undef) (by simp only [List.getElem?_toArray, List.getElem?_cons_zero, List.getElem?_cons_succ] <;> rfl) (by kernel_rfl) (by kernel_rfl) (by kernel_rfl) (by exact fun _ _ _ h => h) (by decide) (.inr ⟨RT.out, SVd.out⟩) (Or.inr ⟨by rfl, rfl⟩) (fun _ => ?_)
              simp only [Act.put, List.setIfInBounds_toArray, List.set_cons_zero, List.set_cons_succ]
              refine wpAnyL_pure (i := 8) (v := undef) (by simp only [List.getElem?_toArray, List.getElem?_cons_zero, List.getElem?_cons_succ] <;> rfl) (by kernel_rfl) (by kernel_rfl) (by kernel_rfl) (by exact fun _ _ _ h => h) (by decide) (.inr ⟨RT.out, SVd.out⟩) (Or.inr ⟨by rfl, rfl⟩) (fun _ => ?_)
              simp only [Act.put, List.setIfInBounds_toArray, List.set_cons_zero, List.set_cons_succ]
              refine wpAnyL_pure (i := 9) (v := undef) (by simp only [List.getElem?_toArray, List.getElem?_cons_zero, List.getElem?_cons_succ] <;> rfl) (by kernel_rfl) (by kernel_rfl) (by kernel_rfl) (by exact fun _ _ _ h => h) (by decide) (.inr ⟨RT.out, SVd.out⟩) (Or.inr ⟨by rfl, rfl⟩) (fun _ => ?_)
              simp only [Act.put, List.setIfInBounds_toArray, List.set_cons_zero, List.set_cons_succ]
              refine wpAnyL_pure (i := 10) (v := .bool false) (by simp only [List.getElem?_toArray, List.getElem?_cons_zero, List.getElem?_cons_succ] <;> rfl) (by kernel_rfl) (by kernel_rfl) (by kernel_rfl) (by exact fun _ _ _ h => h) (by decide) (.inr ⟨RT.out, SVd.out⟩) (Or.inl ⟨by rfl, fun w _ => (by simp [execOp, go_sem, Act.eval])⟩) (fun _ => ?_)
              simp only [Act.put, List.setIfInBounds_toArray, List.set_cons_zero, List.set_cons_succ]
              refine wpAnyL_pure (i := 11) (v := .bool false) (by simp only [List.getElem?_toArray, List.getElem?_cons_zero, List.getElem?_cons_succ] <;> rfl) (by kernel_rfl) (by kernel_rfl) (by kernel_rfl) (by exact fun _ _ _ h => h) (by decide) (.inr ⟨RT.out, SVd.out⟩) (Or.inl ⟨by rfl, fun w _ => (by simp [execOp, go_sem, Act.eval])⟩) (fun _ => ?_)
              simp only [Act.put, List.setIfInBounds_toArray, List.set_cons_zero, List.set_cons_succ]
              refine wpAnyL_load2 (i := 12) (v := encS s) (by simp only [List.getElem?_toArray, List.getElem?_cons_zero, List.getElem?_cons_succ] <;> rfl) (by kernel_rfl) (by kernel_rfl) (by kernel_rfl) (by exact fun _ _ _ h => h) (by decide) (Waits.more (j := 18) rfl ⟨⟨18, .data⟩, by simp, rfl, rfl⟩ (Waits.more (j := 17) rfl ⟨⟨17, .data⟩, by simp, rfl, rfl⟩ (Waits.one rfl ⟨⟨12, .data⟩, by simp, rfl, rfl⟩))) (by kernel_rfl) (by kernel_rfl) (.inr ⟨RT.out, SVd.out⟩) (Or.inl ⟨by rfl, fun w hw => (by obtain ⟨_, x1⟩ := hw; simp [execOp, go_sem, Act.eval, x1.cells.1, x1.cells.2.1])⟩) (fun _ => ?_)
              simp only [Act.put, List.setIfInBounds_toArray, List.set_cons_zero, List.set_cons_succ]
              refine wpAnyL_pure (i := 13) (v := .slice (some ⟨gT, 0, none⟩) L.length L.length) (by simp only [List.getElem?_toArray, List.getElem?_cons_zero, List.getElem?_cons_succ] <;> rfl) (by kernel_rfl) (by kernel_rfl) (by kernel_rfl) (by exact fun _ _ _ h => h) (by decide) (.inr ⟨RT.out, SVd.out⟩) (Or.inl ⟨by rfl, fun w _ => (by simp [execOp, go_sem, Act.eval])⟩) (fun _ => ?_)
              simp only [Act.put, List.setIfInBounds_toArray, List.set_cons_zero, List.set_cons_succ]
              refine wpAnyL_pure (i := 14) (v := .int .i64 (k : Int)) (by simp only [List.getElem?_toArray, List.getElem?_cons_zero, List.getElem?_cons_succ] <;> rfl) (by kernel_rfl) (by kernel_rfl) (by kernel_rfl) (by exact fun _ _ _ h => h) (by decide) (.inr ⟨RT.out, SVd.out⟩) (Or.inl ⟨by rfl, fun w _ => (by simp [execOp, go_sem, Act.eval])⟩) (fun _ => ?_)
              simp only [Act.put, List.setIfInBounds_toArray, List.set_cons_zero, List.set_cons_succ]
              refine wpAnyL_pure (i := 15) (v := .pointer (some ⟨gT, k * 2, none⟩)) (by simp only [List.getElem?_toArray, List.getElem?_cons_zero, List.getElem?_cons_succ] <;> rfl) (by kernel_rfl) (by kernel_rfl) (by kernel_rfl) (by exact fun _ _ _ h => h) (by decide) (.inr ⟨RT.out, SVd.out⟩) (Or.inl ⟨by rfl, fun w _ => (by simp [execOp, go_sem, Act.eval, zk])⟩) (fun _ => ?_)
              simp only [Act.put, List.setIfInBounds_toArray, List.set_cons_zero, List.set_cons_succ]
              refine wpAnyL_load2 (i := 16) (v := encS (t')) (by simp only [List.getElem?_toArray, List.getElem?_cons_zero, List.getElem?_cons_succ] <;> rfl) (by kernel_rfl) (by kernel_rfl) (by kernel_rfl) (by exact fun _ _ _ h => h) (by decide) (Waits.more (j := 18) rfl ⟨⟨18, .data⟩, by simp, rfl, rfl⟩ (Waits.more (j := 17) rfl ⟨⟨17, .data⟩, by simp, rfl, rfl⟩ (Waits.one rfl ⟨⟨16, .data⟩, by simp, rfl, rfl⟩))) (by kernel_rfl) (by kernel_rfl) (.inr ⟨RT.out, SVd.out⟩) (Or.inl ⟨by rfl, fun w hw => (by obtain ⟨⟨y0, z0⟩, _⟩ := hw; simp [execOp, go_sem, Act.eval, y0, z0])⟩) (fun _ => ?_)
              simp only [Act.put, List.setIfInBounds_toArray, List.set_cons_zero, List.set_cons_succ]
              refine wpAnyL_one (i := 17) (by kernel_rfl) (by simp only [List.getElem?_toArray, List.getElem?_cons_zero, List.getElem?_cons_succ] <;> rfl) (by rfl) ?_
              refine opwp_call (f := 31) (args := #[encS s, encS (t')]) (w' := wd.drew) (by simp [go_sem, Act.eval]) ?_
              refine (HSB.out wd.drew).mono ?_
              rintro e w6 ⟨rfl, hb6⟩
              have hce1_0 := hid (show (w6.cell? ⟨gT, k * 2, none⟩ = some (.int .u64 ((lw (t')).toNat : Int)) ∧ w6.cell? ⟨gT, k * 2 + 1, none⟩ = some (.int .u64 ((hw (t')).toNat : Int))) from ⟨(hb6.cell (cell_lt RT.out.1)).trans RT.out.1, (hb6.cell (cell_lt RT.out.2)).trans RT.out.2⟩)
              have hce1_1 := hid (SVd.out.below hb6 SVd.out.lt)
              refine .inl ⟨_, rfl, .inr ⟨hce1_0.out, hce1_1.out⟩, ?_⟩
              simp only [Act.put, List.setIfInBounds_toArray, List.set_cons_zero, List.set_cons_succ]
              refine wpAnyL_pure (i := 18) (v := .bool false) (by simp only [List.getElem?_toArray, List.getElem?_cons_zero, List.getElem?_cons_succ] <;> rfl) (by kernel_rfl) (by kernel_rfl) (by kernel_rfl) (by exact fun _ _ _ h => h) (by decide) (.inr ⟨hce1_0.out, hce1_1.out⟩) (Or.inl ⟨by rfl, fun w _ => (by simp [execOp, go_sem, Act.eval])⟩) (fun _ => ?_)
              simp only [Act.put, List.setIfInBounds_toArray, List.set_cons_zero, List.set_cons_succ]
              refine wpAnyL_one (i := 19) (by kernel_rfl) (by simp only [List.getElem?_toArray, List.getElem?_cons_zero, List.getElem?_cons_succ] <;> rfl) (by rfl) ?_
              refine opwp_value (v := .bool false) (w' := w6) (by simp [execOp, go_sem, Act.eval]) ⟨.inl (by kernel_rfl), ?_⟩
              simp only [Act.put, List.setIfInBounds_toArray, List.set_cons_zero, List.set_cons_succ]
              refine wpAnyL_done (by kernel_rfl) ?_ _
              have hB5 := hBo4.trans (((Below.refl _ wd).drew.trans hb6).mono hBo4.size)
              go_wp2_with fail
              go_roundw
              case rel => exact ⟨k + 1, by omega, by go_num, HX.out, hB5⟩
              case measure => simp [intOf]; omega
        · obtain rfl : k = L.length := by omega
          have HD := hid (covTo_all hcv.out)
          go_wp2_with fail
          go_ret
          exact ⟨by rw [HD.out]; rfl, hBr⟩
theorem topsTo_yes {B : List VS} {U : List Int} {k : Nat} {t f : VS} (h : topsTo B U k = some t) (hf : minus (gOf B (k : Int)) (aboveB B U (k : Int)) = f) (h0 : f &&& t = 0) : topsTo B U (k + 1) = some (t ||| f) := by
  rw [topsTo, h]; simp only; rw [hf, if_pos h0]
theorem topsTo_stop {B : List VS} {U : List Int} {k : Nat} (h : topsTo B U k = none) : ∀ m, topsTo B U (k + m) = none
  | 0 => h
  | m + 1 => by rw [← Nat.add_assoc, topsTo, topsTo_stop h m]
theorem topsTo_no {B : List VS} {U : List Int} {k : Nat} {t f : VS} (h : topsTo B U k = some t) (hk : k < B.length) (hf : minus (gOf B (k : Int)) (aboveB B U (k : Int)) = f) (h0 : ¬ f &&& t = 0) : connB B U = false := by
  have h1 : topsTo B U (k + 1) = none := by rw [topsTo, h]; simp only; rw [hf, if_neg h0]
  have h2 := topsTo_stop h1 (B.length - (k + 1))
  rw [show k + 1 + (B.length - (k + 1)) = B.length by omega] at h2
  unfold connB
  rw [h2]; rfl
theorem topsTo_all {B : List VS} {U : List Int} {t : VS} (h : topsTo B U B.length = some t) : connB B U = true := by unfold connB; rw [h]; rfl
theorem zero_set (w : World) (T : TypeId) : SetVar (w.alloc (.cells #[.int .u64 0, .int .u64 0] T)) w.heap.size 0 := ⟨T, heap_alloc_new w _⟩
set_option maxRecDepth 100000 in
set_option maxHeartbeats 8000000 in
theorem connected_c (x y : Value) (B : List VS) (U : List Int) (w : World) (hx : SetsAt w x B) (hy : IntsAt w y U) (hf : Formed B.length U) :
    Calls Tryd.prog 54 #[.agg #[x, y]] w fun e w' => e = .returned (.bool (connB B U)) ∧ Below w.heap.size w w' := by
  have hLEN := hid hf.len
  have hle := hf.le
  have HRG := hid hf.range
  have HX := hid hx
  have HY := hid hy
  obtain ⟨p, c, rfl, hdrop⟩ := id hx
  obtain ⟨p2, c2, rfl, hdrop2⟩ := id hy
  clear hdrop hdrop2 hx hy hf
  have b0 := Box2.new w 25 (.slice p B.length c) (.slice p2 U.length c2)
  have b1 := b0.alloc (.cells #[.int .u64 0, .int .u64 0] 32)
  have t1 := zero_set (w.alloc (.cells #[.slice p B.length c, .slice p2 U.length c2] 25)) 32
  rw [World.size_alloc] at t1
  have hB1 : Below w.heap.size w ((w.alloc (.cells #[.slice p B.length c, .slice p2 U.length c2] 25)).alloc (.cells #[.int .u64 0, .int .u64 0] 32)) := ((Below.refl _ w).alloc (Nat.le_refl _) _).alloc (by simp) _
  obtain ⟨c0, c1, _, _⟩ := b1.cells
  clear b0
  go_enter Tryd.func54, Tryd.ntmps54
  go_wp2_with fail
  generalize (w.alloc (.cells #[.slice p B.length c, .slice p2 U.length c2] 25)).alloc (.cells #[.int .u64 0, .int .u64 0] 32) = w1 at *
  clear c0 c1
  go_loopw [11] (fun i wr => ∃ (k : Nat) (t : VS), k ≤ B.length ∧ i = .int .i64 k ∧ Hid (topsTo B U k = some t) ∧ SetVar wr (w.heap.size + 1) t ∧ Box2 wr w.heap.size 25 (.slice p B.length c) (.slice p2 U.length c2) ∧ Below w.heap.size w wr) (fun i _ => B.length - (intOf i).toNat)
  case atStart => exact ⟨0, 0, Nat.zero_le _, rfl, rfl, t1, b1, hB1⟩
  case round =>
    clear t1 b1 hB1
    obtain ⟨k, t, hk, rfl, hto, hsv, hbx, hBw⟩ := hrel
    by_cases hkl : k < B.length
    · have hku : k < U.length := by rw [hLEN.out]; exact hkl
      obtain ⟨bb, bo, bc, e1, lb⟩ := (HX.out.below hBw).form (by omega)
      obtain ⟨ub, uo, uc, e2, lu, hus⟩ := (HY.out.below hBw).form (by omega)
      injection e1 with e1 _ e1'
      injection e2 with e2 _ e2'
      subst e1; subst e2; subst e1'; subst e2'
      obtain ⟨s, hs, q0, q1⟩ := (HX.out.below hBw).get k hkl
      have cu := hus k hku
      have hrg := HRG.out (k : Int) (by omega) (by omega)
      rw [upF_nat U k hku] at hrg
      have HU := hid (upF_nat U k hku)
      have HS := hid ((gOf_nat B k hkl).trans hs)
      have zk : (0 : Int) ≤ (k : Int) ∧ (k : Int) < (B.length : Int) := by omega
      have zku : (k : Int) < (U.length : Int) := by omega
      have HYES := hid (fun f hf h0 => topsTo_yes (f := f) hto.out hf h0)
      have HNO := hid (fun f hf h0 => topsTo_no (f := f) hto.out hkl hf h0)
      generalize U[k] = u at *
      have hv1 := SetVar.new wr s 32
      have hb4 : Below wr.heap.size wr ((wr.alloc (.cells #[.int .u64 ((lw s).toNat : Int), .int .u64 ((hw s).toNat : Int)] 32)).alloc (.cells #[.int .u64 0, .int .u64 0] 32)) := ((Below.refl _ wr).alloc (Nat.le_refl _) _).alloc (by simp) _
      have hv4 := hv1.alloc (.cells #[.int .u64 0, .int .u64 0] 32)
      have hz4 := zero_set (wr.alloc (.cells #[.int .u64 ((lw s).toNat : Int), .int .u64 ((hw s).toNat : Int)] 32)) 32
      rw [World.size_alloc] at hz4
      have HV4 := hid hv4
      have HZ4 := hid hz4
      have HT4 := hid (hsv.below hb4 hsv.lt)
      have HB4 := hid (hbx.below hb4 hbx.lt)
      have HW4 := hid (hBw.trans (hb4.mono hBw.size))
      have HX4 := hid ((HX.out.below hBw).below hb4)
      have cu4 := (hb4.cell (cell_lt cu)).trans cu
      have hl1 := hbx.lt
      have hl2 := hsv.lt
      obtain ⟨d0, d1, _, _⟩ := hbx.cells
      obtain ⟨d0a, d1a, _, _⟩ := HB4.out.cells
      clear hs hus hto hsv hbx hBw hb4 hv1 hv4 hz4
      by_cases hu : 0 ≤ u
      · obtain ⟨un, rfl⟩ : ∃ un : Nat, u = (un : Int) := ⟨u.toNat, by omega⟩
        have hunl : un < B.length := by omega
        have zu : (0 : Int) ≤ (un : Int) ∧ (un : Int) < (B.length : Int) := by omega
        obtain ⟨a, ha, r0, r1⟩ := HX4.out.get un hunl
        have HA := hid (show aboveB B U (k : Int) = a from by unfold aboveB; rw [HU.out, if_pos (by omega), gOf_nat B un hunl, ha])
        go_wp2_with fail
        clear q0 q1 cu d0 d1
        generalize (wr.alloc (.cells #[.int .u64 ((lw s).toNat : Int), .int .u64 ((hw s).toNat : Int)] 32)).alloc (.cells #[.int .u64 0, .int .u64 0] 32) = w4 at *
        generalize wr.heap.size = ps at *
        have BX : Hid (Box2 w4.drew w.heap.size 25 (.slice (some ⟨bb, bo, none⟩) B.length c) (.slice (some ⟨ub, uo, none⟩) U.length c2)) := HB4.out
        have CU : Hid (w4.drew.cell? ⟨ub, uo + k, none⟩ = some (.int .i64 (un : Int))) := cu4
        have RA : Hid (w4.drew.cell? ⟨bb, bo + un * 2, none⟩ = some (.int .u64 ((lw a).toNat : Int)) ∧ w4.drew.cell? ⟨bb, bo + un * 2 + 1, none⟩ = some (.int .u64 ((hw a).toNat : Int))) := ⟨r0, r1⟩
        clear cu4 r0 r1 ha d0a d1a
        refine Go.Proofs.YtmlecpapoeodkaaDoor.wp_region_L 10 9 (fun w' => Box2 w' (w.heap.size) 25 (.slice (some ⟨bb, bo, none⟩) B.length c) (.slice (some ⟨ub, uo, none⟩) U.length c2) ∧ w'.cell? ⟨ub, uo + k, none⟩ = some (.int .i64 (un : Int)) ∧ (w'.cell? ⟨bb, bo + un * 2, none⟩ = some (.int .u64 ((lw (a)).toNat : Int)) ∧ w'.cell? ⟨bb, bo + un * 2 + 1, none⟩ = some (.int .u64 ((hw (a)).toNat : Int)))) (by kernel_rfl) rfl ⟨BX.out, CU.out, RA.out⟩ (fun _ => ?_)
        refine wpAnyL_pure (i := 0) (v := .pointer (some ⟨w.heap.size, 0, none⟩)) (by simp only [List.getElem?_toArray, List.getElem?_cons_zero] <;> rfl) (by kernel_rfl) (by kernel_rfl) (by kernel_rfl) (by exact fun _ _ _ h => h) (by decide) (.inr ⟨BX.out, CU.out, RA.out⟩) (Or.inl ⟨by rfl, fun w _ => (by simp [execOp, go_sem, Act.eval])⟩) (fun _ => ?_)
        simp only [Act.put, List.setIfInBounds_toArray, List.set_cons_zero, List.set_cons_succ]
        refine wpAnyL_load2 (i := 1) (v := .slice (some ⟨bb, bo, none⟩) B.length c) (by simp only [List.getElem?_toArray, List.getElem?_cons_zero, List.getElem?_cons_succ] <;> rfl) (by kernel_rfl) (by kernel_rfl) (by kernel_rfl) (by exact fun _ _ _ h => h) (by decide) (Waits.one rfl ⟨⟨1, .phase⟩, by simp, rfl, rfl⟩) (by kernel_rfl) (by kernel_rfl) (.inr ⟨BX.out, CU.out, RA.out⟩) (Or.inl ⟨by rfl, fun w hw => (by obtain ⟨x0, _, _⟩ := hw; simp [execOp, go_sem, Act.eval, x0.cells.1])⟩) (fun _ => ?_)
        simp only [Act.put, List.setIfInBounds_toArray, List.set_cons_zero, List.set_cons_succ]
        refine wpAnyL_pure (i := 2) (v := .pointer (some ⟨w.heap.size, 1, none⟩)) (by simp only [List.getElem?_toArray, List.getElem?_cons_zero, List.getElem?_cons_succ] <;> rfl) (by kernel_rfl) (by kernel_rfl) (by kernel_rfl) (by exact fun _ _ _ h => h) (by decide) (.inr ⟨BX.out, CU.out, RA.out⟩) (Or.inl ⟨by rfl, fun w _ => (by simp [execOp, go_sem, Act.eval])⟩) (fun _ => ?_)
        simp only [Act.put, List.setIfInBounds_toArray, List.set_cons_zero, List.set_cons_succ]
        refine wpAnyL_load2 (i := 3) (v := .slice (some ⟨ub, uo, none⟩) U.length c2) (by simp only [List.getElem?_toArray, List.getElem?_cons_zero, List.getElem?_cons_succ] <;> rfl) (by kernel_rfl) (by kernel_rfl) (by kernel_rfl) (by exact fun _ _ _ h => h) (by decide) (Waits.one rfl ⟨⟨3, .phase⟩, by simp, rfl, rfl⟩) (by kernel_rfl) (by kernel_rfl) (.inr ⟨BX.out, CU.out, RA.out⟩) (Or.inl ⟨by rfl, fun w hw => (by obtain ⟨x0, _, _⟩ := hw; simp [execOp, go_sem, Act.eval, x0.cells.2.1])⟩) (fun _ => ?_)
        simp only [Act.put, List.setIfInBounds_toArray, List.set_cons_zero, List.set_cons_succ]
        refine wpAnyL_pure (i := 4) (v := .int .i64 (k : Int)) (by simp only [List.getElem?_toArray, List.getElem?_cons_zero, List.getElem?_cons_succ] <;> rfl) (by kernel_rfl) (by kernel_rfl) (by kernel_rfl) (by exact fun _ _ _ h => h) (by decide) (.inr ⟨BX.out, CU.out, RA.out⟩) (Or.inl ⟨by rfl, fun w _ => (by simp [execOp, go_sem, Act.eval])⟩) (fun _ => ?_)
        simp only [Act.put, List.setIfInBounds_toArray, List.set_cons_zero, List.set_cons_succ]
        refine wpAnyL_pure (i := 5) (v := .pointer (some ⟨ub, uo + k, none⟩)) (by simp only [List.getElem?_toArray, List.getElem?_cons_zero, List.getElem?_cons_succ] <;> rfl) (by kernel_rfl) (by kernel_rfl) (by kernel_rfl) (by exact fun _ _ _ h => h) (by decide) (.inr ⟨BX.out, CU.out, RA.out⟩) (Or.inl ⟨by rfl, fun w _ => (by simp [execOp, go_sem, Act.eval, zk, zku])⟩) (fun _ => ?_)
        simp only [Act.put, List.setIfInBounds_toArray, List.set_cons_zero, List.set_cons_succ]
        refine wpAnyL_load2 (i := 6) (v := .int .i64 (un : Int)) (by simp only [List.getElem?_toArray, List.getElem?_cons_zero, List.getElem?_cons_succ] <;> rfl) (by kernel_rfl) (by kernel_rfl) (by kernel_rfl) (by exact fun _ _ _ h => h) (by decide) (Waits.one rfl ⟨⟨6, .phase⟩, by simp, rfl, rfl⟩) (by kernel_rfl) (by kernel_rfl) (.inr ⟨BX.out, CU.out, RA.out⟩) (Or.inl ⟨by rfl, fun w hw => (by obtain ⟨_, x1, _⟩ := hw; simp [execOp, go_sem, Act.eval, x1])⟩) (fun _ => ?_)
        simp only [Act.put, List.setIfInBounds_toArray, List.set_cons_zero, List.set_cons_succ]
        refine wpAnyL_pure (i := 7) (v := .pointer (some ⟨bb, bo + un * 2, none⟩)) (by simp only [List.getElem?_toArray, List.getElem?_cons_zero, List.getElem?_cons_succ] <;> rfl) (by kernel_rfl) (by kernel_rfl) (by kernel_rfl) (by exact fun _ _ _ h => h) (by decide) (.inr ⟨BX.out, CU.out, RA.out⟩) (Or.inl ⟨by rfl, fun w _ => (by simp [execOp, go_sem, Act.eval, zu])⟩) (fun _ => ?_)
        simp only [Act.put, List.setIfInBounds_toArray, List.set_cons_zero, List.set_cons_succ]
        refine wpAnyL_load2 (i := 8) (v := encS (a)) (by simp only [List.getElem?_toArray, List.getElem?_cons_zero, List.getElem?_cons_succ] <;> rfl) (by kernel_rfl) (by kernel_rfl) (by kernel_rfl) (by exact fun _ _ _ h => h) (by decide) (Waits.one rfl ⟨⟨8, .data⟩, by simp, rfl, rfl⟩) (by kernel_rfl) (by kernel_rfl) (.inr ⟨BX.out, CU.out, RA.out⟩) (Or.inl ⟨by rfl, fun w hw => (by obtain ⟨_, _, ⟨y2, z2⟩⟩ := hw; simp [execOp, go_sem, Act.eval, y2, z2])⟩) (fun _ => ?_)
        simp only [Act.put, List.setIfInBounds_toArray, List.set_cons_zero, List.set_cons_succ]
        obtain ⟨y0, y1, y2, y3⟩ := HZ4.out.cells
        refine wpAnyL_one (i := 9) (by kernel_rfl) (by simp only [List.getElem?_toArray, List.getElem?_cons_zero, List.getElem?_cons_succ] <;> rfl) (by rfl) ?_
        refine opwp_skip (w' := ((w4.drew.setCell ⟨ps + 1, 0, none⟩ (.int .u64 ((lw a).toNat : Int))).setCell ⟨ps + 1, 1, none⟩ (.int .u64 ((hw a).toNat : Int)))) (by simp [execOp, go_sem, Act.eval, y0, y1, y2, y3]) ⟨.inl (by kernel_rfl), ?_⟩
        simp only [Act.put]
        refine wpAnyL_done (by kernel_rfl) ?_ _
        have HB5W := hid (below_01 (HW4.out.trans (((Below.refl _ w4).drew).mono HW4.out.size)) (b := ps + 1) (by omega) (.int .u64 ((lw a).toNat : Int)) (.int .u64 ((hw a).toNat : Int)))
        have SV5 := hid (((show SetVar w4.drew ps s from HV4.out).other (a := ⟨ps + 1, 0, none⟩) (by show ps ≠ ps + 1; omega) (.int .u64 ((lw a).toNat : Int))).other (a := ⟨ps + 1, 1, none⟩) (by show ps ≠ ps + 1; omega) (.int .u64 ((hw a).toNat : Int)))
        have AV5 := hid ((show SetVar w4.drew (ps + 1) 0 from HZ4.out).store a)
        have HT5 := hid (((show SetVar w4.drew (w.heap.size + 1) t from HT4.out).other (a := ⟨ps + 1, 0, none⟩) (by show w.heap.size + 1 ≠ ps + 1; omega) (.int .u64 ((lw a).toNat : Int))).other (a := ⟨ps + 1, 1, none⟩) (by show w.heap.size + 1 ≠ ps + 1; omega) (.int .u64 ((hw a).toNat : Int)))
        have HBX5 := hid (((BX.out).other (a := ⟨ps + 1, 0, none⟩) (by show w.heap.size ≠ ps + 1; omega) (.int .u64 ((lw a).toNat : Int))).other (a := ⟨ps + 1, 1, none⟩) (by show w.heap.size ≠ ps + 1; omega) (.int .u64 ((hw a).toNat : Int)))
        generalize (w4.drew.setCell ⟨ps + 1, 0, none⟩ (.int .u64 ((lw a).toNat : Int))).setCell ⟨ps + 1, 1, none⟩ (.int .u64 ((hw a).toNat : Int)) = w5 at *
        clear BX CU RA HV4 HZ4 HT4 HB4 HW4 HX4 y0 y1 y2 y3
        have HBB5 := hid (HB5W.out)
        obtain ⟨n0, n1, _, _⟩ := SV5.out.cells
        obtain ⟨m0, m1, _, _⟩ := AV5.out.cells
        have HM := hid (Minus_c s a w5)
        go_wp2_with fail
        refine HM.out.mono ?_
        rintro e w6 ⟨rfl, hb6⟩
        have HF := hid (show minus (gOf B (k : Int)) (aboveB B U (k : Int)) = minus s a by rw [HS.out, HA.out])
        generalize minus s a = f at *
        have hv7 := SetVar.new w6 f 32
        have hb7 : Below w6.heap.size w6 (w6.alloc (.cells #[.int .u64 ((lw f).toNat : Int), .int .u64 ((hw f).toNat : Int)] 32)) := (Below.refl _ w6).alloc (Nat.le_refl _) _
        have hb67 := hb6.trans (hb7.mono hb6.size)
        have hB7 := HBB5.out.trans (hb67.mono HBB5.out.size)
        have hT7 := HT5.out.below hb67 HT5.out.lt
        have hX7 := HBX5.out.below hb67 HBX5.out.lt
        obtain ⟨t0, t1, _, _⟩ := hT7.cells
        obtain ⟨f0, f1, _, _⟩ := hv7.cells
        have HT7 := hid hT7
        have HX7 := hid hX7
        have HB7 := hid hB7
        have HV7 := hid hv7
        clear n0 n1 m0 m1 hb6 hb7 hb67 hB7 hT7 hX7 HM hv7
        go_wp2_with fail
        generalize w6.alloc (.cells #[.int .u64 ((lw f).toNat : Int), .int .u64 ((hw f).toNat : Int)] 32) = w7 at *
        generalize w6.heap.size = p7 at *
        have HC := hid (Cut_c f t w7)
        go_wp2_with fail
        refine HC.out.mono ?_
        rintro e w8 ⟨rfl, hb8⟩
        have hB8 := HB7.out.trans (hb8.mono HB7.out.size)
        have hT8 := HT7.out.below hb8 HT7.out.lt
        have hX8 := HX7.out.below hb8 HX7.out.lt
        have hv8 := HV7.out.below hb8 HV7.out.lt
        clear t0 t1 f0 f1 HC
        by_cases hz : f &&& t = 0
        · have hz1 : (!(f &&& t == 0#128)) = false := by simp; exact hz
          have hz2 : (f &&& t == 0#128) = true := by simp; exact hz
          have HNX := hid (HYES.out f HF.out hz)
          obtain ⟨t0, t1, t2, t3⟩ := hT8.cells
          obtain ⟨f0, f1, _, _⟩ := hv8.cells
          have HUN := hid (Union_c t f w8)
          have HT8 := hid hT8
          have HX8 := hid hX8
          have HB8 := hid hB8
          clear hz hT8 hX8 hv8 hB8
          go_wp2_with fail
          refine HUN.out.mono ?_
          rintro e w9 ⟨rfl, hb9⟩
          have hT9 := HT8.out.below hb9 HT8.out.lt
          have hX9 := HX8.out.below hb9 HX8.out.lt
          have hB9 := HB8.out.trans (hb9.mono HB8.out.size)
          obtain ⟨t0', t1', t2', t3'⟩ := hT9.cells
          have HT9 := hid (hT9.store (t ||| f))
          have HX9 := hid ((hX9.other (a := ⟨w.heap.size + 1, 0, none⟩) (by show w.heap.size ≠ w.heap.size + 1; omega) (.int .u64 ((lw (t ||| f)).toNat : Int))).other (a := ⟨w.heap.size + 1, 1, none⟩) (by show w.heap.size ≠ w.heap.size + 1; omega) (.int .u64 ((hw (t ||| f)).toNat : Int)))
          have HB9 := hid (below_01 hB9 (b := w.heap.size + 1) (by omega) (.int .u64 ((lw (t ||| f)).toNat : Int)) (.int .u64 ((hw (t ||| f)).toNat : Int)))
          clear t0 t1 t2 t3 f0 f1 hz1 hz2 hT9 hX9 hB9 hb9
          go_wp2_with fail
          go_roundw
          case rel => exact ⟨k + 1, t ||| f, by omega, by go_num, HNX.out, HT9.out, HX9.out, HB9.out⟩
          case measure => simp [intOf]; omega
        · have hz1 : (!(f &&& t == 0#128)) = true := by simp; exact hz
          have hz2 : (f &&& t == 0#128) = false := by simp; exact hz
          have hz3 : ¬ f &&& t = 0#128 := hz
          have HD := hid (HNO.out f HF.out hz)
          clear hz
          go_wp2_with fail
          go_ret
          exact ⟨by rw [HD.out]; rfl, hB8⟩
      · have HA := hid (show aboveB B U (k : Int) = 0 from by unfold aboveB; rw [HU.out, if_neg hu])
        go_wp2_with fail
        clear q0 q1 cu d0 d1
        generalize (wr.alloc (.cells #[.int .u64 ((lw s).toNat : Int), .int .u64 ((hw s).toNat : Int)] 32)).alloc (.cells #[.int .u64 0, .int .u64 0] 32) = w5 at *
        generalize wr.heap.size = ps at *
        have HB5W := hid HW4.out
        have SV5 := hid HV4.out
        have AV5 := hid HZ4.out
        have HT5 := hid HT4.out
        have HBX5 := hid HB4.out
        clear HV4 HZ4 HT4 HB4 HW4 HX4 d0a d1a cu4
        have HBB5 := hid (HB5W.out)
        obtain ⟨n0, n1, _, _⟩ := SV5.out.cells
        obtain ⟨m0, m1, _, _⟩ := AV5.out.cells
        have HM := hid (Minus_c s 0 w5)
        go_wp2_with fail
        refine HM.out.mono ?_
        rintro e w6 ⟨rfl, hb6⟩
        have HF := hid (show minus (gOf B (k : Int)) (aboveB B U (k : Int)) = minus s 0 by rw [HS.out, HA.out])
        generalize minus s 0 = f at *
        have hv7 := SetVar.new w6 f 32
        have hb7 : Below w6.heap.size w6 (w6.alloc (.cells #[.int .u64 ((lw f).toNat : Int), .int .u64 ((hw f).toNat : Int)] 32)) := (Below.refl _ w6).alloc (Nat.le_refl _) _
        have hb67 := hb6.trans (hb7.mono hb6.size)
        have hB7 := HBB5.out.trans (hb67.mono HBB5.out.size)
        have hT7 := HT5.out.below hb67 HT5.out.lt
        have hX7 := HBX5.out.below hb67 HBX5.out.lt
        obtain ⟨t0, t1, _, _⟩ := hT7.cells
        obtain ⟨f0, f1, _, _⟩ := hv7.cells
        have HT7 := hid hT7
        have HX7 := hid hX7
        have HB7 := hid hB7
        have HV7 := hid hv7
        clear n0 n1 m0 m1 hb6 hb7 hb67 hB7 hT7 hX7 HM hv7
        go_wp2_with fail
        generalize w6.alloc (.cells #[.int .u64 ((lw f).toNat : Int), .int .u64 ((hw f).toNat : Int)] 32) = w7 at *
        generalize w6.heap.size = p7 at *
        have HC := hid (Cut_c f t w7)
        go_wp2_with fail
        refine HC.out.mono ?_
        rintro e w8 ⟨rfl, hb8⟩
        have hB8 := HB7.out.trans (hb8.mono HB7.out.size)
        have hT8 := HT7.out.below hb8 HT7.out.lt
        have hX8 := HX7.out.below hb8 HX7.out.lt
        have hv8 := HV7.out.below hb8 HV7.out.lt
        clear t0 t1 f0 f1 HC
        by_cases hz : f &&& t = 0
        · have hz1 : (!(f &&& t == 0#128)) = false := by simp; exact hz
          have hz2 : (f &&& t == 0#128) = true := by simp; exact hz
          have HNX := hid (HYES.out f HF.out hz)
          obtain ⟨t0, t1, t2, t3⟩ := hT8.cells
          obtain ⟨f0, f1, _, _⟩ := hv8.cells
          have HUN := hid (Union_c t f w8)
          have HT8 := hid hT8
          have HX8 := hid hX8
          have HB8 := hid hB8
          clear hz hT8 hX8 hv8 hB8
          go_wp2_with fail
          refine HUN.out.mono ?_
          rintro e w9 ⟨rfl, hb9⟩
          have hT9 := HT8.out.below hb9 HT8.out.lt
          have hX9 := HX8.out.below hb9 HX8.out.lt
          have hB9 := HB8.out.trans (hb9.mono HB8.out.size)
          obtain ⟨t0', t1', t2', t3'⟩ := hT9.cells
          have HT9 := hid (hT9.store (t ||| f))
          have HX9 := hid ((hX9.other (a := ⟨w.heap.size + 1, 0, none⟩) (by show w.heap.size ≠ w.heap.size + 1; omega) (.int .u64 ((lw (t ||| f)).toNat : Int))).other (a := ⟨w.heap.size + 1, 1, none⟩) (by show w.heap.size ≠ w.heap.size + 1; omega) (.int .u64 ((hw (t ||| f)).toNat : Int)))
          have HB9 := hid (below_01 hB9 (b := w.heap.size + 1) (by omega) (.int .u64 ((lw (t ||| f)).toNat : Int)) (.int .u64 ((hw (t ||| f)).toNat : Int)))
          clear t0 t1 t2 t3 f0 f1 hz1 hz2 hT9 hX9 hB9 hb9
          go_wp2_with fail
          go_roundw
          case rel => exact ⟨k + 1, t ||| f, by omega, by go_num, HNX.out, HT9.out, HX9.out, HB9.out⟩
          case measure => simp [intOf]; omega
        · have hz1 : (!(f &&& t == 0#128)) = true := by simp; exact hz
          have hz2 : (f &&& t == 0#128) = false := by simp; exact hz
          have hz3 : ¬ f &&& t = 0#128 := hz
          have HD := hid (HNO.out f HF.out hz)
          clear hz
          go_wp2_with fail
          go_ret
          exact ⟨by rw [HD.out]; rfl, hB8⟩
    · obtain rfl : k = B.length := by omega
      have HD := hid (topsTo_all hto.out)
      go_wp2_with fail
      go_ret
      exact ⟨by rw [HD.out]; rfl, hBw⟩
end Go.Proofs.YtmlecpapoeodkaaDoor
