/- Walks: the reference's remove and Merge. -/
import Derived.Test.YtmlecpapoeodkaaDoorWGiven
import Derived.Test.YtmlecpapoeodkaaDoorRWalk3
import Derived.Deep.DeepCutAuto
import Derived.Test.YtmlecpapoeodkaaDoorWMg
import Derived.Test.YtmlecpapoeodkaaDoorWRef3
namespace Go.Proofs.YtmlecpapoeodkaaDoor
open Go.RowKit
attribute [local go_sem ↓] run_eqlS run_neqS run_eqlS0 run_neqS0

/-- What is in memory while a tree is made beside another one: the argument, the result, the tree so far. -/
structure RmMem (w wr : World) (n : Nat) (x y vB vU : Value) (B : List VS) (U : List Int) : Prop where
  ord : w.heap.size ≤ n
  av : Box2 wr n 33 x y
  rv : Box2 wr (n + 1) 33 (.slice none 0 0) (.slice none 0 0)
  dv : Box2 wr (n + 2) 33 vB vU
  own : OwnSets wr (n + 3) vB B
  ownU : OwnInts wr (n + 3) vU U
  low : Below w.heap.size w wr
  sz : n + 3 ≤ wr.heap.size
section
variable {w wr wr' : World} {n : Nat} {x y vB vU : Value} {B : List VS} {U : List Int} (h : RmMem w wr n x y vB vU B U)
include h
theorem RmMem.below (hb : Below wr.heap.size wr wr') : RmMem w wr' n x y vB vU B U :=
  ⟨h.ord, h.av.below hb h.av.lt, h.rv.below hb h.rv.lt, h.dv.below hb h.dv.lt, h.own.below hb, h.ownU.below hb, h.low.trans (hb.mono h.low.size), Nat.le_trans h.sz hb.size⟩
theorem RmMem.bags {vB' : Value} {B' : List VS} {w2 : World} (hg : wr.grownBy w2 vB.ownBlock) (h1 : OwnSets w2 (n + 3) vB' B') : RmMem w (w2.setCell ⟨n + 2, 0, none⟩ vB') n x y vB' vU B' U := by
  have ho := h.ord
  have hf : ∀ k, vB.ownBlock = some k → n + 3 ≤ k := fun k e => (h.own.lt k e).1
  have n1 : ∀ b, b < n + 3 → some b ≠ vB.ownBlock := fun b hb e => by have := hf b e.symm; omega
  have hg2 : w2.grownBy (w2.setCell ⟨n + 2, 0, none⟩ vB') (some (n + 2)) := ⟨rfl, rfl, rfl, by simp [World.setCell], fun k _ hne => Below.heap_setCell _ _ _ _ (by intro e; exact hne (by rw [e]))⟩
  have n2 : ∀ b, b ≠ n + 2 → some b ≠ some (n + 2) := fun b hb e => hb (by simpa using e)
  have h2 := h.ownU.kept hg (own_apart h.ownU h.own (by decide))
  exact ⟨ho, (h.av.kept hg (n1 _ (by omega))).kept hg2 (n2 _ (by omega)), (h.rv.kept hg (n1 _ (by omega))).kept hg2 (n2 _ (by omega)), (h.dv.kept hg (n1 _ (by omega))).set0 vB',
    h1.kept hg2 (own_far h1 (by intro k e; cases e; omega)), h2.kept hg2 (own_far h2 (by intro k e; cases e; omega)), (h.low.grown hg h.low.size (by intro k e; have := hf k e; omega)).setCell (p := ⟨n + 2, 0, none⟩) (by show w.heap.size ≤ n + 2; omega) _,
    by have := h.sz; have := hg.size; have := hg2.size; omega⟩
theorem RmMem.ups {vU' : Value} {U' : List Int} {w2 : World} (hg : wr.grownBy w2 vU.ownBlock) (h2 : OwnInts w2 (n + 3) vU' U') : RmMem w (w2.setCell ⟨n + 2, 1, none⟩ vU') n x y vB vU' B U' := by
  have ho := h.ord
  have hf : ∀ k, vU.ownBlock = some k → n + 3 ≤ k := fun k e => (h.ownU.lt k e).1
  have n1 : ∀ b, b < n + 3 → some b ≠ vU.ownBlock := fun b hb e => by have := hf b e.symm; omega
  have hg2 : w2.grownBy (w2.setCell ⟨n + 2, 1, none⟩ vU') (some (n + 2)) := ⟨rfl, rfl, rfl, by simp [World.setCell], fun k _ hne => Below.heap_setCell _ _ _ _ (by intro e; exact hne (by rw [e]))⟩
  have n2 : ∀ b, b ≠ n + 2 → some b ≠ some (n + 2) := fun b hb e => hb (by simpa using e)
  have h1 := h.own.kept hg (own_apart h.own h.ownU (by decide))
  exact ⟨ho, (h.av.kept hg (n1 _ (by omega))).kept hg2 (n2 _ (by omega)), (h.rv.kept hg (n1 _ (by omega))).kept hg2 (n2 _ (by omega)), (h.dv.kept hg (n1 _ (by omega))).set1 vU',
    h1.kept hg2 (own_far h1 (by intro k e; cases e; omega)), h2.kept hg2 (own_far h2 (by intro k e; cases e; omega)), (h.low.grown hg h.low.size (by intro k e; have := hf k e; omega)).setCell (p := ⟨n + 2, 1, none⟩) (by show w.heap.size ≤ n + 2; omega) _,
    by have := h.sz; have := hg.size; have := hg2.size; omega⟩
end
/-- A tree in new memory. -/
def TreePost (B : List VS) (U : List Int) (w : World) (e : Ending) (w' : World) : Prop :=
  ∃ vB vU, e = .returned (.agg #[vB, vU]) ∧ OwnSets w' w.heap.size vB B ∧ OwnInts w' w.heap.size vU U ∧ Below w.heap.size w w'
set_option maxRecDepth 100000 in
set_option maxHeartbeats 16000000 in
theorem remove_c (v v2 : Value) (B : List VS) (U : List Int) (i t : Nat) (w : World) (hx : SetsAt w v B) (hy : IntsAt w v2 U) (hlen : U.length = B.length) (hi : i < B.length) (ht : t < B.length) (hit : t ≠ i) (hl : B.length ≤ 1000) (hr : ∀ k : Nat, k < B.length → -1 ≤ upF U (k : Int) ∧ upF U (k : Int) < (B.length : Int)) :
    Calls Tryd.prog 75 #[.agg #[v, v2], .int .i64 (i : Int), .int .i64 (t : Int)] w (TreePost (remB B (i : Int)) (remU U (i : Int) (t : Int)) w) := by
  have HX := hid (fun w' (h : Below w.heap.size w w') => hx.below h)
  have HY := hid (fun w' (h : Below w.heap.size w w') => hy.below h)
  obtain ⟨b, off, c, rfl, hbl⟩ := hx.form (by omega)
  obtain ⟨b2, off2, c2, rfl, hbl2, hcs2⟩ := hy.form (by omega)
  have b0 := ((Box2.new w 33 (.slice (some ⟨b, off, none⟩) B.length c) (.slice (some ⟨b2, off2, none⟩) U.length c2)).alloc (.cells #[.slice none 0 0, .slice none 0 0] 33)).alloc (.cells #[.slice none 0 0, .slice none 0 0] 33)
  have b1 := (Box2.new (w.alloc (.cells #[.slice (some ⟨b, off, none⟩) B.length c, .slice (some ⟨b2, off2, none⟩) U.length c2] 33)) 33 (.slice none 0 0) (.slice none 0 0)).alloc (.cells #[.slice none 0 0, .slice none 0 0] 33)
  have b3 := Box2.new ((w.alloc (.cells #[.slice (some ⟨b, off, none⟩) B.length c, .slice (some ⟨b2, off2, none⟩) U.length c2] 33)).alloc (.cells #[.slice none 0 0, .slice none 0 0] 33)) 33 (.slice none 0 0) (.slice none 0 0)
  rw [World.size_alloc] at b1
  rw [World.size_alloc, World.size_alloc] at b3
  have hm0 : RmMem w (((w.alloc (.cells #[.slice (some ⟨b, off, none⟩) B.length c, .slice (some ⟨b2, off2, none⟩) U.length c2] 33)).alloc (.cells #[.slice none 0 0, .slice none 0 0] 33)).alloc (.cells #[.slice none 0 0, .slice none 0 0] 33)) w.heap.size (.slice (some ⟨b, off, none⟩) B.length c) (.slice (some ⟨b2, off2, none⟩) U.length c2) (.slice none 0 0) (.slice none 0 0) [] [] :=
    ⟨Nat.le_refl _, b0, b1, b3, OwnSets.nil _ _, OwnInts.nil _ _, (((Below.refl _ w).alloc (Nat.le_refl _) _).alloc (by simp) _).alloc (by simp; omega) _, by simp⟩
  have HM0 := hid hm0
  have HLEN := hid hlen
  have HR := hid hr
  have HIT := hid hit
  clear b0 b1 b3 hm0 hx hy hr hcs2 hlen hbl hbl2
  go_enter Tryd.func75, Tryd.ntmps75
  go_wp2_with fail
  generalize ((w.alloc (.cells #[.slice (some ⟨b, off, none⟩) B.length c, .slice (some ⟨b2, off2, none⟩) U.length c2] 33)).alloc (.cells #[.slice none 0 0, .slice none 0 0] 33)).alloc (.cells #[.slice none 0 0, .slice none 0 0] 33) = w1 at *
  obtain ⟨n, hn⟩ : ∃ n, n = w.heap.size := ⟨_, rfl⟩
  rw [← hn] at HM0 ⊢
  rw [show n + 1 + 1 = n + 2 from rfl]
  clear hn
  go_loopw [8] (fun z wr => ∃ (k : Nat) (vB vU : Value), k ≤ B.length ∧ z = .int .i64 k ∧ Hid (RmMem w wr n (.slice (some ⟨b, off, none⟩) B.length c) (.slice (some ⟨b2, off2, none⟩) U.length c2) vB vU ((B.take k).eraseIdx i) (((movedU U (i : Int) (t : Int)).take k).eraseIdx i))) (fun z _ => B.length - (intOf z).toNat)
  case atStart => exact ⟨0, _, _, Nat.zero_le _, rfl, HM0.out⟩
  case round =>
    clear HM0
    obtain ⟨k, vB, vU, hk, rfl, hm⟩ := hrel
    obtain ⟨c0, c1, _, _⟩ := hm.out.av.cells
    by_cases hkl : k < B.length
    · obtain ⟨b2', off2', cq, eq, hbl2, hcs⟩ := (HY.out _ hm.out.low).form (by rw [HLEN.out]; omega)
      injection eq with e1 _ e2
      injection e1 with e1; injection e1 with e3 e4 _
      subst e3; subst e4; subst e2
      have hku : k < U.length := by rw [HLEN.out]; exact hkl
      have hiu : i < U.length := by rw [HLEN.out]; exact hi
      have ck := hcs k hku
      have ci := hcs i hiu
      rw [← upF_nat U k hku] at ck
      rw [← upF_nat U i hiu] at ci
      have hrk := HR.out k hkl
      have hri := HR.out i hi
      have HSTU := hid (erase_take_step (movedU U (i : Int) (t : Int)) i k (by rw [movedU_length]; exact hku))
      rw [movedU_get U (i : Int) (t : Int) k hku] at HSTU
      have HSTB := hid (erase_take_step B i k hkl)
      obtain ⟨s, hs, q0, q1⟩ := (HX.out _ hm.out.low).get k hkl
      rw [hs] at HSTB
      have hul : U.length = B.length := HLEN.out
      have zk : (0 : Int) ≤ (k : Int) ∧ (k : Int) < (U.length : Int) := by omega
      have zkB : (0 : Int) ≤ (k : Int) ∧ (k : Int) < (B.length : Int) := by omega
      have zi : (0 : Int) ≤ (i : Int) ∧ (i : Int) < (U.length : Int) := by omega
      have HTI := hid (show ((t : Int) == (i : Int)) = false from by have := HIT.out; simp; omega)
      clear hul hcs hs
      by_cases hui : upF U (k : Int) = (i : Int)
      · have zui : (upF U (k : Int) == (i : Int)) = true := by rw [hui]; simp
        by_cases hkt : k = t
        · have zkt : ((k : Int) == (t : Int)) = true := by rw [hkt]; simp
          have zkt2 : ((k : Int) != (t : Int)) = false := by rw [hkt]; simp
          have HV := hid (show upOld U (i : Int) (t : Int) (k : Int) = upF U (i : Int) from by unfold Go.Proofs.YtmlecpapoeodkaaDoor.upOld; rw [if_pos hui, if_pos (by omega)])
          generalize upF U (k : Int) = u at *
          generalize upF U (i : Int) = ui at *
          clear hui hkt
          by_cases hki : k = i
          · have zki : ((k : Int) == (i : Int)) = true := by rw [hki]; simp
            have HN := hid (show RmMem w wr n (.slice (some ⟨b, off, none⟩) B.length c) (.slice (some ⟨b2, off2, none⟩) U.length c2) vB vU ((B.take (k + 1)).eraseIdx i) (((movedU U (i : Int) (t : Int)).take (k + 1)).eraseIdx i) from by
              have h1 := HSTB.out; have h2 := HSTU.out
              rw [if_pos hki] at h1 h2
              rw [h1, h2]; exact hm.out)
            clear hki
            go_wp2_with fail
            go_roundw
            case rel => exact ⟨k + 1, _, _, by omega, by go_num, HN.out⟩
            case measure => simp [intOf]; omega
          · have zki : ((k : Int) == (i : Int)) = false := by simp; omega
            have HKI := hid hki
            clear hki
            by_cases hgt : (i : Int) < ui
            · have hz : 0 ≤ ui := by omega
              have HD := hid (show down1 (i : Int) (upOld U (i : Int) (t : Int) (k : Int)) = (ui - 1) from by rw [HV.out]; unfold down1; rw [if_pos hgt])
              have BB : Hid (Box2 wr.drew (n + 2) 33 vB vU) := hm.out.dv
              have BA : Hid (Box2 wr.drew n 33 (.slice (some ⟨b, off, none⟩) B.length c) (.slice (some ⟨b2, off2, none⟩) U.length c2)) := hm.out.av
              have RS : Hid (wr.drew.cell? ⟨b, off + k * 2, none⟩ = some (.int .u64 ((lw s).toNat : Int)) ∧ wr.drew.cell? ⟨b, off + k * 2 + 1, none⟩ = some (.int .u64 ((hw s).toNat : Int))) := ⟨q0, q1⟩
              have QS := RS
              have hbl3 : ((B.take k).eraseIdx i).length ≤ 1000 := by rw [List.length_eraseIdx]; simp only [List.length_take]; split <;> omega
              clear q0 q1
              go_wp2_with fail
              refine Go.Proofs.YtmlecpapoeodkaaDoor.wp_region_L 11 8 (fun w' => Box2 w' (n + 2) 33 (vB) (vU) ∧ Box2 w' (n) 33 (.slice (some ⟨b, off, none⟩) B.length c) (.slice (some ⟨b2, off2, none⟩) U.length c2) ∧ (w'.cell? ⟨b, off + k * 2, none⟩ = some (.int .u64 ((lw (s)).toNat : Int)) ∧ w'.cell? ⟨b, off + k * 2 + 1, none⟩ = some (.int .u64 ((hw (s)).toNat : Int)))) (by kernel_rfl) rfl ⟨BB.out, BA.out, RS.out⟩ (fun _ => ?_)
              refine wpAnyL_pure (i := 0) (v := .pointer (some ⟨n + 2, 0, none⟩)) (by simp only [List.getElem?_toArray, List.getElem?_cons_zero] <;> rfl) (by kernel_rfl) (by kernel_rfl) (by kernel_rfl) (by exact fun _ _ _ h => h) (by decide) (.inr ⟨BB.out, BA.out, RS.out⟩) (Or.inl ⟨by rfl, fun w _ => (by simp [execOp, go_sem, Act.eval])⟩) (fun _ => ?_)
              simp only [Act.put, List.setIfInBounds_toArray, List.set_cons_zero, List.set_cons_succ]
              refine wpAnyL_load2 (i := 1) (v := vB) (by simp only [List.getElem?_toArray, List.getElem?_cons_zero, List.getElem?_cons_succ] <;> rfl) (by kernel_rfl) (by kernel_rfl) (by kernel_rfl) (by exact fun _ _ _ h => h) (by decide) (Waits.one rfl ⟨⟨1, .data⟩, by simp, rfl, rfl⟩) (by kernel_rfl) (by kernel_rfl) (.inr ⟨BB.out, BA.out, RS.out⟩) (Or.inl ⟨by rfl, fun w hw => (by obtain ⟨x0, _, _⟩ := hw; simp [execOp, go_sem, Act.eval, x0.cells.1])⟩) (fun _ => ?_)
              simp only [Act.put, List.setIfInBounds_toArray, List.set_cons_zero, List.set_cons_succ]
              refine wpAnyL_pure (i := 2) (v := .pointer (some ⟨n, 0, none⟩)) (by simp only [List.getElem?_toArray, List.getElem?_cons_zero, List.getElem?_cons_succ] <;> rfl) (by kernel_rfl) (by kernel_rfl) (by kernel_rfl) (by exact fun _ _ _ h => h) (by decide) (.inr ⟨BB.out, BA.out, RS.out⟩) (Or.inl ⟨by rfl, fun w _ => (by simp [execOp, go_sem, Act.eval])⟩) (fun _ => ?_)
              simp only [Act.put, List.setIfInBounds_toArray, List.set_cons_zero, List.set_cons_succ]
              refine wpAnyL_load2 (i := 3) (v := .slice (some ⟨b, off, none⟩) B.length c) (by simp only [List.getElem?_toArray, List.getElem?_cons_zero, List.getElem?_cons_succ] <;> rfl) (by kernel_rfl) (by kernel_rfl) (by kernel_rfl) (by exact fun _ _ _ h => h) (by decide) (Waits.more (j := 7) rfl ⟨⟨7, .data⟩, by simp, rfl, rfl⟩ (Waits.more (j := 6) rfl ⟨⟨6, .data⟩, by simp, rfl, rfl⟩ (Waits.more (j := 5) rfl ⟨⟨5, .data⟩, by simp, rfl, rfl⟩ (Waits.one rfl ⟨⟨3, .data⟩, by simp, rfl, rfl⟩)))) (by kernel_rfl) (by kernel_rfl) (.inr ⟨BB.out, BA.out, RS.out⟩) (Or.inl ⟨by rfl, fun w hw => (by obtain ⟨_, x1, _⟩ := hw; simp [execOp, go_sem, Act.eval, x1.cells.1])⟩) (fun _ => ?_)
              simp only [Act.put, List.setIfInBounds_toArray, List.set_cons_zero, List.set_cons_succ]
              refine wpAnyL_pure (i := 4) (v := .int .i64 (k : Int)) (by simp only [List.getElem?_toArray, List.getElem?_cons_zero, List.getElem?_cons_succ] <;> rfl) (by kernel_rfl) (by kernel_rfl) (by kernel_rfl) (by exact fun _ _ _ h => h) (by decide) (.inr ⟨BB.out, BA.out, RS.out⟩) (Or.inl ⟨by rfl, fun w _ => (by simp [execOp, go_sem, Act.eval])⟩) (fun _ => ?_)
              simp only [Act.put, List.setIfInBounds_toArray, List.set_cons_zero, List.set_cons_succ]
              refine wpAnyL_pure (i := 5) (v := .pointer (some ⟨b, off + k * 2, none⟩)) (by simp only [List.getElem?_toArray, List.getElem?_cons_zero, List.getElem?_cons_succ] <;> rfl) (by kernel_rfl) (by kernel_rfl) (by kernel_rfl) (by exact fun _ _ _ h => h) (by decide) (.inr ⟨BB.out, BA.out, RS.out⟩) (Or.inl ⟨by rfl, fun w _ => (by simp [execOp, go_sem, Act.eval, zkB])⟩) (fun _ => ?_)
              simp only [Act.put, List.setIfInBounds_toArray, List.set_cons_zero, List.set_cons_succ]
              refine wpAnyL_load2 (i := 6) (v := encS (s)) (by simp only [List.getElem?_toArray, List.getElem?_cons_zero, List.getElem?_cons_succ] <;> rfl) (by kernel_rfl) (by kernel_rfl) (by kernel_rfl) (by exact fun _ _ _ h => h) (by decide) (Waits.more (j := 7) rfl ⟨⟨7, .data⟩, by simp, rfl, rfl⟩ (Waits.one rfl ⟨⟨6, .data⟩, by simp, rfl, rfl⟩)) (by kernel_rfl) (by kernel_rfl) (.inr ⟨BB.out, BA.out, RS.out⟩) (Or.inl ⟨by rfl, fun w hw => (by obtain ⟨_, _, ⟨y2, z2⟩⟩ := hw; simp [execOp, go_sem, Act.eval, y2, z2])⟩) (fun _ => ?_)
              simp only [Act.put, List.setIfInBounds_toArray, List.set_cons_zero, List.set_cons_succ]
              have HM6 := hid ((hm.out.below ((Below.refl _ wr).drew)).below ((Below.refl _ wr.drew).alloc (Nat.le_refl _) (.cells #[.int .u64 ((lw s).toNat : Int), .int .u64 ((hw s).toNat : Int)] 32)))
              have FK0 : Hid (Box2 (wr.drew.alloc (.cells #[.int .u64 ((lw s).toNat : Int), .int .u64 ((hw s).toNat : Int)] 32)) (n + 2) 33 (vB) (vU)) := HM6.out.dv
              have FK1 : Hid (Box2 (wr.drew.alloc (.cells #[.int .u64 ((lw s).toNat : Int), .int .u64 ((hw s).toNat : Int)] 32)) (n) 33 (.slice (some ⟨b, off, none⟩) B.length c) (.slice (some ⟨b2, off2, none⟩) U.length c2)) := HM6.out.av
              have FK2 : Hid (((wr.drew.alloc (.cells #[.int .u64 ((lw s).toNat : Int), .int .u64 ((hw s).toNat : Int)] 32)).cell? ⟨b, off + k * 2, none⟩ = some (.int .u64 ((lw (s)).toNat : Int)) ∧ (wr.drew.alloc (.cells #[.int .u64 ((lw s).toNat : Int), .int .u64 ((hw s).toNat : Int)] 32)).cell? ⟨b, off + k * 2 + 1, none⟩ = some (.int .u64 ((hw (s)).toNat : Int)))) := ⟨(((Below.refl _ wr.drew).alloc (Nat.le_refl _) (.cells #[.int .u64 ((lw s).toNat : Int), .int .u64 ((hw s).toNat : Int)] 32)).cell (cell_lt QS.out.1)).trans QS.out.1, (((Below.refl _ wr.drew).alloc (Nat.le_refl _) (.cells #[.int .u64 ((lw s).toNat : Int), .int .u64 ((hw s).toNat : Int)] 32)).cell (cell_lt QS.out.2)).trans QS.out.2⟩
              refine wpAnyL_one (i := 7) (by kernel_rfl) (by simp only [List.getElem?_toArray, List.getElem?_cons_zero, List.getElem?_cons_succ] <;> rfl) (by rfl) ?_
              refine opwp_value (v := .slice (some ⟨wr.drew.heap.size, 0, none⟩) 1 1) (w' := (wr.drew.alloc (.cells #[.int .u64 ((lw s).toNat : Int), .int .u64 ((hw s).toNat : Int)] 32))) (by simp [execOp, go_sem, Act.eval]) ⟨.inr ⟨FK0.out, FK1.out, FK2.out⟩, ?_⟩
              simp only [Act.put, List.setIfInBounds_toArray, List.set_cons_zero, List.set_cons_succ]
              refine wpAnyL_one (i := 8) (by kernel_rfl) (by simp only [List.getElem?_toArray, List.getElem?_cons_zero, List.getElem?_cons_succ] <;> rfl) (by rfl) ?_
              refine opwp_append_S _ _ rfl (n + 3) vB _ rfl HM6.out.own _ [s] rfl (one_set wr.drew s) (by show _ + 1 ≤ 16777216; omega) HM6.out.sz ?_
              intro vB2 w7 hown7 hg7 _
              have DV7 := hid (FK0.out.kept hg7 (fun e => by have := (HM6.out.own.lt _ e.symm).1; omega))
              obtain ⟨p7, c7, e7, _⟩ := hown7.sets
              subst e7
              refine ⟨.inl (by kernel_rfl), ?_⟩
              simp only [Act.put, List.setIfInBounds_toArray, List.set_cons_zero, List.set_cons_succ]
              refine wpAnyL_pure (i := 9) (v := .pointer (some ⟨n + 2, 0, none⟩)) (by simp only [List.getElem?_toArray, List.getElem?_cons_zero, List.getElem?_cons_succ] <;> rfl) (by kernel_rfl) (by kernel_rfl) (by kernel_rfl) (by exact fun _ _ _ h => h) (by decide) (.inl (by kernel_rfl)) (Or.inl ⟨by rfl, fun w _ => (by simp [execOp, go_sem, Act.eval])⟩) (fun _ => ?_)
              simp only [Act.put, List.setIfInBounds_toArray, List.set_cons_zero, List.set_cons_succ]
              obtain ⟨y0, _, y2, _⟩ := DV7.out.cells
              refine wpAnyL_one (i := 10) (by kernel_rfl) (by simp only [List.getElem?_toArray, List.getElem?_cons_zero, List.getElem?_cons_succ] <;> rfl) (by rfl) ?_
              refine opwp_skip (w' := (w7.setCell ⟨n + 2, 0, none⟩ (.slice p7 ((B.take k).eraseIdx i ++ [s]).length c7))) (by simp [execOp, go_sem, Act.eval, y0, y2]) ⟨.inl (by kernel_rfl), ?_⟩
              simp only [Act.put]
              refine wpAnyL_done (by kernel_rfl) ?_ _
              have HM7 := hid (HM6.out.bags hg7 hown7)
              generalize w7.setCell ⟨n + 2, 0, none⟩ (.slice p7 ((B.take k).eraseIdx i ++ [s]).length c7) = w8 at *
              have hna := (Below.refl _ w8).alloc (Nat.le_refl _) (.cells #[.int .i64 (ui - 1)] 3)
              have HMA := hid (HM7.out.below hna)
              have HON := hid (one_int w8 (ui - 1) 3)
              obtain ⟨d0, d1, _, _⟩ := HM7.out.dv.cells
              obtain ⟨d0a, d1a, f0a, f1a⟩ := HMA.out.dv.cells
              have hul2 : (((movedU U (i : Int) (t : Int)).take k).eraseIdx i).length ≤ 1000 := by rw [List.length_eraseIdx]; simp only [List.length_take, movedU_length]; split <;> omega
              clear hna y0 y2 hg7 hown7 HM6 DV7 FK0 FK1 FK2 BB BA RS QS
              go_wp2_with (at_builtin; refine wpList_append_I rfl _ _ rfl (n + 3) vU _ rfl HMA.out.ownU _ [(ui - 1)] rfl HON.out (by show _ + 1 ≤ 16777216; omega) HMA.out.sz ?_; intro vU2 w12 hown2 hg2 _; have dv2 := HMA.out.dv.kept hg2 (fun e => by have := (HMA.out.ownU.lt _ e.symm).1; omega); obtain ⟨y0, y1, y2, y3⟩ := dv2.cells; obtain ⟨p12, c12, e12, _⟩ := hown2.ints; subst e12)
              have HM12 := HMA.out.ups hg2 hown2
              simp only [List.length_append, List.length_cons, List.length_nil, Nat.zero_add] at HM12
              have h1 := HSTB.out; have h2 := HSTU.out
              rw [if_neg HKI.out] at h1 h2
              rw [HD.out] at h2
              have HX2 := hid (show RmMem w _ n _ _ _ _ ((B.take (k + 1)).eraseIdx i) (((movedU U (i : Int) (t : Int)).take (k + 1)).eraseIdx i) from by rw [h1, h2]; exact HM12)
              clear HM12 hown2 hg2 dv2 y0 y1 y2 y3 d0 d1 d0a d1a f0a f1a h1 h2
              go_roundw
              case rel => exact ⟨k + 1, _, _, by omega, by go_num, HX2.out⟩
              case measure => simp [intOf]; omega
            · have hz : ¬ (i : Int) < ui := hgt
              have HD := hid (show down1 (i : Int) (upOld U (i : Int) (t : Int) (k : Int)) = (ui) from by rw [HV.out]; unfold down1; rw [if_neg hgt])
              have BB : Hid (Box2 wr.drew (n + 2) 33 vB vU) := hm.out.dv
              have BA : Hid (Box2 wr.drew n 33 (.slice (some ⟨b, off, none⟩) B.length c) (.slice (some ⟨b2, off2, none⟩) U.length c2)) := hm.out.av
              have RS : Hid (wr.drew.cell? ⟨b, off + k * 2, none⟩ = some (.int .u64 ((lw s).toNat : Int)) ∧ wr.drew.cell? ⟨b, off + k * 2 + 1, none⟩ = some (.int .u64 ((hw s).toNat : Int))) := ⟨q0, q1⟩
              have QS := RS
              have hbl3 : ((B.take k).eraseIdx i).length ≤ 1000 := by rw [List.length_eraseIdx]; simp only [List.length_take]; split <;> omega
              clear q0 q1
              go_wp2_with fail
              refine Go.Proofs.YtmlecpapoeodkaaDoor.wp_region_L 11 8 (fun w' => Box2 w' (n + 2) 33 (vB) (vU) ∧ Box2 w' (n) 33 (.slice (some ⟨b, off, none⟩) B.length c) (.slice (some ⟨b2, off2, none⟩) U.length c2) ∧ (w'.cell? ⟨b, off + k * 2, none⟩ = some (.int .u64 ((lw (s)).toNat : Int)) ∧ w'.cell? ⟨b, off + k * 2 + 1, none⟩ = some (.int .u64 ((hw (s)).toNat : Int)))) (by kernel_rfl) rfl ⟨BB.out, BA.out, RS.out⟩ (fun _ => ?_)
              refine wpAnyL_pure (i := 0) (v := .pointer (some ⟨n + 2, 0, none⟩)) (by simp only [List.getElem?_toArray, List.getElem?_cons_zero] <;> rfl) (by kernel_rfl) (by kernel_rfl) (by kernel_rfl) (by exact fun _ _ _ h => h) (by decide) (.inr ⟨BB.out, BA.out, RS.out⟩) (Or.inl ⟨by rfl, fun w _ => (by simp [execOp, go_sem, Act.eval])⟩) (fun _ => ?_)
              simp only [Act.put, List.setIfInBounds_toArray, List.set_cons_zero, List.set_cons_succ]
              refine wpAnyL_load2 (i := 1) (v := vB) (by simp only [List.getElem?_toArray, List.getElem?_cons_zero, List.getElem?_cons_succ] <;> rfl) (by kernel_rfl) (by kernel_rfl) (by kernel_rfl) (by exact fun _ _ _ h => h) (by decide) (Waits.one rfl ⟨⟨1, .data⟩, by simp, rfl, rfl⟩) (by kernel_rfl) (by kernel_rfl) (.inr ⟨BB.out, BA.out, RS.out⟩) (Or.inl ⟨by rfl, fun w hw => (by obtain ⟨x0, _, _⟩ := hw; simp [execOp, go_sem, Act.eval, x0.cells.1])⟩) (fun _ => ?_)
              simp only [Act.put, List.setIfInBounds_toArray, List.set_cons_zero, List.set_cons_succ]
              refine wpAnyL_pure (i := 2) (v := .pointer (some ⟨n, 0, none⟩)) (by simp only [List.getElem?_toArray, List.getElem?_cons_zero, List.getElem?_cons_succ] <;> rfl) (by kernel_rfl) (by kernel_rfl) (by kernel_rfl) (by exact fun _ _ _ h => h) (by decide) (.inr ⟨BB.out, BA.out, RS.out⟩) (Or.inl ⟨by rfl, fun w _ => (by simp [execOp, go_sem, Act.eval])⟩) (fun _ => ?_)
              simp only [Act.put, List.setIfInBounds_toArray, List.set_cons_zero, List.set_cons_succ]
              refine wpAnyL_load2 (i := 3) (v := .slice (some ⟨b, off, none⟩) B.length c) (by simp only [List.getElem?_toArray, List.getElem?_cons_zero, List.getElem?_cons_succ] <;> rfl) (by kernel_rfl) (by kernel_rfl) (by kernel_rfl) (by exact fun _ _ _ h => h) (by decide) (Waits.more (j := 7) rfl ⟨⟨7, .data⟩, by simp, rfl, rfl⟩ (Waits.more (j := 6) rfl ⟨⟨6, .data⟩, by simp, rfl, rfl⟩ (Waits.more (j := 5) rfl ⟨⟨5, .data⟩, by simp, rfl, rfl⟩ (Waits.one rfl ⟨⟨3, .data⟩, by simp, rfl, rfl⟩)))) (by kernel_rfl) (by kernel_rfl) (.inr ⟨BB.out, BA.out, RS.out⟩) (Or.inl ⟨by rfl, fun w hw => (by obtain ⟨_, x1, _⟩ := hw; simp [execOp, go_sem, Act.eval, x1.cells.1])⟩) (fun _ => ?_)
              simp only [Act.put, List.setIfInBounds_toArray, List.set_cons_zero, List.set_cons_succ]
              refine wpAnyL_pure (i := 4) (v := .int .i64 (k : Int)) (by simp only [List.getElem?_toArray, List.getElem?_cons_zero, List.getElem?_cons_succ] <;> rfl) (by kernel_rfl) (by kernel_rfl) (by kernel_rfl) (by exact fun _ _ _ h => h) (by decide) (.inr ⟨BB.out, BA.out, RS.out⟩) (Or.inl ⟨by rfl, fun w _ => (by simp [execOp, go_sem, Act.eval])⟩) (fun _ => ?_)
              simp only [Act.put, List.setIfInBounds_toArray, List.set_cons_zero, List.set_cons_succ]
              refine wpAnyL_pure (i := 5) (v := .pointer (some ⟨b, off + k * 2, none⟩)) (by simp only [List.getElem?_toArray, List.getElem?_cons_zero, List.getElem?_cons_succ] <;> rfl) (by kernel_rfl) (by kernel_rfl) (by kernel_rfl) (by exact fun _ _ _ h => h) (by decide) (.inr ⟨BB.out, BA.out, RS.out⟩) (Or.inl ⟨by rfl, fun w _ => (by simp [execOp, go_sem, Act.eval, zkB])⟩) (fun _ => ?_)
              simp only [Act.put, List.setIfInBounds_toArray, List.set_cons_zero, List.set_cons_succ]
              refine wpAnyL_load2 (i := 6) (v := encS (s)) (by simp only [List.getElem?_toArray, List.getElem?_cons_zero, List.getElem?_cons_succ] <;> rfl) (by kernel_rfl) (by kernel_rfl) (by kernel_rfl) (by exact fun _ _ _ h => h) (by decide) (Waits.more (j := 7) rfl ⟨⟨7, .data⟩, by simp, rfl, rfl⟩ (Waits.one rfl ⟨⟨6, .data⟩, by simp, rfl, rfl⟩)) (by kernel_rfl) (by kernel_rfl) (.inr ⟨BB.out, BA.out, RS.out⟩) (Or.inl ⟨by rfl, fun w hw => (by obtain ⟨_, _, ⟨y2, z2⟩⟩ := hw; simp [execOp, go_sem, Act.eval, y2, z2])⟩) (fun _ => ?_)
              simp only [Act.put, List.setIfInBounds_toArray, List.set_cons_zero, List.set_cons_succ]
              have HM6 := hid ((hm.out.below ((Below.refl _ wr).drew)).below ((Below.refl _ wr.drew).alloc (Nat.le_refl _) (.cells #[.int .u64 ((lw s).toNat : Int), .int .u64 ((hw s).toNat : Int)] 32)))
              have FK0 : Hid (Box2 (wr.drew.alloc (.cells #[.int .u64 ((lw s).toNat : Int), .int .u64 ((hw s).toNat : Int)] 32)) (n + 2) 33 (vB) (vU)) := HM6.out.dv
              have FK1 : Hid (Box2 (wr.drew.alloc (.cells #[.int .u64 ((lw s).toNat : Int), .int .u64 ((hw s).toNat : Int)] 32)) (n) 33 (.slice (some ⟨b, off, none⟩) B.length c) (.slice (some ⟨b2, off2, none⟩) U.length c2)) := HM6.out.av
              have FK2 : Hid (((wr.drew.alloc (.cells #[.int .u64 ((lw s).toNat : Int), .int .u64 ((hw s).toNat : Int)] 32)).cell? ⟨b, off + k * 2, none⟩ = some (.int .u64 ((lw (s)).toNat : Int)) ∧ (wr.drew.alloc (.cells #[.int .u64 ((lw s).toNat : Int), .int .u64 ((hw s).toNat : Int)] 32)).cell? ⟨b, off + k * 2 + 1, none⟩ = some (.int .u64 ((hw (s)).toNat : Int)))) := ⟨(((Below.refl _ wr.drew).alloc (Nat.le_refl _) (.cells #[.int .u64 ((lw s).toNat : Int), .int .u64 ((hw s).toNat : Int)] 32)).cell (cell_lt QS.out.1)).trans QS.out.1, (((Below.refl _ wr.drew).alloc (Nat.le_refl _) (.cells #[.int .u64 ((lw s).toNat : Int), .int .u64 ((hw s).toNat : Int)] 32)).cell (cell_lt QS.out.2)).trans QS.out.2⟩
              refine wpAnyL_one (i := 7) (by kernel_rfl) (by simp only [List.getElem?_toArray, List.getElem?_cons_zero, List.getElem?_cons_succ] <;> rfl) (by rfl) ?_
              refine opwp_value (v := .slice (some ⟨wr.drew.heap.size, 0, none⟩) 1 1) (w' := (wr.drew.alloc (.cells #[.int .u64 ((lw s).toNat : Int), .int .u64 ((hw s).toNat : Int)] 32))) (by simp [execOp, go_sem, Act.eval]) ⟨.inr ⟨FK0.out, FK1.out, FK2.out⟩, ?_⟩
              simp only [Act.put, List.setIfInBounds_toArray, List.set_cons_zero, List.set_cons_succ]
              refine wpAnyL_one (i := 8) (by kernel_rfl) (by simp only [List.getElem?_toArray, List.getElem?_cons_zero, List.getElem?_cons_succ] <;> rfl) (by rfl) ?_
              refine opwp_append_S _ _ rfl (n + 3) vB _ rfl HM6.out.own _ [s] rfl (one_set wr.drew s) (by show _ + 1 ≤ 16777216; omega) HM6.out.sz ?_
              intro vB2 w7 hown7 hg7 _
              have DV7 := hid (FK0.out.kept hg7 (fun e => by have := (HM6.out.own.lt _ e.symm).1; omega))
              obtain ⟨p7, c7, e7, _⟩ := hown7.sets
              subst e7
              refine ⟨.inl (by kernel_rfl), ?_⟩
              simp only [Act.put, List.setIfInBounds_toArray, List.set_cons_zero, List.set_cons_succ]
              refine wpAnyL_pure (i := 9) (v := .pointer (some ⟨n + 2, 0, none⟩)) (by simp only [List.getElem?_toArray, List.getElem?_cons_zero, List.getElem?_cons_succ] <;> rfl) (by kernel_rfl) (by kernel_rfl) (by kernel_rfl) (by exact fun _ _ _ h => h) (by decide) (.inl (by kernel_rfl)) (Or.inl ⟨by rfl, fun w _ => (by simp [execOp, go_sem, Act.eval])⟩) (fun _ => ?_)
              simp only [Act.put, List.setIfInBounds_toArray, List.set_cons_zero, List.set_cons_succ]
              obtain ⟨y0, _, y2, _⟩ := DV7.out.cells
              refine wpAnyL_one (i := 10) (by kernel_rfl) (by simp only [List.getElem?_toArray, List.getElem?_cons_zero, List.getElem?_cons_succ] <;> rfl) (by rfl) ?_
              refine opwp_skip (w' := (w7.setCell ⟨n + 2, 0, none⟩ (.slice p7 ((B.take k).eraseIdx i ++ [s]).length c7))) (by simp [execOp, go_sem, Act.eval, y0, y2]) ⟨.inl (by kernel_rfl), ?_⟩
              simp only [Act.put]
              refine wpAnyL_done (by kernel_rfl) ?_ _
              have HM7 := hid (HM6.out.bags hg7 hown7)
              generalize w7.setCell ⟨n + 2, 0, none⟩ (.slice p7 ((B.take k).eraseIdx i ++ [s]).length c7) = w8 at *
              have hna := (Below.refl _ w8).alloc (Nat.le_refl _) (.cells #[.int .i64 (ui)] 3)
              have HMA := hid (HM7.out.below hna)
              have HON := hid (one_int w8 (ui) 3)
              obtain ⟨d0, d1, _, _⟩ := HM7.out.dv.cells
              obtain ⟨d0a, d1a, f0a, f1a⟩ := HMA.out.dv.cells
              have hul2 : (((movedU U (i : Int) (t : Int)).take k).eraseIdx i).length ≤ 1000 := by rw [List.length_eraseIdx]; simp only [List.length_take, movedU_length]; split <;> omega
              clear hna y0 y2 hg7 hown7 HM6 DV7 FK0 FK1 FK2 BB BA RS QS
              go_wp2_with (at_builtin; refine wpList_append_I rfl _ _ rfl (n + 3) vU _ rfl HMA.out.ownU _ [(ui)] rfl HON.out (by show _ + 1 ≤ 16777216; omega) HMA.out.sz ?_; intro vU2 w12 hown2 hg2 _; have dv2 := HMA.out.dv.kept hg2 (fun e => by have := (HMA.out.ownU.lt _ e.symm).1; omega); obtain ⟨y0, y1, y2, y3⟩ := dv2.cells; obtain ⟨p12, c12, e12, _⟩ := hown2.ints; subst e12)
              have HM12 := HMA.out.ups hg2 hown2
              simp only [List.length_append, List.length_cons, List.length_nil, Nat.zero_add] at HM12
              have h1 := HSTB.out; have h2 := HSTU.out
              rw [if_neg HKI.out] at h1 h2
              rw [HD.out] at h2
              have HX2 := hid (show RmMem w _ n _ _ _ _ ((B.take (k + 1)).eraseIdx i) (((movedU U (i : Int) (t : Int)).take (k + 1)).eraseIdx i) from by rw [h1, h2]; exact HM12)
              clear HM12 hown2 hg2 dv2 y0 y1 y2 y3 d0 d1 d0a d1a f0a f1a h1 h2
              go_roundw
              case rel => exact ⟨k + 1, _, _, by omega, by go_num, HX2.out⟩
              case measure => simp [intOf]; omega
        · have zkt : ((k : Int) == (t : Int)) = false := by simp; omega
          have zkt2 : ((k : Int) != (t : Int)) = true := by simp; omega
          have HV := hid (show upOld U (i : Int) (t : Int) (k : Int) = (t : Int) from by unfold Go.Proofs.YtmlecpapoeodkaaDoor.upOld; rw [if_pos hui, if_neg (by omega)])
          have hti := HTI.out
          generalize upF U (k : Int) = u at *
          generalize upF U (i : Int) = ui at *
          clear hui hkt
          by_cases hki : k = i
          · have zki : ((k : Int) == (i : Int)) = true := by rw [hki]; simp
            have HN := hid (show RmMem w wr n (.slice (some ⟨b, off, none⟩) B.length c) (.slice (some ⟨b2, off2, none⟩) U.length c2) vB vU ((B.take (k + 1)).eraseIdx i) (((movedU U (i : Int) (t : Int)).take (k + 1)).eraseIdx i) from by
              have h1 := HSTB.out; have h2 := HSTU.out
              rw [if_pos hki] at h1 h2
              rw [h1, h2]; exact hm.out)
            clear hki
            go_wp2_with fail
            go_roundw
            case rel => exact ⟨k + 1, _, _, by omega, by go_num, HN.out⟩
            case measure => simp [intOf]; omega
          · have zki : ((k : Int) == (i : Int)) = false := by simp; omega
            have HKI := hid hki
            clear hki
            by_cases hgt : (i : Int) < (t : Int)
            · have hz : 0 ≤ (t : Int) := by omega
              have HD := hid (show down1 (i : Int) (upOld U (i : Int) (t : Int) (k : Int)) = ((t : Int) - 1) from by rw [HV.out]; unfold down1; rw [if_pos hgt])
              have BB : Hid (Box2 wr.drew (n + 2) 33 vB vU) := hm.out.dv
              have BA : Hid (Box2 wr.drew n 33 (.slice (some ⟨b, off, none⟩) B.length c) (.slice (some ⟨b2, off2, none⟩) U.length c2)) := hm.out.av
              have RS : Hid (wr.drew.cell? ⟨b, off + k * 2, none⟩ = some (.int .u64 ((lw s).toNat : Int)) ∧ wr.drew.cell? ⟨b, off + k * 2 + 1, none⟩ = some (.int .u64 ((hw s).toNat : Int))) := ⟨q0, q1⟩
              have QS := RS
              have hbl3 : ((B.take k).eraseIdx i).length ≤ 1000 := by rw [List.length_eraseIdx]; simp only [List.length_take]; split <;> omega
              clear q0 q1
              go_wp2_with fail
              refine Go.Proofs.YtmlecpapoeodkaaDoor.wp_region_L 11 8 (fun w' => Box2 w' (n + 2) 33 (vB) (vU) ∧ Box2 w' (n) 33 (.slice (some ⟨b, off, none⟩) B.length c) (.slice (some ⟨b2, off2, none⟩) U.length c2) ∧ (w'.cell? ⟨b, off + k * 2, none⟩ = some (.int .u64 ((lw (s)).toNat : Int)) ∧ w'.cell? ⟨b, off + k * 2 + 1, none⟩ = some (.int .u64 ((hw (s)).toNat : Int)))) (by kernel_rfl) rfl ⟨BB.out, BA.out, RS.out⟩ (fun _ => ?_)
              refine wpAnyL_pure (i := 0) (v := .pointer (some ⟨n + 2, 0, none⟩)) (by simp only [List.getElem?_toArray, List.getElem?_cons_zero] <;> rfl) (by kernel_rfl) (by kernel_rfl) (by kernel_rfl) (by exact fun _ _ _ h => h) (by decide) (.inr ⟨BB.out, BA.out, RS.out⟩) (Or.inl ⟨by rfl, fun w _ => (by simp [execOp, go_sem, Act.eval])⟩) (fun _ => ?_)
              simp only [Act.put, List.setIfInBounds_toArray, List.set_cons_zero, List.set_cons_succ]
              refine wpAnyL_load2 (i := 1) (v := vB) (by simp only [List.getElem?_toArray, List.getElem?_cons_zero, List.getElem?_cons_succ] <;> rfl) (by kernel_rfl) (by kernel_rfl) (by kernel_rfl) (by exact fun _ _ _ h => h) (by decide) (Waits.one rfl ⟨⟨1, .data⟩, by simp, rfl, rfl⟩) (by kernel_rfl) (by kernel_rfl) (.inr ⟨BB.out, BA.out, RS.out⟩) (Or.inl ⟨by rfl, fun w hw => (by obtain ⟨x0, _, _⟩ := hw; simp [execOp, go_sem, Act.eval, x0.cells.1])⟩) (fun _ => ?_)
              simp only [Act.put, List.setIfInBounds_toArray, List.set_cons_zero, List.set_cons_succ]
              refine wpAnyL_pure (i := 2) (v := .pointer (some ⟨n, 0, none⟩)) (by simp only [List.getElem?_toArray, List.getElem?_cons_zero, List.getElem?_cons_succ] <;> rfl) (by kernel_rfl) (by kernel_rfl) (by kernel_rfl) (by exact fun _ _ _ h => h) (by decide) (.inr ⟨BB.out, BA.out, RS.out⟩) (Or.inl ⟨by rfl, fun w _ => (by simp [execOp, go_sem, Act.eval])⟩) (fun _ => ?_)
              simp only [Act.put, List.setIfInBounds_toArray, List.set_cons_zero, List.set_cons_succ]
              refine wpAnyL_load2 (i := 3) (v := .slice (some ⟨b, off, none⟩) B.length c) (by simp only [List.getElem?_toArray, List.getElem?_cons_zero, List.getElem?_cons_succ] <;> rfl) (by kernel_rfl) (by kernel_rfl) (by kernel_rfl) (by exact fun _ _ _ h => h) (by decide) (Waits.more (j := 7) rfl ⟨⟨7, .data⟩, by simp, rfl, rfl⟩ (Waits.more (j := 6) rfl ⟨⟨6, .data⟩, by simp, rfl, rfl⟩ (Waits.more (j := 5) rfl ⟨⟨5, .data⟩, by simp, rfl, rfl⟩ (Waits.one rfl ⟨⟨3, .data⟩, by simp, rfl, rfl⟩)))) (by kernel_rfl) (by kernel_rfl) (.inr ⟨BB.out, BA.out, RS.out⟩) (Or.inl ⟨by rfl, fun w hw => (by obtain ⟨_, x1, _⟩ := hw; simp [execOp, go_sem, Act.eval, x1.cells.1])⟩) (fun _ => ?_)
              simp only [Act.put, List.setIfInBounds_toArray, List.set_cons_zero, List.set_cons_succ]
              refine wpAnyL_pure (i := 4) (v := .int .i64 (k : Int)) (by simp only [List.getElem?_toArray, List.getElem?_cons_zero, List.getElem?_cons_succ] <;> rfl) (by kernel_rfl) (by kernel_rfl) (by kernel_rfl) (by exact fun _ _ _ h => h) (by decide) (.inr ⟨BB.out, BA.out, RS.out⟩) (Or.inl ⟨by rfl, fun w _ => (by simp [execOp, go_sem, Act.eval])⟩) (fun _ => ?_)
              simp only [Act.put, List.setIfInBounds_toArray, List.set_cons_zero, List.set_cons_succ]
              refine wpAnyL_pure (i := 5) (v := .pointer (some ⟨b, off + k * 2, none⟩)) (by simp only [List.getElem?_toArray, List.getElem?_cons_zero, List.getElem?_cons_succ] <;> rfl) (by kernel_rfl) (by kernel_rfl) (by kernel_rfl) (by exact fun _ _ _ h => h) (by decide) (.inr ⟨BB.out, BA.out, RS.out⟩) (Or.inl ⟨by rfl, fun w _ => (by simp [execOp, go_sem, Act.eval, zkB])⟩) (fun _ => ?_)
              simp only [Act.put, List.setIfInBounds_toArray, List.set_cons_zero, List.set_cons_succ]
              refine wpAnyL_load2 (i := 6) (v := encS (s)) (by simp only [List.getElem?_toArray, List.getElem?_cons_zero, List.getElem?_cons_succ] <;> rfl) (by kernel_rfl) (by kernel_rfl) (by kernel_rfl) (by exact fun _ _ _ h => h) (by decide) (Waits.more (j := 7) rfl ⟨⟨7, .data⟩, by simp, rfl, rfl⟩ (Waits.one rfl ⟨⟨6, .data⟩, by simp, rfl, rfl⟩)) (by kernel_rfl) (by kernel_rfl) (.inr ⟨BB.out, BA.out, RS.out⟩) (Or.inl ⟨by rfl, fun w hw => (by obtain ⟨_, _, ⟨y2, z2⟩⟩ := hw; simp [execOp, go_sem, Act.eval, y2, z2])⟩) (fun _ => ?_)
              simp only [Act.put, List.setIfInBounds_toArray, List.set_cons_zero, List.set_cons_succ]
              have HM6 := hid ((hm.out.below ((Below.refl _ wr).drew)).below ((Below.refl _ wr.drew).alloc (Nat.le_refl _) (.cells #[.int .u64 ((lw s).toNat : Int), .int .u64 ((hw s).toNat : Int)] 32)))
              have FK0 : Hid (Box2 (wr.drew.alloc (.cells #[.int .u64 ((lw s).toNat : Int), .int .u64 ((hw s).toNat : Int)] 32)) (n + 2) 33 (vB) (vU)) := HM6.out.dv
              have FK1 : Hid (Box2 (wr.drew.alloc (.cells #[.int .u64 ((lw s).toNat : Int), .int .u64 ((hw s).toNat : Int)] 32)) (n) 33 (.slice (some ⟨b, off, none⟩) B.length c) (.slice (some ⟨b2, off2, none⟩) U.length c2)) := HM6.out.av
              have FK2 : Hid (((wr.drew.alloc (.cells #[.int .u64 ((lw s).toNat : Int), .int .u64 ((hw s).toNat : Int)] 32)).cell? ⟨b, off + k * 2, none⟩ = some (.int .u64 ((lw (s)).toNat : Int)) ∧ (wr.drew.alloc (.cells #[.int .u64 ((lw s).toNat : Int), .int .u64 ((hw s).toNat : Int)] 32)).cell? ⟨b, off + k * 2 + 1, none⟩ = some (.int .u64 ((hw (s)).toNat : Int)))) := ⟨(((Below.refl _ wr.drew).alloc (Nat.le_refl _) (.cells #[.int .u64 ((lw s).toNat : Int), .int .u64 ((hw s).toNat : Int)] 32)).cell (cell_lt QS.out.1)).trans QS.out.1, (((Below.refl _ wr.drew).alloc (Nat.le_refl _) (.cells #[.int .u64 ((lw s).toNat : Int), .int .u64 ((hw s).toNat : Int)] 32)).cell (cell_lt QS.out.2)).trans QS.out.2⟩
              refine wpAnyL_one (i := 7) (by kernel_rfl) (by simp only [List.getElem?_toArray, List.getElem?_cons_zero, List.getElem?_cons_succ] <;> rfl) (by rfl) ?_
              refine opwp_value (v := .slice (some ⟨wr.drew.heap.size, 0, none⟩) 1 1) (w' := (wr.drew.alloc (.cells #[.int .u64 ((lw s).toNat : Int), .int .u64 ((hw s).toNat : Int)] 32))) (by simp [execOp, go_sem, Act.eval]) ⟨.inr ⟨FK0.out, FK1.out, FK2.out⟩, ?_⟩
              simp only [Act.put, List.setIfInBounds_toArray, List.set_cons_zero, List.set_cons_succ]
              refine wpAnyL_one (i := 8) (by kernel_rfl) (by simp only [List.getElem?_toArray, List.getElem?_cons_zero, List.getElem?_cons_succ] <;> rfl) (by rfl) ?_
              refine opwp_append_S _ _ rfl (n + 3) vB _ rfl HM6.out.own _ [s] rfl (one_set wr.drew s) (by show _ + 1 ≤ 16777216; omega) HM6.out.sz ?_
              intro vB2 w7 hown7 hg7 _
              have DV7 := hid (FK0.out.kept hg7 (fun e => by have := (HM6.out.own.lt _ e.symm).1; omega))
              obtain ⟨p7, c7, e7, _⟩ := hown7.sets
              subst e7
              refine ⟨.inl (by kernel_rfl), ?_⟩
              simp only [Act.put, List.setIfInBounds_toArray, List.set_cons_zero, List.set_cons_succ]
              refine wpAnyL_pure (i := 9) (v := .pointer (some ⟨n + 2, 0, none⟩)) (by simp only [List.getElem?_toArray, List.getElem?_cons_zero, List.getElem?_cons_succ] <;> rfl) (by kernel_rfl) (by kernel_rfl) (by kernel_rfl) (by exact fun _ _ _ h => h) (by decide) (.inl (by kernel_rfl)) (Or.inl ⟨by rfl, fun w _ => (by simp [execOp, go_sem, Act.eval])⟩) (fun _ => ?_)
              simp only [Act.put, List.setIfInBounds_toArray, List.set_cons_zero, List.set_cons_succ]
              obtain ⟨y0, _, y2, _⟩ := DV7.out.cells
              refine wpAnyL_one (i := 10) (by kernel_rfl) (by simp only [List.getElem?_toArray, List.getElem?_cons_zero, List.getElem?_cons_succ] <;> rfl) (by rfl) ?_
              refine opwp_skip (w' := (w7.setCell ⟨n + 2, 0, none⟩ (.slice p7 ((B.take k).eraseIdx i ++ [s]).length c7))) (by simp [execOp, go_sem, Act.eval, y0, y2]) ⟨.inl (by kernel_rfl), ?_⟩
              simp only [Act.put]
              refine wpAnyL_done (by kernel_rfl) ?_ _
              have HM7 := hid (HM6.out.bags hg7 hown7)
              generalize w7.setCell ⟨n + 2, 0, none⟩ (.slice p7 ((B.take k).eraseIdx i ++ [s]).length c7) = w8 at *
              have hna := (Below.refl _ w8).alloc (Nat.le_refl _) (.cells #[.int .i64 ((t : Int) - 1)] 3)
              have HMA := hid (HM7.out.below hna)
              have HON := hid (one_int w8 ((t : Int) - 1) 3)
              obtain ⟨d0, d1, _, _⟩ := HM7.out.dv.cells
              obtain ⟨d0a, d1a, f0a, f1a⟩ := HMA.out.dv.cells
              have hul2 : (((movedU U (i : Int) (t : Int)).take k).eraseIdx i).length ≤ 1000 := by rw [List.length_eraseIdx]; simp only [List.length_take, movedU_length]; split <;> omega
              clear hna y0 y2 hg7 hown7 HM6 DV7 FK0 FK1 FK2 BB BA RS QS
              go_wp2_with (at_builtin; refine wpList_append_I rfl _ _ rfl (n + 3) vU _ rfl HMA.out.ownU _ [((t : Int) - 1)] rfl HON.out (by show _ + 1 ≤ 16777216; omega) HMA.out.sz ?_; intro vU2 w12 hown2 hg2 _; have dv2 := HMA.out.dv.kept hg2 (fun e => by have := (HMA.out.ownU.lt _ e.symm).1; omega); obtain ⟨y0, y1, y2, y3⟩ := dv2.cells; obtain ⟨p12, c12, e12, _⟩ := hown2.ints; subst e12)
              have HM12 := HMA.out.ups hg2 hown2
              simp only [List.length_append, List.length_cons, List.length_nil, Nat.zero_add] at HM12
              have h1 := HSTB.out; have h2 := HSTU.out
              rw [if_neg HKI.out] at h1 h2
              rw [HD.out] at h2
              have HX2 := hid (show RmMem w _ n _ _ _ _ ((B.take (k + 1)).eraseIdx i) (((movedU U (i : Int) (t : Int)).take (k + 1)).eraseIdx i) from by rw [h1, h2]; exact HM12)
              clear HM12 hown2 hg2 dv2 y0 y1 y2 y3 d0 d1 d0a d1a f0a f1a h1 h2
              go_roundw
              case rel => exact ⟨k + 1, _, _, by omega, by go_num, HX2.out⟩
              case measure => simp [intOf]; omega
            · have hz : ¬ (i : Int) < (t : Int) := hgt
              have HD := hid (show down1 (i : Int) (upOld U (i : Int) (t : Int) (k : Int)) = ((t : Int)) from by rw [HV.out]; unfold down1; rw [if_neg hgt])
              have BB : Hid (Box2 wr.drew (n + 2) 33 vB vU) := hm.out.dv
              have BA : Hid (Box2 wr.drew n 33 (.slice (some ⟨b, off, none⟩) B.length c) (.slice (some ⟨b2, off2, none⟩) U.length c2)) := hm.out.av
              have RS : Hid (wr.drew.cell? ⟨b, off + k * 2, none⟩ = some (.int .u64 ((lw s).toNat : Int)) ∧ wr.drew.cell? ⟨b, off + k * 2 + 1, none⟩ = some (.int .u64 ((hw s).toNat : Int))) := ⟨q0, q1⟩
              have QS := RS
              have hbl3 : ((B.take k).eraseIdx i).length ≤ 1000 := by rw [List.length_eraseIdx]; simp only [List.length_take]; split <;> omega
              clear q0 q1
              go_wp2_with fail
              refine Go.Proofs.YtmlecpapoeodkaaDoor.wp_region_L 11 8 (fun w' => Box2 w' (n + 2) 33 (vB) (vU) ∧ Box2 w' (n) 33 (.slice (some ⟨b, off, none⟩) B.length c) (.slice (some ⟨b2, off2, none⟩) U.length c2) ∧ (w'.cell? ⟨b, off + k * 2, none⟩ = some (.int .u64 ((lw (s)).toNat : Int)) ∧ w'.cell? ⟨b, off + k * 2 + 1, none⟩ = some (.int .u64 ((hw (s)).toNat : Int)))) (by kernel_rfl) rfl ⟨BB.out, BA.out, RS.out⟩ (fun _ => ?_)
              refine wpAnyL_pure (i := 0) (v := .pointer (some ⟨n + 2, 0, none⟩)) (by simp only [List.getElem?_toArray, List.getElem?_cons_zero] <;> rfl) (by kernel_rfl) (by kernel_rfl) (by kernel_rfl) (by exact fun _ _ _ h => h) (by decide) (.inr ⟨BB.out, BA.out, RS.out⟩) (Or.inl ⟨by rfl, fun w _ => (by simp [execOp, go_sem, Act.eval])⟩) (fun _ => ?_)
              simp only [Act.put, List.setIfInBounds_toArray, List.set_cons_zero, List.set_cons_succ]
              refine wpAnyL_load2 (i := 1) (v := vB) (by simp only [List.getElem?_toArray, List.getElem?_cons_zero, List.getElem?_cons_succ] <;> rfl) (by kernel_rfl) (by kernel_rfl) (by kernel_rfl) (by exact fun _ _ _ h => h) (by decide) (Waits.one rfl ⟨⟨1, .data⟩, by simp, rfl, rfl⟩) (by kernel_rfl) (by kernel_rfl) (.inr ⟨BB.out, BA.out, RS.out⟩) (Or.inl ⟨by rfl, fun w hw => (by obtain ⟨x0, _, _⟩ := hw; simp [execOp, go_sem, Act.eval, x0.cells.1])⟩) (fun _ => ?_)
              simp only [Act.put, List.setIfInBounds_toArray, List.set_cons_zero, List.set_cons_succ]
              refine wpAnyL_pure (i := 2) (v := .pointer (some ⟨n, 0, none⟩)) (by simp only [List.getElem?_toArray, List.getElem?_cons_zero, List.getElem?_cons_succ] <;> rfl) (by kernel_rfl) (by kernel_rfl) (by kernel_rfl) (by exact fun _ _ _ h => h) (by decide) (.inr ⟨BB.out, BA.out, RS.out⟩) (Or.inl ⟨by rfl, fun w _ => (by simp [execOp, go_sem, Act.eval])⟩) (fun _ => ?_)
              simp only [Act.put, List.setIfInBounds_toArray, List.set_cons_zero, List.set_cons_succ]
              refine wpAnyL_load2 (i := 3) (v := .slice (some ⟨b, off, none⟩) B.length c) (by simp only [List.getElem?_toArray, List.getElem?_cons_zero, List.getElem?_cons_succ] <;> rfl) (by kernel_rfl) (by kernel_rfl) (by kernel_rfl) (by exact fun _ _ _ h => h) (by decide) (Waits.more (j := 7) rfl ⟨⟨7, .data⟩, by simp, rfl, rfl⟩ (Waits.more (j := 6) rfl ⟨⟨6, .data⟩, by simp, rfl, rfl⟩ (Waits.more (j := 5) rfl ⟨⟨5, .data⟩, by simp, rfl, rfl⟩ (Waits.one rfl ⟨⟨3, .data⟩, by simp, rfl, rfl⟩)))) (by kernel_rfl) (by kernel_rfl) (.inr ⟨BB.out, BA.out, RS.out⟩) (Or.inl ⟨by rfl, fun w hw => (by obtain ⟨_, x1, _⟩ := hw; simp [execOp, go_sem, Act.eval, x1.cells.1])⟩) (fun _ => ?_)
              simp only [Act.put, List.setIfInBounds_toArray, List.set_cons_zero, List.set_cons_succ]
              refine wpAnyL_pure (i := 4) (v := .int .i64 (k : Int)) (by simp only [List.getElem?_toArray, List.getElem?_cons_zero, List.getElem?_cons_succ] <;> rfl) (by kernel_rfl) (by kernel_rfl) (by kernel_rfl) (by exact fun _ _ _ h => h) (by decide) (.inr ⟨BB.out, BA.out, RS.out⟩) (Or.inl ⟨by rfl, fun w _ => (by simp [execOp, go_sem, Act.eval])⟩) (fun _ => ?_)
              simp only [Act.put, List.setIfInBounds_toArray, List.set_cons_zero, List.set_cons_succ]
              refine wpAnyL_pure (i := 5) (v := .pointer (some ⟨b, off + k * 2, none⟩)) (by simp only [List.getElem?_toArray, List.getElem?_cons_zero, List.getElem?_cons_succ] <;> rfl) (by kernel_rfl) (by kernel_rfl) (by kernel_rfl) (by exact fun _ _ _ h => h) (by decide) (.inr ⟨BB.out, BA.out, RS.out⟩) (Or.inl ⟨by rfl, fun w _ => (by simp [execOp, go_sem, Act.eval, zkB])⟩) (fun _ => ?_)
              simp only [Act.put, List.setIfInBounds_toArray, List.set_cons_zero, List.set_cons_succ]
              refine wpAnyL_load2 (i := 6) (v := encS (s)) (by simp only [List.getElem?_toArray, List.getElem?_cons_zero, List.getElem?_cons_succ] <;> rfl) (by kernel_rfl) (by kernel_rfl) (by kernel_rfl) (by exact fun _ _ _ h => h) (by decide) (Waits.more (j := 7) rfl ⟨⟨7, .data⟩, by simp, rfl, rfl⟩ (Waits.one rfl ⟨⟨6, .data⟩, by simp, rfl, rfl⟩)) (by kernel_rfl) (by kernel_rfl) (.inr ⟨BB.out, BA.out, RS.out⟩) (Or.inl ⟨by rfl, fun w hw => (by obtain ⟨_, _, ⟨y2, z2⟩⟩ := hw; simp [execOp, go_sem, Act.eval, y2, z2])⟩) (fun _ => ?_)
              simp only [Act.put, List.setIfInBounds_toArray, List.set_cons_zero, List.set_cons_succ]
              have HM6 := hid ((hm.out.below ((Below.refl _ wr).drew)).below ((Below.refl _ wr.drew).alloc (Nat.le_refl _) (.cells #[.int .u64 ((lw s).toNat : Int), .int .u64 ((hw s).toNat : Int)] 32)))
              have FK0 : Hid (Box2 (wr.drew.alloc (.cells #[.int .u64 ((lw s).toNat : Int), .int .u64 ((hw s).toNat : Int)] 32)) (n + 2) 33 (vB) (vU)) := HM6.out.dv
              have FK1 : Hid (Box2 (wr.drew.alloc (.cells #[.int .u64 ((lw s).toNat : Int), .int .u64 ((hw s).toNat : Int)] 32)) (n) 33 (.slice (some ⟨b, off, none⟩) B.length c) (.slice (some ⟨b2, off2, none⟩) U.length c2)) := HM6.out.av
              have FK2 : Hid (((wr.drew.alloc (.cells #[.int .u64 ((lw s).toNat : Int), .int .u64 ((hw s).toNat : Int)] 32)).cell? ⟨b, off + k * 2, none⟩ = some (.int .u64 ((lw (s)).toNat : Int)) ∧ (wr.drew.alloc (.cells #[.int .u64 ((lw s).toNat : Int), .int .u64 ((hw s).toNat : Int)] 32)).cell? ⟨b, off + k * 2 + 1, none⟩ = some (.int .u64 ((hw (s)).toNat : Int)))) := ⟨(((Below.refl _ wr.drew).alloc (Nat.le_refl _) (.cells #[.int .u64 ((lw s).toNat : Int), .int .u64 ((hw s).toNat : Int)] 32)).cell (cell_lt QS.out.1)).trans QS.out.1, (((Below.refl _ wr.drew).alloc (Nat.le_refl _) (.cells #[.int .u64 ((lw s).toNat : Int), .int .u64 ((hw s).toNat : Int)] 32)).cell (cell_lt QS.out.2)).trans QS.out.2⟩
              refine wpAnyL_one (i := 7) (by kernel_rfl) (by simp only [List.getElem?_toArray, List.getElem?_cons_zero, List.getElem?_cons_succ] <;> rfl) (by rfl) ?_
              refine opwp_value (v := .slice (some ⟨wr.drew.heap.size, 0, none⟩) 1 1) (w' := (wr.drew.alloc (.cells #[.int .u64 ((lw s).toNat : Int), .int .u64 ((hw s).toNat : Int)] 32))) (by simp [execOp, go_sem, Act.eval]) ⟨.inr ⟨FK0.out, FK1.out, FK2.out⟩, ?_⟩
              simp only [Act.put, List.setIfInBounds_toArray, List.set_cons_zero, List.set_cons_succ]
              refine wpAnyL_one (i := 8) (by kernel_rfl) (by simp only [List.getElem?_toArray, List.getElem?_cons_zero, List.getElem?_cons_succ] <;> rfl) (by rfl) ?_
              refine opwp_append_S _ _ rfl (n + 3) vB _ rfl HM6.out.own _ [s] rfl (one_set wr.drew s) (by show _ + 1 ≤ 16777216; omega) HM6.out.sz ?_
              intro vB2 w7 hown7 hg7 _
              have DV7 := hid (FK0.out.kept hg7 (fun e => by have := (HM6.out.own.lt _ e.symm).1; omega))
              obtain ⟨p7, c7, e7, _⟩ := hown7.sets
              subst e7
              refine ⟨.inl (by kernel_rfl), ?_⟩
              simp only [Act.put, List.setIfInBounds_toArray, List.set_cons_zero, List.set_cons_succ]
              refine wpAnyL_pure (i := 9) (v := .pointer (some ⟨n + 2, 0, none⟩)) (by simp only [List.getElem?_toArray, List.getElem?_cons_zero, List.getElem?_cons_succ] <;> rfl) (by kernel_rfl) (by kernel_rfl) (by kernel_rfl) (by exact fun _ _ _ h => h) (by decide) (.inl (by kernel_rfl)) (Or.inl ⟨by rfl, fun w _ => (by simp [execOp, go_sem, Act.eval])⟩) (fun _ => ?_)
              simp only [Act.put, List.setIfInBounds_toArray, List.set_cons_zero, List.set_cons_succ]
              obtain ⟨y0, _, y2, _⟩ := DV7.out.cells
              refine wpAnyL_one (i := 10) (by kernel_rfl) (by simp only [List.getElem?_toArray, List.getElem?_cons_zero, List.getElem?_cons_succ] <;> rfl) (by rfl) ?_
              refine opwp_skip (w' := (w7.setCell ⟨n + 2, 0, none⟩ (.slice p7 ((B.take k).eraseIdx i ++ [s]).length c7))) (by simp [execOp, go_sem, Act.eval, y0, y2]) ⟨.inl (by kernel_rfl), ?_⟩
              simp only [Act.put]
              refine wpAnyL_done (by kernel_rfl) ?_ _
              have HM7 := hid (HM6.out.bags hg7 hown7)
              generalize w7.setCell ⟨n + 2, 0, none⟩ (.slice p7 ((B.take k).eraseIdx i ++ [s]).length c7) = w8 at *
              have hna := (Below.refl _ w8).alloc (Nat.le_refl _) (.cells #[.int .i64 ((t : Int))] 3)
              have HMA := hid (HM7.out.below hna)
              have HON := hid (one_int w8 ((t : Int)) 3)
              obtain ⟨d0, d1, _, _⟩ := HM7.out.dv.cells
              obtain ⟨d0a, d1a, f0a, f1a⟩ := HMA.out.dv.cells
              have hul2 : (((movedU U (i : Int) (t : Int)).take k).eraseIdx i).length ≤ 1000 := by rw [List.length_eraseIdx]; simp only [List.length_take, movedU_length]; split <;> omega
              clear hna y0 y2 hg7 hown7 HM6 DV7 FK0 FK1 FK2 BB BA RS QS
              go_wp2_with (at_builtin; refine wpList_append_I rfl _ _ rfl (n + 3) vU _ rfl HMA.out.ownU _ [((t : Int))] rfl HON.out (by show _ + 1 ≤ 16777216; omega) HMA.out.sz ?_; intro vU2 w12 hown2 hg2 _; have dv2 := HMA.out.dv.kept hg2 (fun e => by have := (HMA.out.ownU.lt _ e.symm).1; omega); obtain ⟨y0, y1, y2, y3⟩ := dv2.cells; obtain ⟨p12, c12, e12, _⟩ := hown2.ints; subst e12)
              have HM12 := HMA.out.ups hg2 hown2
              simp only [List.length_append, List.length_cons, List.length_nil, Nat.zero_add] at HM12
              have h1 := HSTB.out; have h2 := HSTU.out
              rw [if_neg HKI.out] at h1 h2
              rw [HD.out] at h2
              have HX2 := hid (show RmMem w _ n _ _ _ _ ((B.take (k + 1)).eraseIdx i) (((movedU U (i : Int) (t : Int)).take (k + 1)).eraseIdx i) from by rw [h1, h2]; exact HM12)
              clear HM12 hown2 hg2 dv2 y0 y1 y2 y3 d0 d1 d0a d1a f0a f1a h1 h2
              go_roundw
              case rel => exact ⟨k + 1, _, _, by omega, by go_num, HX2.out⟩
              case measure => simp [intOf]; omega
      · have zui : (upF U (k : Int) == (i : Int)) = false := by simpa using hui
        have HV := hid (show upOld U (i : Int) (t : Int) (k : Int) = upF U (k : Int) from by unfold Go.Proofs.YtmlecpapoeodkaaDoor.upOld; rw [if_neg hui])
        generalize upF U (k : Int) = u at *
        generalize upF U (i : Int) = ui at *
        clear hui
        by_cases hki : k = i
        · have zki : ((k : Int) == (i : Int)) = true := by rw [hki]; simp
          have HN := hid (show RmMem w wr n (.slice (some ⟨b, off, none⟩) B.length c) (.slice (some ⟨b2, off2, none⟩) U.length c2) vB vU ((B.take (k + 1)).eraseIdx i) (((movedU U (i : Int) (t : Int)).take (k + 1)).eraseIdx i) from by
            have h1 := HSTB.out; have h2 := HSTU.out
            rw [if_pos hki] at h1 h2
            rw [h1, h2]; exact hm.out)
          clear hki
          go_wp2_with fail
          go_roundw
          case rel => exact ⟨k + 1, _, _, by omega, by go_num, HN.out⟩
          case measure => simp [intOf]; omega
        · have zki : ((k : Int) == (i : Int)) = false := by simp; omega
          have HKI := hid hki
          clear hki
          by_cases hgt : (i : Int) < u
          · have hz : 0 ≤ u := by omega
            have HD := hid (show down1 (i : Int) (upOld U (i : Int) (t : Int) (k : Int)) = (u - 1) from by rw [HV.out]; unfold down1; rw [if_pos hgt])
            have BB : Hid (Box2 wr.drew (n + 2) 33 vB vU) := hm.out.dv
            have BA : Hid (Box2 wr.drew n 33 (.slice (some ⟨b, off, none⟩) B.length c) (.slice (some ⟨b2, off2, none⟩) U.length c2)) := hm.out.av
            have RS : Hid (wr.drew.cell? ⟨b, off + k * 2, none⟩ = some (.int .u64 ((lw s).toNat : Int)) ∧ wr.drew.cell? ⟨b, off + k * 2 + 1, none⟩ = some (.int .u64 ((hw s).toNat : Int))) := ⟨q0, q1⟩
            have QS := RS
            have hbl3 : ((B.take k).eraseIdx i).length ≤ 1000 := by rw [List.length_eraseIdx]; simp only [List.length_take]; split <;> omega
            clear q0 q1
            go_wp2_with fail
            refine Go.Proofs.YtmlecpapoeodkaaDoor.wp_region_L 11 8 (fun w' => Box2 w' (n + 2) 33 (vB) (vU) ∧ Box2 w' (n) 33 (.slice (some ⟨b, off, none⟩) B.length c) (.slice (some ⟨b2, off2, none⟩) U.length c2) ∧ (w'.cell? ⟨b, off + k * 2, none⟩ = some (.int .u64 ((lw (s)).toNat : Int)) ∧ w'.cell? ⟨b, off + k * 2 + 1, none⟩ = some (.int .u64 ((hw (s)).toNat : Int)))) (by kernel_rfl) rfl ⟨BB.out, BA.out, RS.out⟩ (fun _ => ?_)
            refine wpAnyL_pure (i := 0) (v := .pointer (some ⟨n + 2, 0, none⟩)) (by simp only [List.getElem?_toArray, List.getElem?_cons_zero] <;> rfl) (by kernel_rfl) (by kernel_rfl) (by kernel_rfl) (by exact fun _ _ _ h => h) (by decide) (.inr ⟨BB.out, BA.out, RS.out⟩) (Or.inl ⟨by rfl, fun w _ => (by simp [execOp, go_sem, Act.eval])⟩) (fun _ => ?_)
            simp only [Act.put, List.setIfInBounds_toArray, List.set_cons_zero, List.set_cons_succ]
            refine wpAnyL_load2 (i := 1) (v := vB) (by simp only [List.getElem?_toArray, List.getElem?_cons_zero, List.getElem?_cons_succ] <;> rfl) (by kernel_rfl) (by kernel_rfl) (by kernel_rfl) (by exact fun _ _ _ h => h) (by decide) (Waits.one rfl ⟨⟨1, .data⟩, by simp, rfl, rfl⟩) (by kernel_rfl) (by kernel_rfl) (.inr ⟨BB.out, BA.out, RS.out⟩) (Or.inl ⟨by rfl, fun w hw => (by obtain ⟨x0, _, _⟩ := hw; simp [execOp, go_sem, Act.eval, x0.cells.1])⟩) (fun _ => ?_)
            simp only [Act.put, List.setIfInBounds_toArray, List.set_cons_zero, List.set_cons_succ]
            refine wpAnyL_pure (i := 2) (v := .pointer (some ⟨n, 0, none⟩)) (by simp only [List.getElem?_toArray, List.getElem?_cons_zero, List.getElem?_cons_succ] <;> rfl) (by kernel_rfl) (by kernel_rfl) (by kernel_rfl) (by exact fun _ _ _ h => h) (by decide) (.inr ⟨BB.out, BA.out, RS.out⟩) (Or.inl ⟨by rfl, fun w _ => (by simp [execOp, go_sem, Act.eval])⟩) (fun _ => ?_)
            simp only [Act.put, List.setIfInBounds_toArray, List.set_cons_zero, List.set_cons_succ]
            refine wpAnyL_load2 (i := 3) (v := .slice (some ⟨b, off, none⟩) B.length c) (by simp only [List.getElem?_toArray, List.getElem?_cons_zero, List.getElem?_cons_succ] <;> rfl) (by kernel_rfl) (by kernel_rfl) (by kernel_rfl) (by exact fun _ _ _ h => h) (by decide) (Waits.more (j := 7) rfl ⟨⟨7, .data⟩, by simp, rfl, rfl⟩ (Waits.more (j := 6) rfl ⟨⟨6, .data⟩, by simp, rfl, rfl⟩ (Waits.more (j := 5) rfl ⟨⟨5, .data⟩, by simp, rfl, rfl⟩ (Waits.one rfl ⟨⟨3, .data⟩, by simp, rfl, rfl⟩)))) (by kernel_rfl) (by kernel_rfl) (.inr ⟨BB.out, BA.out, RS.out⟩) (Or.inl ⟨by rfl, fun w hw => (by obtain ⟨_, x1, _⟩ := hw; simp [execOp, go_sem, Act.eval, x1.cells.1])⟩) (fun _ => ?_)
            simp only [Act.put, List.setIfInBounds_toArray, List.set_cons_zero, List.set_cons_succ]
            refine wpAnyL_pure (i := 4) (v := .int .i64 (k : Int)) (by simp only [List.getElem?_toArray, List.getElem?_cons_zero, List.getElem?_cons_succ] <;> rfl) (by kernel_rfl) (by kernel_rfl) (by kernel_rfl) (by exact fun _ _ _ h => h) (by decide) (.inr ⟨BB.out, BA.out, RS.out⟩) (Or.inl ⟨by rfl, fun w _ => (by simp [execOp, go_sem, Act.eval])⟩) (fun _ => ?_)
            simp only [Act.put, List.setIfInBounds_toArray, List.set_cons_zero, List.set_cons_succ]
            refine wpAnyL_pure (i := 5) (v := .pointer (some ⟨b, off + k * 2, none⟩)) (by simp only [List.getElem?_toArray, List.getElem?_cons_zero, List.getElem?_cons_succ] <;> rfl) (by kernel_rfl) (by kernel_rfl) (by kernel_rfl) (by exact fun _ _ _ h => h) (by decide) (.inr ⟨BB.out, BA.out, RS.out⟩) (Or.inl ⟨by rfl, fun w _ => (by simp [execOp, go_sem, Act.eval, zkB])⟩) (fun _ => ?_)
            simp only [Act.put, List.setIfInBounds_toArray, List.set_cons_zero, List.set_cons_succ]
            refine wpAnyL_load2 (i := 6) (v := encS (s)) (by simp only [List.getElem?_toArray, List.getElem?_cons_zero, List.getElem?_cons_succ] <;> rfl) (by kernel_rfl) (by kernel_rfl) (by kernel_rfl) (by exact fun _ _ _ h => h) (by decide) (Waits.more (j := 7) rfl ⟨⟨7, .data⟩, by simp, rfl, rfl⟩ (Waits.one rfl ⟨⟨6, .data⟩, by simp, rfl, rfl⟩)) (by kernel_rfl) (by kernel_rfl) (.inr ⟨BB.out, BA.out, RS.out⟩) (Or.inl ⟨by rfl, fun w hw => (by obtain ⟨_, _, ⟨y2, z2⟩⟩ := hw; simp [execOp, go_sem, Act.eval, y2, z2])⟩) (fun _ => ?_)
            simp only [Act.put, List.setIfInBounds_toArray, List.set_cons_zero, List.set_cons_succ]
            have HM6 := hid ((hm.out.below ((Below.refl _ wr).drew)).below ((Below.refl _ wr.drew).alloc (Nat.le_refl _) (.cells #[.int .u64 ((lw s).toNat : Int), .int .u64 ((hw s).toNat : Int)] 32)))
            have FK0 : Hid (Box2 (wr.drew.alloc (.cells #[.int .u64 ((lw s).toNat : Int), .int .u64 ((hw s).toNat : Int)] 32)) (n + 2) 33 (vB) (vU)) := HM6.out.dv
            have FK1 : Hid (Box2 (wr.drew.alloc (.cells #[.int .u64 ((lw s).toNat : Int), .int .u64 ((hw s).toNat : Int)] 32)) (n) 33 (.slice (some ⟨b, off, none⟩) B.length c) (.slice (some ⟨b2, off2, none⟩) U.length c2)) := HM6.out.av
            have FK2 : Hid (((wr.drew.alloc (.cells #[.int .u64 ((lw s).toNat : Int), .int .u64 ((hw s).toNat : Int)] 32)).cell? ⟨b, off + k * 2, none⟩ = some (.int .u64 ((lw (s)).toNat : Int)) ∧ (wr.drew.alloc (.cells #[.int .u64 ((lw s).toNat : Int), .int .u64 ((hw s).toNat : Int)] 32)).cell? ⟨b, off + k * 2 + 1, none⟩ = some (.int .u64 ((hw (s)).toNat : Int)))) := ⟨(((Below.refl _ wr.drew).alloc (Nat.le_refl _) (.cells #[.int .u64 ((lw s).toNat : Int), .int .u64 ((hw s).toNat : Int)] 32)).cell (cell_lt QS.out.1)).trans QS.out.1, (((Below.refl _ wr.drew).alloc (Nat.le_refl _) (.cells #[.int .u64 ((lw s).toNat : Int), .int .u64 ((hw s).toNat : Int)] 32)).cell (cell_lt QS.out.2)).trans QS.out.2⟩
            refine wpAnyL_one (i := 7) (by kernel_rfl) (by simp only [List.getElem?_toArray, List.getElem?_cons_zero, List.getElem?_cons_succ] <;> rfl) (by rfl) ?_
            refine opwp_value (v := .slice (some ⟨wr.drew.heap.size, 0, none⟩) 1 1) (w' := (wr.drew.alloc (.cells #[.int .u64 ((lw s).toNat : Int), .int .u64 ((hw s).toNat : Int)] 32))) (by simp [execOp, go_sem, Act.eval]) ⟨.inr ⟨FK0.out, FK1.out, FK2.out⟩, ?_⟩
            simp only [Act.put, List.setIfInBounds_toArray, List.set_cons_zero, List.set_cons_succ]
            refine wpAnyL_one (i := 8) (by kernel_rfl) (by simp only [List.getElem?_toArray, List.getElem?_cons_zero, List.getElem?_cons_succ] <;> rfl) (by rfl) ?_
            refine opwp_append_S _ _ rfl (n + 3) vB _ rfl HM6.out.own _ [s] rfl (one_set wr.drew s) (by show _ + 1 ≤ 16777216; omega) HM6.out.sz ?_
            intro vB2 w7 hown7 hg7 _
            have DV7 := hid (FK0.out.kept hg7 (fun e => by have := (HM6.out.own.lt _ e.symm).1; omega))
            obtain ⟨p7, c7, e7, _⟩ := hown7.sets
            subst e7
            refine ⟨.inl (by kernel_rfl), ?_⟩
            simp only [Act.put, List.setIfInBounds_toArray, List.set_cons_zero, List.set_cons_succ]
            refine wpAnyL_pure (i := 9) (v := .pointer (some ⟨n + 2, 0, none⟩)) (by simp only [List.getElem?_toArray, List.getElem?_cons_zero, List.getElem?_cons_succ] <;> rfl) (by kernel_rfl) (by kernel_rfl) (by kernel_rfl) (by exact fun _ _ _ h => h) (by decide) (.inl (by kernel_rfl)) (Or.inl ⟨by rfl, fun w _ => (by simp [execOp, go_sem, Act.eval])⟩) (fun _ => ?_)
            simp only [Act.put, List.setIfInBounds_toArray, List.set_cons_zero, List.set_cons_succ]
            obtain ⟨y0, _, y2, _⟩ := DV7.out.cells
            refine wpAnyL_one (i := 10) (by kernel_rfl) (by simp only [List.getElem?_toArray, List.getElem?_cons_zero, List.getElem?_cons_succ] <;> rfl) (by rfl) ?_
            refine opwp_skip (w' := (w7.setCell ⟨n + 2, 0, none⟩ (.slice p7 ((B.take k).eraseIdx i ++ [s]).length c7))) (by simp [execOp, go_sem, Act.eval, y0, y2]) ⟨.inl (by kernel_rfl), ?_⟩
            simp only [Act.put]
            refine wpAnyL_done (by kernel_rfl) ?_ _
            have HM7 := hid (HM6.out.bags hg7 hown7)
            generalize w7.setCell ⟨n + 2, 0, none⟩ (.slice p7 ((B.take k).eraseIdx i ++ [s]).length c7) = w8 at *
            have hna := (Below.refl _ w8).alloc (Nat.le_refl _) (.cells #[.int .i64 (u - 1)] 3)
            have HMA := hid (HM7.out.below hna)
            have HON := hid (one_int w8 (u - 1) 3)
            obtain ⟨d0, d1, _, _⟩ := HM7.out.dv.cells
            obtain ⟨d0a, d1a, f0a, f1a⟩ := HMA.out.dv.cells
            have hul2 : (((movedU U (i : Int) (t : Int)).take k).eraseIdx i).length ≤ 1000 := by rw [List.length_eraseIdx]; simp only [List.length_take, movedU_length]; split <;> omega
            clear hna y0 y2 hg7 hown7 HM6 DV7 FK0 FK1 FK2 BB BA RS QS
            go_wp2_with (at_builtin; refine wpList_append_I rfl _ _ rfl (n + 3) vU _ rfl HMA.out.ownU _ [(u - 1)] rfl HON.out (by show _ + 1 ≤ 16777216; omega) HMA.out.sz ?_; intro vU2 w12 hown2 hg2 _; have dv2 := HMA.out.dv.kept hg2 (fun e => by have := (HMA.out.ownU.lt _ e.symm).1; omega); obtain ⟨y0, y1, y2, y3⟩ := dv2.cells; obtain ⟨p12, c12, e12, _⟩ := hown2.ints; subst e12)
            have HM12 := HMA.out.ups hg2 hown2
            simp only [List.length_append, List.length_cons, List.length_nil, Nat.zero_add] at HM12
            have h1 := HSTB.out; have h2 := HSTU.out
            rw [if_neg HKI.out] at h1 h2
            rw [HD.out] at h2
            have HX2 := hid (show RmMem w _ n _ _ _ _ ((B.take (k + 1)).eraseIdx i) (((movedU U (i : Int) (t : Int)).take (k + 1)).eraseIdx i) from by rw [h1, h2]; exact HM12)
            clear HM12 hown2 hg2 dv2 y0 y1 y2 y3 d0 d1 d0a d1a f0a f1a h1 h2
            go_roundw
            case rel => exact ⟨k + 1, _, _, by omega, by go_num, HX2.out⟩
            case measure => simp [intOf]; omega
          · have hz : ¬ (i : Int) < u := hgt
            have HD := hid (show down1 (i : Int) (upOld U (i : Int) (t : Int) (k : Int)) = (u) from by rw [HV.out]; unfold down1; rw [if_neg hgt])
            have BB : Hid (Box2 wr.drew (n + 2) 33 vB vU) := hm.out.dv
            have BA : Hid (Box2 wr.drew n 33 (.slice (some ⟨b, off, none⟩) B.length c) (.slice (some ⟨b2, off2, none⟩) U.length c2)) := hm.out.av
            have RS : Hid (wr.drew.cell? ⟨b, off + k * 2, none⟩ = some (.int .u64 ((lw s).toNat : Int)) ∧ wr.drew.cell? ⟨b, off + k * 2 + 1, none⟩ = some (.int .u64 ((hw s).toNat : Int))) := ⟨q0, q1⟩
            have QS := RS
            have hbl3 : ((B.take k).eraseIdx i).length ≤ 1000 := by rw [List.length_eraseIdx]; simp only [List.length_take]; split <;> omega
            clear q0 q1
            go_wp2_with fail
            refine Go.Proofs.YtmlecpapoeodkaaDoor.wp_region_L 11 8 (fun w' => Box2 w' (n + 2) 33 (vB) (vU) ∧ Box2 w' (n) 33 (.slice (some ⟨b, off, none⟩) B.length c) (.slice (some ⟨b2, off2, none⟩) U.length c2) ∧ (w'.cell? ⟨b, off + k * 2, none⟩ = some (.int .u64 ((lw (s)).toNat : Int)) ∧ w'.cell? ⟨b, off + k * 2 + 1, none⟩ = some (.int .u64 ((hw (s)).toNat : Int)))) (by kernel_rfl) rfl ⟨BB.out, BA.out, RS.out⟩ (fun _ => ?_)
            refine wpAnyL_pure (i := 0) (v := .pointer (some ⟨n + 2, 0, none⟩)) (by simp only [List.getElem?_toArray, List.getElem?_cons_zero] <;> rfl) (by kernel_rfl) (by kernel_rfl) (by kernel_rfl) (by exact fun _ _ _ h => h) (by decide) (.inr ⟨BB.out, BA.out, RS.out⟩) (Or.inl ⟨by rfl, fun w _ => (by simp [execOp, go_sem, Act.eval])⟩) (fun _ => ?_)
            simp only [Act.put, List.setIfInBounds_toArray, List.set_cons_zero, List.set_cons_succ]
            refine wpAnyL_load2 (i := 1) (v := vB) (by simp only [List.getElem?_toArray, List.getElem?_cons_zero, List.getElem?_cons_succ] <;> rfl) (by kernel_rfl) (by kernel_rfl) (by kernel_rfl) (by exact fun _ _ _ h => h) (by decide) (Waits.one rfl ⟨⟨1, .data⟩, by simp, rfl, rfl⟩) (by kernel_rfl) (by kernel_rfl) (.inr ⟨BB.out, BA.out, RS.out⟩) (Or.inl ⟨by rfl, fun w hw => (by obtain ⟨x0, _, _⟩ := hw; simp [execOp, go_sem, Act.eval, x0.cells.1])⟩) (fun _ => ?_)
            simp only [Act.put, List.setIfInBounds_toArray, List.set_cons_zero, List.set_cons_succ]
            refine wpAnyL_pure (i := 2) (v := .pointer (some ⟨n, 0, none⟩)) (by simp only [List.getElem?_toArray, List.getElem?_cons_zero, List.getElem?_cons_succ] <;> rfl) (by kernel_rfl) (by kernel_rfl) (by kernel_rfl) (by exact fun _ _ _ h => h) (by decide) (.inr ⟨BB.out, BA.out, RS.out⟩) (Or.inl ⟨by rfl, fun w _ => (by simp [execOp, go_sem, Act.eval])⟩) (fun _ => ?_)
            simp only [Act.put, List.setIfInBounds_toArray, List.set_cons_zero, List.set_cons_succ]
            refine wpAnyL_load2 (i := 3) (v := .slice (some ⟨b, off, none⟩) B.length c) (by simp only [List.getElem?_toArray, List.getElem?_cons_zero, List.getElem?_cons_succ] <;> rfl) (by kernel_rfl) (by kernel_rfl) (by kernel_rfl) (by exact fun _ _ _ h => h) (by decide) (Waits.more (j := 7) rfl ⟨⟨7, .data⟩, by simp, rfl, rfl⟩ (Waits.more (j := 6) rfl ⟨⟨6, .data⟩, by simp, rfl, rfl⟩ (Waits.more (j := 5) rfl ⟨⟨5, .data⟩, by simp, rfl, rfl⟩ (Waits.one rfl ⟨⟨3, .data⟩, by simp, rfl, rfl⟩)))) (by kernel_rfl) (by kernel_rfl) (.inr ⟨BB.out, BA.out, RS.out⟩) (Or.inl ⟨by rfl, fun w hw => (by obtain ⟨_, x1, _⟩ := hw; simp [execOp, go_sem, Act.eval, x1.cells.1])⟩) (fun _ => ?_)
            simp only [Act.put, List.setIfInBounds_toArray, List.set_cons_zero, List.set_cons_succ]
            refine wpAnyL_pure (i := 4) (v := .int .i64 (k : Int)) (by simp only [List.getElem?_toArray, List.getElem?_cons_zero, List.getElem?_cons_succ] <;> rfl) (by kernel_rfl) (by kernel_rfl) (by kernel_rfl) (by exact fun _ _ _ h => h) (by decide) (.inr ⟨BB.out, BA.out, RS.out⟩) (Or.inl ⟨by rfl, fun w _ => (by simp [execOp, go_sem, Act.eval])⟩) (fun _ => ?_)
            simp only [Act.put, List.setIfInBounds_toArray, List.set_cons_zero, List.set_cons_succ]
            refine wpAnyL_pure (i := 5) (v := .pointer (some ⟨b, off + k * 2, none⟩)) (by simp only [List.getElem?_toArray, List.getElem?_cons_zero, List.getElem?_cons_succ] <;> rfl) (by kernel_rfl) (by kernel_rfl) (by kernel_rfl) (by exact fun _ _ _ h => h) (by decide) (.inr ⟨BB.out, BA.out, RS.out⟩) (Or.inl ⟨by rfl, fun w _ => (by simp [execOp, go_sem, Act.eval, zkB])⟩) (fun _ => ?_)
            simp only [Act.put, List.setIfInBounds_toArray, List.set_cons_zero, List.set_cons_succ]
            refine wpAnyL_load2 (i := 6) (v := encS (s)) (by simp only [List.getElem?_toArray, List.getElem?_cons_zero, List.getElem?_cons_succ] <;> rfl) (by kernel_rfl) (by kernel_rfl) (by kernel_rfl) (by exact fun _ _ _ h => h) (by decide) (Waits.more (j := 7) rfl ⟨⟨7, .data⟩, by simp, rfl, rfl⟩ (Waits.one rfl ⟨⟨6, .data⟩, by simp, rfl, rfl⟩)) (by kernel_rfl) (by kernel_rfl) (.inr ⟨BB.out, BA.out, RS.out⟩) (Or.inl ⟨by rfl, fun w hw => (by obtain ⟨_, _, ⟨y2, z2⟩⟩ := hw; simp [execOp, go_sem, Act.eval, y2, z2])⟩) (fun _ => ?_)
            simp only [Act.put, List.setIfInBounds_toArray, List.set_cons_zero, List.set_cons_succ]
            have HM6 := hid ((hm.out.below ((Below.refl _ wr).drew)).below ((Below.refl _ wr.drew).alloc (Nat.le_refl _) (.cells #[.int .u64 ((lw s).toNat : Int), .int .u64 ((hw s).toNat : Int)] 32)))
            have FK0 : Hid (Box2 (wr.drew.alloc (.cells #[.int .u64 ((lw s).toNat : Int), .int .u64 ((hw s).toNat : Int)] 32)) (n + 2) 33 (vB) (vU)) := HM6.out.dv
            have FK1 : Hid (Box2 (wr.drew.alloc (.cells #[.int .u64 ((lw s).toNat : Int), .int .u64 ((hw s).toNat : Int)] 32)) (n) 33 (.slice (some ⟨b, off, none⟩) B.length c) (.slice (some ⟨b2, off2, none⟩) U.length c2)) := HM6.out.av
            have FK2 : Hid (((wr.drew.alloc (.cells #[.int .u64 ((lw s).toNat : Int), .int .u64 ((hw s).toNat : Int)] 32)).cell? ⟨b, off + k * 2, none⟩ = some (.int .u64 ((lw (s)).toNat : Int)) ∧ (wr.drew.alloc (.cells #[.int .u64 ((lw s).toNat : Int), .int .u64 ((hw s).toNat : Int)] 32)).cell? ⟨b, off + k * 2 + 1, none⟩ = some (.int .u64 ((hw (s)).toNat : Int)))) := ⟨(((Below.refl _ wr.drew).alloc (Nat.le_refl _) (.cells #[.int .u64 ((lw s).toNat : Int), .int .u64 ((hw s).toNat : Int)] 32)).cell (cell_lt QS.out.1)).trans QS.out.1, (((Below.refl _ wr.drew).alloc (Nat.le_refl _) (.cells #[.int .u64 ((lw s).toNat : Int), .int .u64 ((hw s).toNat : Int)] 32)).cell (cell_lt QS.out.2)).trans QS.out.2⟩
            refine wpAnyL_one (i := 7) (by kernel_rfl) (by simp only [List.getElem?_toArray, List.getElem?_cons_zero, List.getElem?_cons_succ] <;> rfl) (by rfl) ?_
            refine opwp_value (v := .slice (some ⟨wr.drew.heap.size, 0, none⟩) 1 1) (w' := (wr.drew.alloc (.cells #[.int .u64 ((lw s).toNat : Int), .int .u64 ((hw s).toNat : Int)] 32))) (by simp [execOp, go_sem, Act.eval]) ⟨.inr ⟨FK0.out, FK1.out, FK2.out⟩, ?_⟩
            simp only [Act.put, List.setIfInBounds_toArray, List.set_cons_zero, List.set_cons_succ]
            refine wpAnyL_one (i := 8) (by kernel_rfl) (by simp only [List.getElem?_toArray, List.getElem?_cons_zero, List.getElem?_cons_succ] <;> rfl) (by rfl) ?_
            refine opwp_append_S _ _ rfl (n + 3) vB _ rfl HM6.out.own _ [s] rfl (one_set wr.drew s) (by show _ + 1 ≤ 16777216; omega) HM6.out.sz ?_
            intro vB2 w7 hown7 hg7 _
            have DV7 := hid (FK0.out.kept hg7 (fun e => by have := (HM6.out.own.lt _ e.symm).1; omega))
            obtain ⟨p7, c7, e7, _⟩ := hown7.sets
            subst e7
            refine ⟨.inl (by kernel_rfl), ?_⟩
            simp only [Act.put, List.setIfInBounds_toArray, List.set_cons_zero, List.set_cons_succ]
            refine wpAnyL_pure (i := 9) (v := .pointer (some ⟨n + 2, 0, none⟩)) (by simp only [List.getElem?_toArray, List.getElem?_cons_zero, List.getElem?_cons_succ] <;> rfl) (by kernel_rfl) (by kernel_rfl) (by kernel_rfl) (by exact fun _ _ _ h => h) (by decide) (.inl (by kernel_rfl)) (Or.inl ⟨by rfl, fun w _ => (by simp [execOp, go_sem, Act.eval])⟩) (fun _ => ?_)
            simp only [Act.put, List.setIfInBounds_toArray, List.set_cons_zero, List.set_cons_succ]
            obtain ⟨y0, _, y2, _⟩ := DV7.out.cells
            refine wpAnyL_one (i := 10) (by kernel_rfl) (by simp only [List.getElem?_toArray, List.getElem?_cons_zero, List.getElem?_cons_succ] <;> rfl) (by rfl) ?_
            refine opwp_skip (w' := (w7.setCell ⟨n + 2, 0, none⟩ (.slice p7 ((B.take k).eraseIdx i ++ [s]).length c7))) (by simp [execOp, go_sem, Act.eval, y0, y2]) ⟨.inl (by kernel_rfl), ?_⟩
            simp only [Act.put]
            refine wpAnyL_done (by kernel_rfl) ?_ _
            have HM7 := hid (HM6.out.bags hg7 hown7)
            generalize w7.setCell ⟨n + 2, 0, none⟩ (.slice p7 ((B.take k).eraseIdx i ++ [s]).length c7) = w8 at *
            have hna := (Below.refl _ w8).alloc (Nat.le_refl _) (.cells #[.int .i64 (u)] 3)
            have HMA := hid (HM7.out.below hna)
            have HON := hid (one_int w8 (u) 3)
            obtain ⟨d0, d1, _, _⟩ := HM7.out.dv.cells
            obtain ⟨d0a, d1a, f0a, f1a⟩ := HMA.out.dv.cells
            have hul2 : (((movedU U (i : Int) (t : Int)).take k).eraseIdx i).length ≤ 1000 := by rw [List.length_eraseIdx]; simp only [List.length_take, movedU_length]; split <;> omega
            clear hna y0 y2 hg7 hown7 HM6 DV7 FK0 FK1 FK2 BB BA RS QS
            go_wp2_with (at_builtin; refine wpList_append_I rfl _ _ rfl (n + 3) vU _ rfl HMA.out.ownU _ [(u)] rfl HON.out (by show _ + 1 ≤ 16777216; omega) HMA.out.sz ?_; intro vU2 w12 hown2 hg2 _; have dv2 := HMA.out.dv.kept hg2 (fun e => by have := (HMA.out.ownU.lt _ e.symm).1; omega); obtain ⟨y0, y1, y2, y3⟩ := dv2.cells; obtain ⟨p12, c12, e12, _⟩ := hown2.ints; subst e12)
            have HM12 := HMA.out.ups hg2 hown2
            simp only [List.length_append, List.length_cons, List.length_nil, Nat.zero_add] at HM12
            have h1 := HSTB.out; have h2 := HSTU.out
            rw [if_neg HKI.out] at h1 h2
            rw [HD.out] at h2
            have HX2 := hid (show RmMem w _ n _ _ _ _ ((B.take (k + 1)).eraseIdx i) (((movedU U (i : Int) (t : Int)).take (k + 1)).eraseIdx i) from by rw [h1, h2]; exact HM12)
            clear HM12 hown2 hg2 dv2 y0 y1 y2 y3 d0 d1 d0a d1a f0a f1a h1 h2
            go_roundw
            case rel => exact ⟨k + 1, _, _, by omega, by go_num, HX2.out⟩
            case measure => simp [intOf]; omega
    · obtain rfl : k = B.length := by omega
      have hm2 := hm.out
      rw [List.take_length, List.take_of_length_le (by rw [movedU_length, HLEN.out]; exact Nat.le_refl _), ← remB_erase, ← remU_moved] at hm2
      have HM := hid hm2
      obtain ⟨d0, d1, _, _⟩ := hm2.dv.cells
      obtain ⟨e0, e1, f0, f1⟩ := hm2.rv.cells
      have hord := hm2.ord
      obtain ⟨pB, cB, rfl, _⟩ := hm2.own.sets
      obtain ⟨pU, cU, rfl, _⟩ := hm2.ownU.ints
      clear hm hm2
      go_wp2_with fail
      have o1 := (HM.out.own.kept (grownBy_01 _ (n + 1) (.slice pB (remB B (i : Int)).length cB) (.slice pU (remU U (i : Int) (t : Int)).length cU)) (own_far HM.out.own (by intro k e; cases e; omega)))
      have o2 := (HM.out.ownU.kept (grownBy_01 _ (n + 1) (.slice pB (remB B (i : Int)).length cB) (.slice pU (remU U (i : Int) (t : Int)).length cU)) (own_far HM.out.ownU (by intro k e; cases e; omega)))
      exact bodyPost_ret (results_boxR rfl rfl (HM.out.rv.set01 _ _)) rfl ⟨_, _, rfl, o1.mono (by omega), o2.mono (by omega), below_01 HM.out.low (by omega) _ _⟩
end Go.Proofs.YtmlecpapoeodkaaDoor
namespace Go.Proofs.YtmlecpapoeodkaaDoor
open Go.RowKit
attribute [local go_sem ↓] run_eqlS run_neqS run_eqlS0 run_neqS0

section
variable {P : Program} {ops : Array Oper} {Q : Exit → Act → World → Prop} {md : Region.Mode} {A : Nat} {C : World → Prop}
/-- Any of three operations may come up. -/
theorem wpAnyL_three {i j k : Nat} {oi oj ok : Oper} {fuel : Nat} {listed : Array Bool} {a : Act} {w : World} (hr : Region.ready md ops listed = [i, j, k]) (hi : ops[i]? = some oi) (hwi : Region.wanted oi (yielded ops a.tmps) = true)
    (hj : ops[j]? = some oj) (hwj : Region.wanted oj (yielded ops a.tmps) = true) (hk : ops[k]? = some ok) (hwk : Region.wanted ok (yielded ops a.tmps) = true)
    (h1 : oi.wp P a w (fun a' w' => tillA A C (listed.setIfInBounds i true) w' ∧ wpAnyL P md ops Q A C fuel (listed.setIfInBounds i true) a' w') Q)
    (h2 : oj.wp P a w (fun a' w' => tillA A C (listed.setIfInBounds j true) w' ∧ wpAnyL P md ops Q A C fuel (listed.setIfInBounds j true) a' w') Q)
    (h3 : ok.wp P a w (fun a' w' => tillA A C (listed.setIfInBounds k true) w' ∧ wpAnyL P md ops Q A C fuel (listed.setIfInBounds k true) a' w') Q) : wpAnyL P md ops Q A C (fuel + 1) listed a w := by
  refine ⟨fun h0 => (by rw [hr] at h0; cases h0), fun m hm => ?_⟩
  rw [hr] at hm
  simp only [List.mem_cons, List.not_mem_nil, or_false] at hm
  unfold wpOp
  rcases hm with rfl | rfl | rfl
  · rw [hi]
    simp only [hwi, if_true]
    exact .inl h1
  · rw [hj]
    simp only [hwj, if_true]
    exact .inl h2
  · rw [hk]
    simp only [hwk, if_true]
    exact .inl h3
end
/-- What is in memory when the copy of a tree lies in its variable. -/
structure RcM (w wr : World) (n q : Nat) (vB vU : Value) (x y : Value) (B : List VS) (U : List Int) : Prop where
  ord : w.heap.size ≤ n
  av : Box2 wr n 33 x y
  rv : Box2 wr (n + 1) 33 (.slice none 0 0) (.slice none 0 0)
  qv : Box2 wr q 33 vB vU
  own : OwnSets wr (n + 2) vB B
  ownU : OwnInts wr (n + 2) vU U
  low : Below w.heap.size w wr
  qn : n + 2 ≤ q
theorem RcM.of {w wr : World} {n q : Nat} {vB vU x y : Value} {B : List VS} {U : List Int} (hn : w.heap.size ≤ n) (av : Box2 wr n 33 x y) (rv : Box2 wr (n + 1) 33 (.slice none 0 0) (.slice none 0 0))
    {z z' : Value} (qv : Box2 wr q 33 z z') (own : OwnSets wr (n + 2) vB B) (ownU : OwnInts wr (n + 2) vU U) (low : Below w.heap.size w wr) (qn : n + 2 ≤ q) :
    RcM w ((wr.setCell ⟨q, 0, none⟩ vB).setCell ⟨q, 1, none⟩ vU) n q vB vU x y B U := by
  have hg := grownBy_01 wr q vB vU
  have n1 : ∀ b, b ≠ q → some b ≠ some q := fun b hb e => hb (by simpa using e)
  exact ⟨hn, av.kept hg (n1 _ (by omega)), rv.kept hg (n1 _ (by omega)), qv.set01 _ _, own.kept hg (.inr (own_ne_box own qv (by decide))), ownU.kept hg (.inr (own_ne_box ownU qv (by decide))), below_01 low (by omega) _ _, qn⟩
theorem RcM.below {w wr wr' : World} {n q : Nat} {vB vU x y : Value} {B : List VS} {U : List Int} (h : RcM w wr n q vB vU x y B U) (hb : Below wr.heap.size wr wr') : RcM w wr' n q vB vU x y B U :=
  ⟨h.ord, h.av.below hb h.av.lt, h.rv.below hb h.rv.lt, h.qv.below hb h.qv.lt, h.own.below hb, h.ownU.below hb, h.low.trans (hb.mono h.low.size), h.qn⟩
set_option maxRecDepth 100000 in
set_option maxHeartbeats 16000000 in
theorem rMerge_c (v v2 : Value) (B : List VS) (U : List Int) (w : World) (hx : SetsAt w v B) (hy : IntsAt w v2 U) (hl : B.length ≤ 1000) (hlu : U.length ≤ 1000) :
    Calls Tryd.prog 37 #[.agg #[v, v2]] w (MergePost B U w) := by
  have HX := hid (fun w' (h : Below w.heap.size w w') => hx.below h)
  have HY := hid (fun w' (h : Below w.heap.size w w') => hy.below h)
  obtain ⟨px, cx, rfl, hdrop⟩ := id hx
  obtain ⟨py, cy, rfl, hdrop2⟩ := id hy
  clear hdrop hdrop2 hx hy
  have b0 := (Box2.new w 33 (.slice px B.length cx) (.slice py U.length cy)).alloc (.cells #[.slice none 0 0, .slice none 0 0] 33)
  have b1 := Box2.new (w.alloc (.cells #[.slice px B.length cx, .slice py U.length cy] 33)) 33 (.slice none 0 0) (.slice none 0 0)
  rw [World.size_alloc] at b1
  have bl : Below w.heap.size w ((w.alloc (.cells #[.slice px B.length cx, .slice py U.length cy] 33)).alloc (.cells #[.slice none 0 0, .slice none 0 0] 33)) := ((Below.refl _ w).alloc (Nat.le_refl _) _).alloc (by simp) _
  have hs0 : ((w.alloc (.cells #[.slice px B.length cx, .slice py U.length cy] 33)).alloc (.cells #[.slice none 0 0, .slice none 0 0] 33)).heap.size = w.heap.size + 2 := by simp
  have HB0 := hid b0
  have HB1 := hid b1
  have HBL := hid bl
  have HS0 := hid hs0
  clear b0 b1 bl hs0
  go_enter Tryd.func37, Tryd.ntmps37
  go_upto_region 1 with fail
  generalize (w.alloc (.cells #[.slice px B.length cx, .slice py U.length cy] 33)).alloc (.cells #[.slice none 0 0, .slice none 0 0] 33) = w1 at *
  obtain ⟨n, hn⟩ : ∃ n, n = w.heap.size := ⟨_, rfl⟩
  rw [← hn] at HB0 HB1 HS0 ⊢
  have HN := hid (show w.heap.size ≤ n by omega)
  clear hn
  go_cut [3] (fun s3 wx => ∃ (q : Nat) (vB vU : Value), s3 = .pointer (some ⟨q, 0, none⟩) ∧ Hid (RcM w wx n q vB vU (.slice px B.length cx) (.slice py U.length cy) B U))
  case first =>
    have BA : Hid (Box2 w1.drew n 33 (.slice px B.length cx) (.slice py U.length cy)) := HB0.out
    have ta0 : Box2 w1.drew n 33 (.slice px B.length cx) (.slice py U.length cy) := HB0.out
    have tr0 : Box2 w1.drew (n + 1) 33 (.slice none 0 0) (.slice none 0 0) := HB1.out
    have tb0 : Below w.heap.size w w1.drew := HBL.out.drew
    have ts0 : n + 2 ≤ w1.drew.heap.size := by show n + 2 ≤ w1.heap.size; rw [HS0.out]; exact Nat.le_refl _
    refine Go.Proofs.YtmlecpapoeodkaaDoor.wp_region_L 11 7 (fun w' => Box2 w' (n) 33 (.slice px B.length cx) (.slice py U.length cy)) (by kernel_rfl) rfl BA.out (fun _ => ?_)
    refine wpAnyL_pure (i := 1) (v := .pointer (some ⟨n, 0, none⟩)) (by simp only [List.getElem?_toArray, List.getElem?_cons_zero, List.getElem?_cons_succ] <;> rfl) (by kernel_rfl) (by kernel_rfl) (by kernel_rfl) (by exact fun _ _ _ h => h) (by decide) (.inr BA.out) (Or.inl ⟨by rfl, fun w _ => (by simp [execOp, go_sem, Act.eval])⟩) (fun _ => ?_)
    simp only [Act.put, List.setIfInBounds_toArray, List.set_cons_zero, List.set_cons_succ]
    refine wpAnyL_load2 (i := 2) (v := .slice px B.length cx) (by simp only [List.getElem?_toArray, List.getElem?_cons_zero, List.getElem?_cons_succ] <;> rfl) (by kernel_rfl) (by kernel_rfl) (by kernel_rfl) (by exact fun _ _ _ h => h) (by decide) (Waits.more (j := 3) rfl ⟨⟨3, .chain⟩, by simp, rfl, rfl⟩ (Waits.one rfl ⟨⟨2, .data⟩, by simp, rfl, rfl⟩)) (by kernel_rfl) (by kernel_rfl) (.inr BA.out) (Or.inl ⟨by rfl, fun w hw => (by have x0 := hw; simp [execOp, go_sem, Act.eval, x0.cells.1])⟩) (fun _ => ?_)
    simp only [Act.put, List.setIfInBounds_toArray, List.set_cons_zero, List.set_cons_succ]
    refine wpAnyL_pure (i := 5) (v := .pointer (some ⟨n, 1, none⟩)) (by simp only [List.getElem?_toArray, List.getElem?_cons_zero, List.getElem?_cons_succ] <;> rfl) (by kernel_rfl) (by kernel_rfl) (by kernel_rfl) (by exact fun _ _ _ h => h) (by decide) (.inr BA.out) (Or.inl ⟨by rfl, fun w _ => (by simp [execOp, go_sem, Act.eval])⟩) (fun _ => ?_)
    simp only [Act.put, List.setIfInBounds_toArray, List.set_cons_zero, List.set_cons_succ]
    refine wpAnyL_load2 (i := 6) (v := .slice py U.length cy) (by simp only [List.getElem?_toArray, List.getElem?_cons_zero, List.getElem?_cons_succ] <;> rfl) (by kernel_rfl) (by kernel_rfl) (by kernel_rfl) (by exact fun _ _ _ h => h) (by decide) (Waits.one rfl ⟨⟨6, .data⟩, by simp, rfl, rfl⟩) (by kernel_rfl) (by kernel_rfl) (.inr BA.out) (Or.inl ⟨by rfl, fun w hw => (by have x0 := hw; simp [execOp, go_sem, Act.eval, x0.cells.2.1])⟩) (fun _ => ?_)
    simp only [Act.put, List.setIfInBounds_toArray, List.set_cons_zero, List.set_cons_succ]
    refine wpAnyL_three (i := 0) (j := 4) (k := 9) (by kernel_rfl) (by simp only [List.getElem?_toArray, List.getElem?_cons_zero] <;> rfl) (by rfl) (by simp only [List.getElem?_toArray, List.getElem?_cons_zero, List.getElem?_cons_succ] <;> rfl) (by rfl) (by simp only [List.getElem?_toArray, List.getElem?_cons_zero, List.getElem?_cons_succ] <;> rfl) (by rfl) ?_ ?_ ?_
    · have tAa1 : Box2 (w1.drew.alloc (.cells #[] 32)) n 33 (.slice px B.length cx) (.slice py U.length cy) := ta0.alloc _
      have tRa1 : Box2 (w1.drew.alloc (.cells #[] 32)) (n + 1) 33 (.slice none 0 0) (.slice none 0 0) := tr0.alloc _
      have tBa1 : Below w.heap.size w (w1.drew.alloc (.cells #[] 32)) := tb0.alloc tb0.size _
      have tZa1 : n + 2 ≤ (w1.drew.alloc (.cells #[] 32)).heap.size := Nat.le_trans ts0 (by simp)
      have faa1_0 : Hid (Box2 (w1.drew.alloc (.cells #[] 32)) (n) 33 (.slice px B.length cx) (.slice py U.length cy)) := BA.out.alloc _
      have tSa1 : OwnSets (w1.drew.alloc (.cells #[] 32)) (n + 2) (.slice (some ⟨w1.heap.size, 0, none⟩) 0 0) [] := own_noneS w1.drew ts0
      refine opwp_value (v := (.slice (some ⟨w1.heap.size, 0, none⟩) 0 0)) (w' := (w1.drew.alloc (.cells #[] 32))) (by simp [execOp, go_sem]) ⟨.inr faa1_0.out, ?_⟩
      simp only [Act.put, List.setIfInBounds_toArray, List.set_cons_zero, List.set_cons_succ]
      refine wpAnyL_three (i := 3) (j := 4) (k := 9) (by kernel_rfl) (by simp only [List.getElem?_toArray, List.getElem?_cons_zero, List.getElem?_cons_succ] <;> rfl) (by rfl) (by simp only [List.getElem?_toArray, List.getElem?_cons_zero, List.getElem?_cons_succ] <;> rfl) (by rfl) (by simp only [List.getElem?_toArray, List.getElem?_cons_zero, List.getElem?_cons_succ] <;> rfl) (by rfl) ?_ ?_ ?_
      · refine opwp_append_S _ _ rfl (n + 2) (.slice (some ⟨w1.heap.size, 0, none⟩) 0 0) [] rfl tSa1 _ B rfl (HX.out _ tBa1) (by show 0 + _ ≤ 16777216; omega) tZa1 ?_
        intro vaa2 waa2 hoaa2 hgaa2 _
        rw [List.nil_append] at hoaa2
        obtain ⟨paa2, caa2, eaa2, _⟩ := OwnSets.sets hoaa2
        subst eaa2
        have tAaa3 : Box2 waa2 n 33 (.slice px B.length cx) (.slice py U.length cy) := tAa1.app tSa1 hgaa2 (by decide)
        have tRaa3 : Box2 waa2 (n + 1) 33 (.slice none 0 0) (.slice none 0 0) := tRa1.app tSa1 hgaa2 (by decide)
        have tBaa3 : Below w.heap.size w waa2 := tBa1.grown hgaa2 tBa1.size (fun k e => by have := (World.ownsRow.lt tSa1 k e).1; have := HN.out; omega)
        have tZaa3 : n + 2 ≤ waa2.heap.size := Nat.le_trans tZa1 hgaa2.size
        have faaa3_0 : Hid (Box2 waa2 (n) 33 (.slice px B.length cx) (.slice py U.length cy)) := faa1_0.out.app tSa1 hgaa2 (by decide)
        refine ⟨.inr faaa3_0.out, ?_⟩
        simp only [Act.put, List.setIfInBounds_toArray, List.set_cons_zero, List.set_cons_succ]
        refine wpAnyL_two (i := 4) (j := 9) (by kernel_rfl) (by simp only [List.getElem?_toArray, List.getElem?_cons_zero, List.getElem?_cons_succ] <;> rfl) (by rfl) (by simp only [List.getElem?_toArray, List.getElem?_cons_zero, List.getElem?_cons_succ] <;> rfl) (by rfl) ?_ ?_
        · have tAaaa4 : Box2 (waa2.alloc (.cells #[] 3)) n 33 (.slice px B.length cx) (.slice py U.length cy) := tAaa3.alloc _
          have tRaaa4 : Box2 (waa2.alloc (.cells #[] 3)) (n + 1) 33 (.slice none 0 0) (.slice none 0 0) := tRaa3.alloc _
          have tBaaa4 : Below w.heap.size w (waa2.alloc (.cells #[] 3)) := tBaa3.alloc tBaa3.size _
          have tZaaa4 : n + 2 ≤ (waa2.alloc (.cells #[] 3)).heap.size := Nat.le_trans tZaa3 (by simp)
          have tSaaa4 : OwnSets (waa2.alloc (.cells #[] 3)) (n + 2) (.slice paa2 B.length caa2) B := World.ownsRow.alloc hoaa2 _
          have faaaa4_0 : Hid (Box2 (waa2.alloc (.cells #[] 3)) (n) 33 (.slice px B.length cx) (.slice py U.length cy)) := faaa3_0.out.alloc _
          have tIaaa4 : OwnInts (waa2.alloc (.cells #[] 3)) (n + 2) (.slice (some ⟨waa2.heap.size, 0, none⟩) 0 0) [] := own_noneI waa2 tZaa3
          refine opwp_value (v := (.slice (some ⟨waa2.heap.size, 0, none⟩) 0 0)) (w' := (waa2.alloc (.cells #[] 3))) (by simp [execOp, go_sem]) ⟨.inr faaaa4_0.out, ?_⟩
          simp only [Act.put, List.setIfInBounds_toArray, List.set_cons_zero, List.set_cons_succ]
          refine wpAnyL_two (i := 7) (j := 9) (by kernel_rfl) (by simp only [List.getElem?_toArray, List.getElem?_cons_zero, List.getElem?_cons_succ] <;> rfl) (by rfl) (by simp only [List.getElem?_toArray, List.getElem?_cons_zero, List.getElem?_cons_succ] <;> rfl) (by rfl) ?_ ?_
          · refine opwp_append_I _ _ rfl (n + 2) (.slice (some ⟨waa2.heap.size, 0, none⟩) 0 0) [] rfl tIaaa4 _ U rfl (HY.out _ tBaaa4) (by show 0 + _ ≤ 16777216; omega) tZaaa4 ?_
            intro vaaaa5 waaaa5 hoaaaa5 hgaaaa5 _
            rw [List.nil_append] at hoaaaa5
            obtain ⟨paaaa5, caaaa5, eaaaa5, _⟩ := OwnInts.ints hoaaaa5
            subst eaaaa5
            have tAaaaa6 : Box2 waaaa5 n 33 (.slice px B.length cx) (.slice py U.length cy) := tAaaa4.app tIaaa4 hgaaaa5 (by decide)
            have tRaaaa6 : Box2 waaaa5 (n + 1) 33 (.slice none 0 0) (.slice none 0 0) := tRaaa4.app tIaaa4 hgaaaa5 (by decide)
            have tBaaaa6 : Below w.heap.size w waaaa5 := tBaaa4.grown hgaaaa5 tBaaa4.size (fun k e => by have := (World.ownsRow.lt tIaaa4 k e).1; have := HN.out; omega)
            have tZaaaa6 : n + 2 ≤ waaaa5.heap.size := Nat.le_trans tZaaa4 hgaaaa5.size
            have tSaaaa6 : OwnSets waaaa5 (n + 2) (.slice paa2 B.length caa2) B := World.ownsRow.kept tSaaa4 hgaaaa5 (own_apart tSaaa4 tIaaa4 (by decide))
            have faaaaa6_0 : Hid (Box2 waaaa5 (n) 33 (.slice px B.length cx) (.slice py U.length cy)) := faaaa4_0.out.app tIaaa4 hgaaaa5 (by decide)
            refine ⟨.inl (by kernel_rfl), ?_⟩
            simp only [Act.put, List.setIfInBounds_toArray, List.set_cons_zero, List.set_cons_succ]
            refine wpAnyL_two (i := 8) (j := 9) (by kernel_rfl) (by simp only [List.getElem?_toArray, List.getElem?_cons_zero, List.getElem?_cons_succ] <;> rfl) (by rfl) (by simp only [List.getElem?_toArray, List.getElem?_cons_zero, List.getElem?_cons_succ] <;> rfl) (by rfl) ?_ ?_
            · refine opwp_value (v := .agg #[(.slice paa2 B.length caa2), (.slice paaaa5 U.length caaaa5)]) (w' := waaaa5) (by simp [execOp, go_sem, Act.eval]) ⟨.inl (by kernel_rfl), ?_⟩
              simp only [Act.put, List.setIfInBounds_toArray, List.set_cons_zero, List.set_cons_succ]
              have tAaaaaa7 : Box2 (waaaa5.alloc (.cells #[.slice none 0 0, .slice none 0 0] 33)) n 33 (.slice px B.length cx) (.slice py U.length cy) := tAaaaa6.alloc _
              have tRaaaaa7 : Box2 (waaaa5.alloc (.cells #[.slice none 0 0, .slice none 0 0] 33)) (n + 1) 33 (.slice none 0 0) (.slice none 0 0) := tRaaaa6.alloc _
              have tBaaaaa7 : Below w.heap.size w (waaaa5.alloc (.cells #[.slice none 0 0, .slice none 0 0] 33)) := tBaaaa6.alloc tBaaaa6.size _
              have tZaaaaa7 : n + 2 ≤ (waaaa5.alloc (.cells #[.slice none 0 0, .slice none 0 0] 33)).heap.size := Nat.le_trans tZaaaa6 (by simp)
              have tSaaaaa7 : OwnSets (waaaa5.alloc (.cells #[.slice none 0 0, .slice none 0 0] 33)) (n + 2) (.slice paa2 B.length caa2) B := World.ownsRow.alloc tSaaaa6 _
              have tIaaaaa7 : OwnInts (waaaa5.alloc (.cells #[.slice none 0 0, .slice none 0 0] 33)) (n + 2) (.slice paaaa5 U.length caaaa5) U := World.ownsRow.alloc hoaaaa5 _
              have eQaaaaa7 : waaaa5.heap.size = waaaa5.heap.size := rfl
              have tQaaaaa7 : Box2 (waaaa5.alloc (.cells #[.slice none 0 0, .slice none 0 0] 33)) waaaa5.heap.size 33 (.slice none 0 0) (.slice none 0 0) := by have := Box2.new waaaa5 33 (.slice none 0 0) (.slice none 0 0); rw [eQaaaaa7] at this; exact this
              have tLaaaaa7 : n + 2 ≤ waaaa5.heap.size := Nat.le_trans tZaaaa6 (Nat.le_of_eq eQaaaaa7)
              clear eQaaaaa7
              refine wpAnyL_one (i := 9) (by kernel_rfl) (by simp only [List.getElem?_toArray, List.getElem?_cons_zero, List.getElem?_cons_succ] <;> rfl) (by rfl) ?_
              refine opwp_value (v := (.pointer (some ⟨waaaa5.heap.size, 0, none⟩))) (w' := (waaaa5.alloc (.cells #[.slice none 0 0, .slice none 0 0] 33))) (by simp [execOp, go_sem]) ⟨.inl (by kernel_rfl), ?_⟩
              simp only [Act.put, List.setIfInBounds_toArray, List.set_cons_zero, List.set_cons_succ]
              obtain ⟨z0, z1, z2, z3⟩ := tQaaaaa7.cells
              refine wpAnyL_one (i := 10) (by kernel_rfl) (by simp only [List.getElem?_toArray, List.getElem?_cons_zero, List.getElem?_cons_succ] <;> rfl) (by rfl) ?_
              refine opwp_skip (w' := (((waaaa5.alloc (.cells #[.slice none 0 0, .slice none 0 0] 33)).setCell ⟨waaaa5.heap.size, 0, none⟩ (.slice paa2 B.length caa2)).setCell ⟨waaaa5.heap.size, 1, none⟩ (.slice paaaa5 U.length caaaa5))) (by simp [execOp, go_sem, Act.eval, z0, z2]) ⟨.inl (by kernel_rfl), ?_⟩
              simp only [Act.put]
              refine wpAnyL_done (by kernel_rfl) ?_ _
              have hfin := hid (RcM.of HN.out tAaaaaa7 tRaaaaa7 tQaaaaa7 tSaaaaa7 tIaaaaa7 tBaaaaa7 tLaaaaa7)
              go_wp2_with fail
              go_meet
              exact ⟨_, _, _, rfl, hfin.out⟩
            · have tAaaaab7 : Box2 (waaaa5.alloc (.cells #[.slice none 0 0, .slice none 0 0] 33)) n 33 (.slice px B.length cx) (.slice py U.length cy) := tAaaaa6.alloc _
              have tRaaaab7 : Box2 (waaaa5.alloc (.cells #[.slice none 0 0, .slice none 0 0] 33)) (n + 1) 33 (.slice none 0 0) (.slice none 0 0) := tRaaaa6.alloc _
              have tBaaaab7 : Below w.heap.size w (waaaa5.alloc (.cells #[.slice none 0 0, .slice none 0 0] 33)) := tBaaaa6.alloc tBaaaa6.size _
              have tZaaaab7 : n + 2 ≤ (waaaa5.alloc (.cells #[.slice none 0 0, .slice none 0 0] 33)).heap.size := Nat.le_trans tZaaaa6 (by simp)
              have tSaaaab7 : OwnSets (waaaa5.alloc (.cells #[.slice none 0 0, .slice none 0 0] 33)) (n + 2) (.slice paa2 B.length caa2) B := World.ownsRow.alloc tSaaaa6 _
              have tIaaaab7 : OwnInts (waaaa5.alloc (.cells #[.slice none 0 0, .slice none 0 0] 33)) (n + 2) (.slice paaaa5 U.length caaaa5) U := World.ownsRow.alloc hoaaaa5 _
              have eQaaaab7 : waaaa5.heap.size = waaaa5.heap.size := rfl
              have tQaaaab7 : Box2 (waaaa5.alloc (.cells #[.slice none 0 0, .slice none 0 0] 33)) waaaa5.heap.size 33 (.slice none 0 0) (.slice none 0 0) := by have := Box2.new waaaa5 33 (.slice none 0 0) (.slice none 0 0); rw [eQaaaab7] at this; exact this
              have tLaaaab7 : n + 2 ≤ waaaa5.heap.size := Nat.le_trans tZaaaa6 (Nat.le_of_eq eQaaaab7)
              clear eQaaaab7
              refine opwp_value (v := (.pointer (some ⟨waaaa5.heap.size, 0, none⟩))) (w' := (waaaa5.alloc (.cells #[.slice none 0 0, .slice none 0 0] 33))) (by simp [execOp, go_sem]) ⟨.inl (by kernel_rfl), ?_⟩
              simp only [Act.put, List.setIfInBounds_toArray, List.set_cons_zero, List.set_cons_succ]
              refine wpAnyL_one (i := 8) (by kernel_rfl) (by simp only [List.getElem?_toArray, List.getElem?_cons_zero, List.getElem?_cons_succ] <;> rfl) (by rfl) ?_
              refine opwp_value (v := .agg #[(.slice paa2 B.length caa2), (.slice paaaa5 U.length caaaa5)]) (w' := (waaaa5.alloc (.cells #[.slice none 0 0, .slice none 0 0] 33))) (by simp [execOp, go_sem, Act.eval]) ⟨.inl (by kernel_rfl), ?_⟩
              simp only [Act.put, List.setIfInBounds_toArray, List.set_cons_zero, List.set_cons_succ]
              obtain ⟨z0, z1, z2, z3⟩ := tQaaaab7.cells
              refine wpAnyL_one (i := 10) (by kernel_rfl) (by simp only [List.getElem?_toArray, List.getElem?_cons_zero, List.getElem?_cons_succ] <;> rfl) (by rfl) ?_
              refine opwp_skip (w' := (((waaaa5.alloc (.cells #[.slice none 0 0, .slice none 0 0] 33)).setCell ⟨waaaa5.heap.size, 0, none⟩ (.slice paa2 B.length caa2)).setCell ⟨waaaa5.heap.size, 1, none⟩ (.slice paaaa5 U.length caaaa5))) (by simp [execOp, go_sem, Act.eval, z0, z2]) ⟨.inl (by kernel_rfl), ?_⟩
              simp only [Act.put]
              refine wpAnyL_done (by kernel_rfl) ?_ _
              have hfin := hid (RcM.of HN.out tAaaaab7 tRaaaab7 tQaaaab7 tSaaaab7 tIaaaab7 tBaaaab7 tLaaaab7)
              go_wp2_with fail
              go_meet
              exact ⟨_, _, _, rfl, hfin.out⟩
          · have tAaaab5 : Box2 ((waa2.alloc (.cells #[] 3)).alloc (.cells #[.slice none 0 0, .slice none 0 0] 33)) n 33 (.slice px B.length cx) (.slice py U.length cy) := tAaaa4.alloc _
            have tRaaab5 : Box2 ((waa2.alloc (.cells #[] 3)).alloc (.cells #[.slice none 0 0, .slice none 0 0] 33)) (n + 1) 33 (.slice none 0 0) (.slice none 0 0) := tRaaa4.alloc _
            have tBaaab5 : Below w.heap.size w ((waa2.alloc (.cells #[] 3)).alloc (.cells #[.slice none 0 0, .slice none 0 0] 33)) := tBaaa4.alloc tBaaa4.size _
            have tZaaab5 : n + 2 ≤ ((waa2.alloc (.cells #[] 3)).alloc (.cells #[.slice none 0 0, .slice none 0 0] 33)).heap.size := Nat.le_trans tZaaa4 (by simp)
            have tSaaab5 : OwnSets ((waa2.alloc (.cells #[] 3)).alloc (.cells #[.slice none 0 0, .slice none 0 0] 33)) (n + 2) (.slice paa2 B.length caa2) B := World.ownsRow.alloc tSaaa4 _
            have tIaaab5 : OwnInts ((waa2.alloc (.cells #[] 3)).alloc (.cells #[.slice none 0 0, .slice none 0 0] 33)) (n + 2) (.slice (some ⟨waa2.heap.size, 0, none⟩) 0 0) [] := World.ownsRow.alloc tIaaa4 _
            have faaaab5_0 : Hid (Box2 ((waa2.alloc (.cells #[] 3)).alloc (.cells #[.slice none 0 0, .slice none 0 0] 33)) (n) 33 (.slice px B.length cx) (.slice py U.length cy)) := faaaa4_0.out.alloc _
            have eQaaab5 : (waa2.alloc (.cells #[] 3)).heap.size = (waa2.heap.size + 1) := by simp
            have tQaaab5 : Box2 ((waa2.alloc (.cells #[] 3)).alloc (.cells #[.slice none 0 0, .slice none 0 0] 33)) (waa2.heap.size + 1) 33 (.slice none 0 0) (.slice none 0 0) := by have := Box2.new (waa2.alloc (.cells #[] 3)) 33 (.slice none 0 0) (.slice none 0 0); rw [eQaaab5] at this; exact this
            have tLaaab5 : n + 2 ≤ (waa2.heap.size + 1) := Nat.le_trans tZaaa4 (Nat.le_of_eq eQaaab5)
            clear eQaaab5
            refine opwp_value (v := (.pointer (some ⟨(waa2.heap.size + 1), 0, none⟩))) (w' := ((waa2.alloc (.cells #[] 3)).alloc (.cells #[.slice none 0 0, .slice none 0 0] 33))) (by simp [execOp, go_sem]) ⟨.inr faaaab5_0.out, ?_⟩
            simp only [Act.put, List.setIfInBounds_toArray, List.set_cons_zero, List.set_cons_succ]
            refine wpAnyL_one (i := 7) (by kernel_rfl) (by simp only [List.getElem?_toArray, List.getElem?_cons_zero, List.getElem?_cons_succ] <;> rfl) (by rfl) ?_
            refine opwp_append_I _ _ rfl (n + 2) (.slice (some ⟨waa2.heap.size, 0, none⟩) 0 0) [] rfl tIaaab5 _ U rfl (HY.out _ tBaaab5) (by show 0 + _ ≤ 16777216; omega) tZaaab5 ?_
            intro vaaab6 waaab6 hoaaab6 hgaaab6 _
            rw [List.nil_append] at hoaaab6
            obtain ⟨paaab6, caaab6, eaaab6, _⟩ := OwnInts.ints hoaaab6
            subst eaaab6
            have tAaaab7 : Box2 waaab6 n 33 (.slice px B.length cx) (.slice py U.length cy) := tAaaab5.app tIaaab5 hgaaab6 (by decide)
            have tRaaab7 : Box2 waaab6 (n + 1) 33 (.slice none 0 0) (.slice none 0 0) := tRaaab5.app tIaaab5 hgaaab6 (by decide)
            have tBaaab7 : Below w.heap.size w waaab6 := tBaaab5.grown hgaaab6 tBaaab5.size (fun k e => by have := (World.ownsRow.lt tIaaab5 k e).1; have := HN.out; omega)
            have tZaaab7 : n + 2 ≤ waaab6.heap.size := Nat.le_trans tZaaab5 hgaaab6.size
            have tSaaab7 : OwnSets waaab6 (n + 2) (.slice paa2 B.length caa2) B := World.ownsRow.kept tSaaab5 hgaaab6 (own_apart tSaaab5 tIaaab5 (by decide))
            have tQaaab7 : Box2 waaab6 (waa2.heap.size + 1) 33 (.slice none 0 0) (.slice none 0 0) := tQaaab5.app tIaaab5 hgaaab6 (by decide)
            have faaaab7_0 : Hid (Box2 waaab6 (n) 33 (.slice px B.length cx) (.slice py U.length cy)) := faaaab5_0.out.app tIaaab5 hgaaab6 (by decide)
            refine ⟨.inl (by kernel_rfl), ?_⟩
            simp only [Act.put, List.setIfInBounds_toArray, List.set_cons_zero, List.set_cons_succ]
            refine wpAnyL_one (i := 8) (by kernel_rfl) (by simp only [List.getElem?_toArray, List.getElem?_cons_zero, List.getElem?_cons_succ] <;> rfl) (by rfl) ?_
            refine opwp_value (v := .agg #[(.slice paa2 B.length caa2), (.slice paaab6 U.length caaab6)]) (w' := waaab6) (by simp [execOp, go_sem, Act.eval]) ⟨.inl (by kernel_rfl), ?_⟩
            simp only [Act.put, List.setIfInBounds_toArray, List.set_cons_zero, List.set_cons_succ]
            obtain ⟨z0, z1, z2, z3⟩ := tQaaab7.cells
            refine wpAnyL_one (i := 10) (by kernel_rfl) (by simp only [List.getElem?_toArray, List.getElem?_cons_zero, List.getElem?_cons_succ] <;> rfl) (by rfl) ?_
            refine opwp_skip (w' := ((waaab6.setCell ⟨(waa2.heap.size + 1), 0, none⟩ (.slice paa2 B.length caa2)).setCell ⟨(waa2.heap.size + 1), 1, none⟩ (.slice paaab6 U.length caaab6))) (by simp [execOp, go_sem, Act.eval, z0, z1, z2, z3]) ⟨.inl (by kernel_rfl), ?_⟩
            simp only [Act.put]
            refine wpAnyL_done (by kernel_rfl) ?_ _
            have hfin := hid (RcM.of HN.out tAaaab7 tRaaab7 tQaaab7 tSaaab7 hoaaab6 tBaaab7 tLaaab5)
            go_wp2_with fail
            go_meet
            exact ⟨_, _, _, rfl, hfin.out⟩
        · have tAaab4 : Box2 (waa2.alloc (.cells #[.slice none 0 0, .slice none 0 0] 33)) n 33 (.slice px B.length cx) (.slice py U.length cy) := tAaa3.alloc _
          have tRaab4 : Box2 (waa2.alloc (.cells #[.slice none 0 0, .slice none 0 0] 33)) (n + 1) 33 (.slice none 0 0) (.slice none 0 0) := tRaa3.alloc _
          have tBaab4 : Below w.heap.size w (waa2.alloc (.cells #[.slice none 0 0, .slice none 0 0] 33)) := tBaa3.alloc tBaa3.size _
          have tZaab4 : n + 2 ≤ (waa2.alloc (.cells #[.slice none 0 0, .slice none 0 0] 33)).heap.size := Nat.le_trans tZaa3 (by simp)
          have tSaab4 : OwnSets (waa2.alloc (.cells #[.slice none 0 0, .slice none 0 0] 33)) (n + 2) (.slice paa2 B.length caa2) B := World.ownsRow.alloc hoaa2 _
          have faaab4_0 : Hid (Box2 (waa2.alloc (.cells #[.slice none 0 0, .slice none 0 0] 33)) (n) 33 (.slice px B.length cx) (.slice py U.length cy)) := faaa3_0.out.alloc _
          have eQaab4 : waa2.heap.size = waa2.heap.size := rfl
          have tQaab4 : Box2 (waa2.alloc (.cells #[.slice none 0 0, .slice none 0 0] 33)) waa2.heap.size 33 (.slice none 0 0) (.slice none 0 0) := by have := Box2.new waa2 33 (.slice none 0 0) (.slice none 0 0); rw [eQaab4] at this; exact this
          have tLaab4 : n + 2 ≤ waa2.heap.size := Nat.le_trans tZaa3 (Nat.le_of_eq eQaab4)
          clear eQaab4
          refine opwp_value (v := (.pointer (some ⟨waa2.heap.size, 0, none⟩))) (w' := (waa2.alloc (.cells #[.slice none 0 0, .slice none 0 0] 33))) (by simp [execOp, go_sem]) ⟨.inr faaab4_0.out, ?_⟩
          simp only [Act.put, List.setIfInBounds_toArray, List.set_cons_zero, List.set_cons_succ]
          have tAaab5 : Box2 ((waa2.alloc (.cells #[.slice none 0 0, .slice none 0 0] 33)).alloc (.cells #[] 3)) n 33 (.slice px B.length cx) (.slice py U.length cy) := tAaab4.alloc _
          have tRaab5 : Box2 ((waa2.alloc (.cells #[.slice none 0 0, .slice none 0 0] 33)).alloc (.cells #[] 3)) (n + 1) 33 (.slice none 0 0) (.slice none 0 0) := tRaab4.alloc _
          have tBaab5 : Below w.heap.size w ((waa2.alloc (.cells #[.slice none 0 0, .slice none 0 0] 33)).alloc (.cells #[] 3)) := tBaab4.alloc tBaab4.size _
          have tZaab5 : n + 2 ≤ ((waa2.alloc (.cells #[.slice none 0 0, .slice none 0 0] 33)).alloc (.cells #[] 3)).heap.size := Nat.le_trans tZaab4 (by simp)
          have tSaab5 : OwnSets ((waa2.alloc (.cells #[.slice none 0 0, .slice none 0 0] 33)).alloc (.cells #[] 3)) (n + 2) (.slice paa2 B.length caa2) B := World.ownsRow.alloc tSaab4 _
          have tQaab5 : Box2 ((waa2.alloc (.cells #[.slice none 0 0, .slice none 0 0] 33)).alloc (.cells #[] 3)) waa2.heap.size 33 (.slice none 0 0) (.slice none 0 0) := tQaab4.alloc _
          have faaab5_0 : Hid (Box2 ((waa2.alloc (.cells #[.slice none 0 0, .slice none 0 0] 33)).alloc (.cells #[] 3)) (n) 33 (.slice px B.length cx) (.slice py U.length cy)) := faaab4_0.out.alloc _
          have tIaab5 : OwnInts ((waa2.alloc (.cells #[.slice none 0 0, .slice none 0 0] 33)).alloc (.cells #[] 3)) (n + 2) (.slice (some ⟨(waa2.alloc (.cells #[.slice none 0 0, .slice none 0 0] 33)).heap.size, 0, none⟩) 0 0) [] := own_noneI (waa2.alloc (.cells #[.slice none 0 0, .slice none 0 0] 33)) tZaab4
          refine wpAnyL_one (i := 4) (by kernel_rfl) (by simp only [List.getElem?_toArray, List.getElem?_cons_zero, List.getElem?_cons_succ] <;> rfl) (by rfl) ?_
          refine opwp_value (v := (.slice (some ⟨(waa2.alloc (.cells #[.slice none 0 0, .slice none 0 0] 33)).heap.size, 0, none⟩) 0 0)) (w' := ((waa2.alloc (.cells #[.slice none 0 0, .slice none 0 0] 33)).alloc (.cells #[] 3))) (by simp [execOp, go_sem]) ⟨.inr faaab5_0.out, ?_⟩
          simp only [Act.put, List.setIfInBounds_toArray, List.set_cons_zero, List.set_cons_succ]
          refine wpAnyL_one (i := 7) (by kernel_rfl) (by simp only [List.getElem?_toArray, List.getElem?_cons_zero, List.getElem?_cons_succ] <;> rfl) (by rfl) ?_
          refine opwp_append_I _ _ rfl (n + 2) (.slice (some ⟨(waa2.alloc (.cells #[.slice none 0 0, .slice none 0 0] 33)).heap.size, 0, none⟩) 0 0) [] rfl tIaab5 _ U rfl (HY.out _ tBaab5) (by show 0 + _ ≤ 16777216; omega) tZaab5 ?_
          intro vaab6 waab6 hoaab6 hgaab6 _
          rw [List.nil_append] at hoaab6
          obtain ⟨paab6, caab6, eaab6, _⟩ := OwnInts.ints hoaab6
          subst eaab6
          have tAaab7 : Box2 waab6 n 33 (.slice px B.length cx) (.slice py U.length cy) := tAaab5.app tIaab5 hgaab6 (by decide)
          have tRaab7 : Box2 waab6 (n + 1) 33 (.slice none 0 0) (.slice none 0 0) := tRaab5.app tIaab5 hgaab6 (by decide)
          have tBaab7 : Below w.heap.size w waab6 := tBaab5.grown hgaab6 tBaab5.size (fun k e => by have := (World.ownsRow.lt tIaab5 k e).1; have := HN.out; omega)
          have tZaab7 : n + 2 ≤ waab6.heap.size := Nat.le_trans tZaab5 hgaab6.size
          have tSaab7 : OwnSets waab6 (n + 2) (.slice paa2 B.length caa2) B := World.ownsRow.kept tSaab5 hgaab6 (own_apart tSaab5 tIaab5 (by decide))
          have tQaab7 : Box2 waab6 waa2.heap.size 33 (.slice none 0 0) (.slice none 0 0) := tQaab5.app tIaab5 hgaab6 (by decide)
          have faaab7_0 : Hid (Box2 waab6 (n) 33 (.slice px B.length cx) (.slice py U.length cy)) := faaab5_0.out.app tIaab5 hgaab6 (by decide)
          refine ⟨.inl (by kernel_rfl), ?_⟩
          simp only [Act.put, List.setIfInBounds_toArray, List.set_cons_zero, List.set_cons_succ]
          refine wpAnyL_one (i := 8) (by kernel_rfl) (by simp only [List.getElem?_toArray, List.getElem?_cons_zero, List.getElem?_cons_succ] <;> rfl) (by rfl) ?_
          refine opwp_value (v := .agg #[(.slice paa2 B.length caa2), (.slice paab6 U.length caab6)]) (w' := waab6) (by simp [execOp, go_sem, Act.eval]) ⟨.inl (by kernel_rfl), ?_⟩
          simp only [Act.put, List.setIfInBounds_toArray, List.set_cons_zero, List.set_cons_succ]
          obtain ⟨z0, z1, z2, z3⟩ := tQaab7.cells
          refine wpAnyL_one (i := 10) (by kernel_rfl) (by simp only [List.getElem?_toArray, List.getElem?_cons_zero, List.getElem?_cons_succ] <;> rfl) (by rfl) ?_
          refine opwp_skip (w' := ((waab6.setCell ⟨waa2.heap.size, 0, none⟩ (.slice paa2 B.length caa2)).setCell ⟨waa2.heap.size, 1, none⟩ (.slice paab6 U.length caab6))) (by simp [execOp, go_sem, Act.eval, z0, z1, z2, z3]) ⟨.inl (by kernel_rfl), ?_⟩
          simp only [Act.put]
          refine wpAnyL_done (by kernel_rfl) ?_ _
          have hfin := hid (RcM.of HN.out tAaab7 tRaab7 tQaab7 tSaab7 hoaab6 tBaab7 tLaab4)
          go_wp2_with fail
          go_meet
          exact ⟨_, _, _, rfl, hfin.out⟩
      · have tAab2 : Box2 ((w1.drew.alloc (.cells #[] 32)).alloc (.cells #[] 3)) n 33 (.slice px B.length cx) (.slice py U.length cy) := tAa1.alloc _
        have tRab2 : Box2 ((w1.drew.alloc (.cells #[] 32)).alloc (.cells #[] 3)) (n + 1) 33 (.slice none 0 0) (.slice none 0 0) := tRa1.alloc _
        have tBab2 : Below w.heap.size w ((w1.drew.alloc (.cells #[] 32)).alloc (.cells #[] 3)) := tBa1.alloc tBa1.size _
        have tZab2 : n + 2 ≤ ((w1.drew.alloc (.cells #[] 32)).alloc (.cells #[] 3)).heap.size := Nat.le_trans tZa1 (by simp)
        have tSab2 : OwnSets ((w1.drew.alloc (.cells #[] 32)).alloc (.cells #[] 3)) (n + 2) (.slice (some ⟨w1.heap.size, 0, none⟩) 0 0) [] := World.ownsRow.alloc tSa1 _
        have faab2_0 : Hid (Box2 ((w1.drew.alloc (.cells #[] 32)).alloc (.cells #[] 3)) (n) 33 (.slice px B.length cx) (.slice py U.length cy)) := faa1_0.out.alloc _
        have tIab2 : OwnInts ((w1.drew.alloc (.cells #[] 32)).alloc (.cells #[] 3)) (n + 2) (.slice (some ⟨(w1.drew.alloc (.cells #[] 32)).heap.size, 0, none⟩) 0 0) [] := own_noneI (w1.drew.alloc (.cells #[] 32)) tZa1
        refine opwp_value (v := (.slice (some ⟨(w1.drew.alloc (.cells #[] 32)).heap.size, 0, none⟩) 0 0)) (w' := ((w1.drew.alloc (.cells #[] 32)).alloc (.cells #[] 3))) (by simp [execOp, go_sem]) ⟨.inr faab2_0.out, ?_⟩
        simp only [Act.put, List.setIfInBounds_toArray, List.set_cons_zero, List.set_cons_succ]
        refine wpAnyL_two (i := 3) (j := 9) (by kernel_rfl) (by simp only [List.getElem?_toArray, List.getElem?_cons_zero, List.getElem?_cons_succ] <;> rfl) (by rfl) (by simp only [List.getElem?_toArray, List.getElem?_cons_zero, List.getElem?_cons_succ] <;> rfl) (by rfl) ?_ ?_
        · refine opwp_append_S _ _ rfl (n + 2) (.slice (some ⟨w1.heap.size, 0, none⟩) 0 0) [] rfl tSab2 _ B rfl (HX.out _ tBab2) (by show 0 + _ ≤ 16777216; omega) tZab2 ?_
          intro vaba3 waba3 hoaba3 hgaba3 _
          rw [List.nil_append] at hoaba3
          obtain ⟨paba3, caba3, eaba3, _⟩ := OwnSets.sets hoaba3
          subst eaba3
          have tAaba4 : Box2 waba3 n 33 (.slice px B.length cx) (.slice py U.length cy) := tAab2.app tSab2 hgaba3 (by decide)
          have tRaba4 : Box2 waba3 (n + 1) 33 (.slice none 0 0) (.slice none 0 0) := tRab2.app tSab2 hgaba3 (by decide)
          have tBaba4 : Below w.heap.size w waba3 := tBab2.grown hgaba3 tBab2.size (fun k e => by have := (World.ownsRow.lt tSab2 k e).1; have := HN.out; omega)
          have tZaba4 : n + 2 ≤ waba3.heap.size := Nat.le_trans tZab2 hgaba3.size
          have tIaba4 : OwnInts waba3 (n + 2) (.slice (some ⟨(w1.drew.alloc (.cells #[] 32)).heap.size, 0, none⟩) 0 0) [] := World.ownsRow.kept tIab2 hgaba3 (own_apart tIab2 tSab2 (by decide))
          have faaba4_0 : Hid (Box2 waba3 (n) 33 (.slice px B.length cx) (.slice py U.length cy)) := faab2_0.out.app tSab2 hgaba3 (by decide)
          refine ⟨.inr faaba4_0.out, ?_⟩
          simp only [Act.put, List.setIfInBounds_toArray, List.set_cons_zero, List.set_cons_succ]
          refine wpAnyL_two (i := 7) (j := 9) (by kernel_rfl) (by simp only [List.getElem?_toArray, List.getElem?_cons_zero, List.getElem?_cons_succ] <;> rfl) (by rfl) (by simp only [List.getElem?_toArray, List.getElem?_cons_zero, List.getElem?_cons_succ] <;> rfl) (by rfl) ?_ ?_
          · refine opwp_append_I _ _ rfl (n + 2) (.slice (some ⟨(w1.drew.alloc (.cells #[] 32)).heap.size, 0, none⟩) 0 0) [] rfl tIaba4 _ U rfl (HY.out _ tBaba4) (by show 0 + _ ≤ 16777216; omega) tZaba4 ?_
            intro vabaa5 wabaa5 hoabaa5 hgabaa5 _
            rw [List.nil_append] at hoabaa5
            obtain ⟨pabaa5, cabaa5, eabaa5, _⟩ := OwnInts.ints hoabaa5
            subst eabaa5
            have tAabaa6 : Box2 wabaa5 n 33 (.slice px B.length cx) (.slice py U.length cy) := tAaba4.app tIaba4 hgabaa5 (by decide)
            have tRabaa6 : Box2 wabaa5 (n + 1) 33 (.slice none 0 0) (.slice none 0 0) := tRaba4.app tIaba4 hgabaa5 (by decide)
            have tBabaa6 : Below w.heap.size w wabaa5 := tBaba4.grown hgabaa5 tBaba4.size (fun k e => by have := (World.ownsRow.lt tIaba4 k e).1; have := HN.out; omega)
            have tZabaa6 : n + 2 ≤ wabaa5.heap.size := Nat.le_trans tZaba4 hgabaa5.size
            have tSabaa6 : OwnSets wabaa5 (n + 2) (.slice paba3 B.length caba3) B := World.ownsRow.kept hoaba3 hgabaa5 (own_apart hoaba3 tIaba4 (by decide))
            have faabaa6_0 : Hid (Box2 wabaa5 (n) 33 (.slice px B.length cx) (.slice py U.length cy)) := faaba4_0.out.app tIaba4 hgabaa5 (by decide)
            refine ⟨.inl (by kernel_rfl), ?_⟩
            simp only [Act.put, List.setIfInBounds_toArray, List.set_cons_zero, List.set_cons_succ]
            refine wpAnyL_two (i := 8) (j := 9) (by kernel_rfl) (by simp only [List.getElem?_toArray, List.getElem?_cons_zero, List.getElem?_cons_succ] <;> rfl) (by rfl) (by simp only [List.getElem?_toArray, List.getElem?_cons_zero, List.getElem?_cons_succ] <;> rfl) (by rfl) ?_ ?_
            · refine opwp_value (v := .agg #[(.slice paba3 B.length caba3), (.slice pabaa5 U.length cabaa5)]) (w' := wabaa5) (by simp [execOp, go_sem, Act.eval]) ⟨.inl (by kernel_rfl), ?_⟩
              simp only [Act.put, List.setIfInBounds_toArray, List.set_cons_zero, List.set_cons_succ]
              have tAabaaa7 : Box2 (wabaa5.alloc (.cells #[.slice none 0 0, .slice none 0 0] 33)) n 33 (.slice px B.length cx) (.slice py U.length cy) := tAabaa6.alloc _
              have tRabaaa7 : Box2 (wabaa5.alloc (.cells #[.slice none 0 0, .slice none 0 0] 33)) (n + 1) 33 (.slice none 0 0) (.slice none 0 0) := tRabaa6.alloc _
              have tBabaaa7 : Below w.heap.size w (wabaa5.alloc (.cells #[.slice none 0 0, .slice none 0 0] 33)) := tBabaa6.alloc tBabaa6.size _
              have tZabaaa7 : n + 2 ≤ (wabaa5.alloc (.cells #[.slice none 0 0, .slice none 0 0] 33)).heap.size := Nat.le_trans tZabaa6 (by simp)
              have tSabaaa7 : OwnSets (wabaa5.alloc (.cells #[.slice none 0 0, .slice none 0 0] 33)) (n + 2) (.slice paba3 B.length caba3) B := World.ownsRow.alloc tSabaa6 _
              have tIabaaa7 : OwnInts (wabaa5.alloc (.cells #[.slice none 0 0, .slice none 0 0] 33)) (n + 2) (.slice pabaa5 U.length cabaa5) U := World.ownsRow.alloc hoabaa5 _
              have eQabaaa7 : wabaa5.heap.size = wabaa5.heap.size := rfl
              have tQabaaa7 : Box2 (wabaa5.alloc (.cells #[.slice none 0 0, .slice none 0 0] 33)) wabaa5.heap.size 33 (.slice none 0 0) (.slice none 0 0) := by have := Box2.new wabaa5 33 (.slice none 0 0) (.slice none 0 0); rw [eQabaaa7] at this; exact this
              have tLabaaa7 : n + 2 ≤ wabaa5.heap.size := Nat.le_trans tZabaa6 (Nat.le_of_eq eQabaaa7)
              clear eQabaaa7
              refine wpAnyL_one (i := 9) (by kernel_rfl) (by simp only [List.getElem?_toArray, List.getElem?_cons_zero, List.getElem?_cons_succ] <;> rfl) (by rfl) ?_
              refine opwp_value (v := (.pointer (some ⟨wabaa5.heap.size, 0, none⟩))) (w' := (wabaa5.alloc (.cells #[.slice none 0 0, .slice none 0 0] 33))) (by simp [execOp, go_sem]) ⟨.inl (by kernel_rfl), ?_⟩
              simp only [Act.put, List.setIfInBounds_toArray, List.set_cons_zero, List.set_cons_succ]
              obtain ⟨z0, z1, z2, z3⟩ := tQabaaa7.cells
              refine wpAnyL_one (i := 10) (by kernel_rfl) (by simp only [List.getElem?_toArray, List.getElem?_cons_zero, List.getElem?_cons_succ] <;> rfl) (by rfl) ?_
              refine opwp_skip (w' := (((wabaa5.alloc (.cells #[.slice none 0 0, .slice none 0 0] 33)).setCell ⟨wabaa5.heap.size, 0, none⟩ (.slice paba3 B.length caba3)).setCell ⟨wabaa5.heap.size, 1, none⟩ (.slice pabaa5 U.length cabaa5))) (by simp [execOp, go_sem, Act.eval, z0, z2]) ⟨.inl (by kernel_rfl), ?_⟩
              simp only [Act.put]
              refine wpAnyL_done (by kernel_rfl) ?_ _
              have hfin := hid (RcM.of HN.out tAabaaa7 tRabaaa7 tQabaaa7 tSabaaa7 tIabaaa7 tBabaaa7 tLabaaa7)
              go_wp2_with fail
              go_meet
              exact ⟨_, _, _, rfl, hfin.out⟩
            · have tAabaab7 : Box2 (wabaa5.alloc (.cells #[.slice none 0 0, .slice none 0 0] 33)) n 33 (.slice px B.length cx) (.slice py U.length cy) := tAabaa6.alloc _
              have tRabaab7 : Box2 (wabaa5.alloc (.cells #[.slice none 0 0, .slice none 0 0] 33)) (n + 1) 33 (.slice none 0 0) (.slice none 0 0) := tRabaa6.alloc _
              have tBabaab7 : Below w.heap.size w (wabaa5.alloc (.cells #[.slice none 0 0, .slice none 0 0] 33)) := tBabaa6.alloc tBabaa6.size _
              have tZabaab7 : n + 2 ≤ (wabaa5.alloc (.cells #[.slice none 0 0, .slice none 0 0] 33)).heap.size := Nat.le_trans tZabaa6 (by simp)
              have tSabaab7 : OwnSets (wabaa5.alloc (.cells #[.slice none 0 0, .slice none 0 0] 33)) (n + 2) (.slice paba3 B.length caba3) B := World.ownsRow.alloc tSabaa6 _
              have tIabaab7 : OwnInts (wabaa5.alloc (.cells #[.slice none 0 0, .slice none 0 0] 33)) (n + 2) (.slice pabaa5 U.length cabaa5) U := World.ownsRow.alloc hoabaa5 _
              have eQabaab7 : wabaa5.heap.size = wabaa5.heap.size := rfl
              have tQabaab7 : Box2 (wabaa5.alloc (.cells #[.slice none 0 0, .slice none 0 0] 33)) wabaa5.heap.size 33 (.slice none 0 0) (.slice none 0 0) := by have := Box2.new wabaa5 33 (.slice none 0 0) (.slice none 0 0); rw [eQabaab7] at this; exact this
              have tLabaab7 : n + 2 ≤ wabaa5.heap.size := Nat.le_trans tZabaa6 (Nat.le_of_eq eQabaab7)
              clear eQabaab7
              refine opwp_value (v := (.pointer (some ⟨wabaa5.heap.size, 0, none⟩))) (w' := (wabaa5.alloc (.cells #[.slice none 0 0, .slice none 0 0] 33))) (by simp [execOp, go_sem]) ⟨.inl (by kernel_rfl), ?_⟩
              simp only [Act.put, List.setIfInBounds_toArray, List.set_cons_zero, List.set_cons_succ]
              refine wpAnyL_one (i := 8) (by kernel_rfl) (by simp only [List.getElem?_toArray, List.getElem?_cons_zero, List.getElem?_cons_succ] <;> rfl) (by rfl) ?_
              refine opwp_value (v := .agg #[(.slice paba3 B.length caba3), (.slice pabaa5 U.length cabaa5)]) (w' := (wabaa5.alloc (.cells #[.slice none 0 0, .slice none 0 0] 33))) (by simp [execOp, go_sem, Act.eval]) ⟨.inl (by kernel_rfl), ?_⟩
              simp only [Act.put, List.setIfInBounds_toArray, List.set_cons_zero, List.set_cons_succ]
              obtain ⟨z0, z1, z2, z3⟩ := tQabaab7.cells
              refine wpAnyL_one (i := 10) (by kernel_rfl) (by simp only [List.getElem?_toArray, List.getElem?_cons_zero, List.getElem?_cons_succ] <;> rfl) (by rfl) ?_
              refine opwp_skip (w' := (((wabaa5.alloc (.cells #[.slice none 0 0, .slice none 0 0] 33)).setCell ⟨wabaa5.heap.size, 0, none⟩ (.slice paba3 B.length caba3)).setCell ⟨wabaa5.heap.size, 1, none⟩ (.slice pabaa5 U.length cabaa5))) (by simp [execOp, go_sem, Act.eval, z0, z2]) ⟨.inl (by kernel_rfl), ?_⟩
              simp only [Act.put]
              refine wpAnyL_done (by kernel_rfl) ?_ _
              have hfin := hid (RcM.of HN.out tAabaab7 tRabaab7 tQabaab7 tSabaab7 tIabaab7 tBabaab7 tLabaab7)
              go_wp2_with fail
              go_meet
              exact ⟨_, _, _, rfl, hfin.out⟩
          · have tAabab5 : Box2 (waba3.alloc (.cells #[.slice none 0 0, .slice none 0 0] 33)) n 33 (.slice px B.length cx) (.slice py U.length cy) := tAaba4.alloc _
            have tRabab5 : Box2 (waba3.alloc (.cells #[.slice none 0 0, .slice none 0 0] 33)) (n + 1) 33 (.slice none 0 0) (.slice none 0 0) := tRaba4.alloc _
            have tBabab5 : Below w.heap.size w (waba3.alloc (.cells #[.slice none 0 0, .slice none 0 0] 33)) := tBaba4.alloc tBaba4.size _
            have tZabab5 : n + 2 ≤ (waba3.alloc (.cells #[.slice none 0 0, .slice none 0 0] 33)).heap.size := Nat.le_trans tZaba4 (by simp)
            have tSabab5 : OwnSets (waba3.alloc (.cells #[.slice none 0 0, .slice none 0 0] 33)) (n + 2) (.slice paba3 B.length caba3) B := World.ownsRow.alloc hoaba3 _
            have tIabab5 : OwnInts (waba3.alloc (.cells #[.slice none 0 0, .slice none 0 0] 33)) (n + 2) (.slice (some ⟨(w1.drew.alloc (.cells #[] 32)).heap.size, 0, none⟩) 0 0) [] := World.ownsRow.alloc tIaba4 _
            have faabab5_0 : Hid (Box2 (waba3.alloc (.cells #[.slice none 0 0, .slice none 0 0] 33)) (n) 33 (.slice px B.length cx) (.slice py U.length cy)) := faaba4_0.out.alloc _
            have eQabab5 : waba3.heap.size = waba3.heap.size := rfl
            have tQabab5 : Box2 (waba3.alloc (.cells #[.slice none 0 0, .slice none 0 0] 33)) waba3.heap.size 33 (.slice none 0 0) (.slice none 0 0) := by have := Box2.new waba3 33 (.slice none 0 0) (.slice none 0 0); rw [eQabab5] at this; exact this
            have tLabab5 : n + 2 ≤ waba3.heap.size := Nat.le_trans tZaba4 (Nat.le_of_eq eQabab5)
            clear eQabab5
            refine opwp_value (v := (.pointer (some ⟨waba3.heap.size, 0, none⟩))) (w' := (waba3.alloc (.cells #[.slice none 0 0, .slice none 0 0] 33))) (by simp [execOp, go_sem]) ⟨.inr faabab5_0.out, ?_⟩
            simp only [Act.put, List.setIfInBounds_toArray, List.set_cons_zero, List.set_cons_succ]
            refine wpAnyL_one (i := 7) (by kernel_rfl) (by simp only [List.getElem?_toArray, List.getElem?_cons_zero, List.getElem?_cons_succ] <;> rfl) (by rfl) ?_
            refine opwp_append_I _ _ rfl (n + 2) (.slice (some ⟨(w1.drew.alloc (.cells #[] 32)).heap.size, 0, none⟩) 0 0) [] rfl tIabab5 _ U rfl (HY.out _ tBabab5) (by show 0 + _ ≤ 16777216; omega) tZabab5 ?_
            intro vabab6 wabab6 hoabab6 hgabab6 _
            rw [List.nil_append] at hoabab6
            obtain ⟨pabab6, cabab6, eabab6, _⟩ := OwnInts.ints hoabab6
            subst eabab6
            have tAabab7 : Box2 wabab6 n 33 (.slice px B.length cx) (.slice py U.length cy) := tAabab5.app tIabab5 hgabab6 (by decide)
            have tRabab7 : Box2 wabab6 (n + 1) 33 (.slice none 0 0) (.slice none 0 0) := tRabab5.app tIabab5 hgabab6 (by decide)
            have tBabab7 : Below w.heap.size w wabab6 := tBabab5.grown hgabab6 tBabab5.size (fun k e => by have := (World.ownsRow.lt tIabab5 k e).1; have := HN.out; omega)
            have tZabab7 : n + 2 ≤ wabab6.heap.size := Nat.le_trans tZabab5 hgabab6.size
            have tSabab7 : OwnSets wabab6 (n + 2) (.slice paba3 B.length caba3) B := World.ownsRow.kept tSabab5 hgabab6 (own_apart tSabab5 tIabab5 (by decide))
            have tQabab7 : Box2 wabab6 waba3.heap.size 33 (.slice none 0 0) (.slice none 0 0) := tQabab5.app tIabab5 hgabab6 (by decide)
            have faabab7_0 : Hid (Box2 wabab6 (n) 33 (.slice px B.length cx) (.slice py U.length cy)) := faabab5_0.out.app tIabab5 hgabab6 (by decide)
            refine ⟨.inl (by kernel_rfl), ?_⟩
            simp only [Act.put, List.setIfInBounds_toArray, List.set_cons_zero, List.set_cons_succ]
            refine wpAnyL_one (i := 8) (by kernel_rfl) (by simp only [List.getElem?_toArray, List.getElem?_cons_zero, List.getElem?_cons_succ] <;> rfl) (by rfl) ?_
            refine opwp_value (v := .agg #[(.slice paba3 B.length caba3), (.slice pabab6 U.length cabab6)]) (w' := wabab6) (by simp [execOp, go_sem, Act.eval]) ⟨.inl (by kernel_rfl), ?_⟩
            simp only [Act.put, List.setIfInBounds_toArray, List.set_cons_zero, List.set_cons_succ]
            obtain ⟨z0, z1, z2, z3⟩ := tQabab7.cells
            refine wpAnyL_one (i := 10) (by kernel_rfl) (by simp only [List.getElem?_toArray, List.getElem?_cons_zero, List.getElem?_cons_succ] <;> rfl) (by rfl) ?_
            refine opwp_skip (w' := ((wabab6.setCell ⟨waba3.heap.size, 0, none⟩ (.slice paba3 B.length caba3)).setCell ⟨waba3.heap.size, 1, none⟩ (.slice pabab6 U.length cabab6))) (by simp [execOp, go_sem, Act.eval, z0, z1, z2, z3]) ⟨.inl (by kernel_rfl), ?_⟩
            simp only [Act.put]
            refine wpAnyL_done (by kernel_rfl) ?_ _
            have hfin := hid (RcM.of HN.out tAabab7 tRabab7 tQabab7 tSabab7 hoabab6 tBabab7 tLabab5)
            go_wp2_with fail
            go_meet
            exact ⟨_, _, _, rfl, hfin.out⟩
        · have tAabb3 : Box2 (((w1.drew.alloc (.cells #[] 32)).alloc (.cells #[] 3)).alloc (.cells #[.slice none 0 0, .slice none 0 0] 33)) n 33 (.slice px B.length cx) (.slice py U.length cy) := tAab2.alloc _
          have tRabb3 : Box2 (((w1.drew.alloc (.cells #[] 32)).alloc (.cells #[] 3)).alloc (.cells #[.slice none 0 0, .slice none 0 0] 33)) (n + 1) 33 (.slice none 0 0) (.slice none 0 0) := tRab2.alloc _
          have tBabb3 : Below w.heap.size w (((w1.drew.alloc (.cells #[] 32)).alloc (.cells #[] 3)).alloc (.cells #[.slice none 0 0, .slice none 0 0] 33)) := tBab2.alloc tBab2.size _
          have tZabb3 : n + 2 ≤ (((w1.drew.alloc (.cells #[] 32)).alloc (.cells #[] 3)).alloc (.cells #[.slice none 0 0, .slice none 0 0] 33)).heap.size := Nat.le_trans tZab2 (by simp)
          have tSabb3 : OwnSets (((w1.drew.alloc (.cells #[] 32)).alloc (.cells #[] 3)).alloc (.cells #[.slice none 0 0, .slice none 0 0] 33)) (n + 2) (.slice (some ⟨w1.heap.size, 0, none⟩) 0 0) [] := World.ownsRow.alloc tSab2 _
          have tIabb3 : OwnInts (((w1.drew.alloc (.cells #[] 32)).alloc (.cells #[] 3)).alloc (.cells #[.slice none 0 0, .slice none 0 0] 33)) (n + 2) (.slice (some ⟨(w1.drew.alloc (.cells #[] 32)).heap.size, 0, none⟩) 0 0) [] := World.ownsRow.alloc tIab2 _
          have faabb3_0 : Hid (Box2 (((w1.drew.alloc (.cells #[] 32)).alloc (.cells #[] 3)).alloc (.cells #[.slice none 0 0, .slice none 0 0] 33)) (n) 33 (.slice px B.length cx) (.slice py U.length cy)) := faab2_0.out.alloc _
          have eQabb3 : ((w1.drew.alloc (.cells #[] 32)).alloc (.cells #[] 3)).heap.size = (w1.heap.size + 1 + 1) := by simp
          have tQabb3 : Box2 (((w1.drew.alloc (.cells #[] 32)).alloc (.cells #[] 3)).alloc (.cells #[.slice none 0 0, .slice none 0 0] 33)) (w1.heap.size + 1 + 1) 33 (.slice none 0 0) (.slice none 0 0) := by have := Box2.new ((w1.drew.alloc (.cells #[] 32)).alloc (.cells #[] 3)) 33 (.slice none 0 0) (.slice none 0 0); rw [eQabb3] at this; exact this
          have tLabb3 : n + 2 ≤ (w1.heap.size + 1 + 1) := Nat.le_trans tZab2 (Nat.le_of_eq eQabb3)
          clear eQabb3
          refine opwp_value (v := (.pointer (some ⟨(w1.heap.size + 1 + 1), 0, none⟩))) (w' := (((w1.drew.alloc (.cells #[] 32)).alloc (.cells #[] 3)).alloc (.cells #[.slice none 0 0, .slice none 0 0] 33))) (by simp [execOp, go_sem]) ⟨.inr faabb3_0.out, ?_⟩
          simp only [Act.put, List.setIfInBounds_toArray, List.set_cons_zero, List.set_cons_succ]
          refine wpAnyL_one (i := 3) (by kernel_rfl) (by simp only [List.getElem?_toArray, List.getElem?_cons_zero, List.getElem?_cons_succ] <;> rfl) (by rfl) ?_
          refine opwp_append_S _ _ rfl (n + 2) (.slice (some ⟨w1.heap.size, 0, none⟩) 0 0) [] rfl tSabb3 _ B rfl (HX.out _ tBabb3) (by show 0 + _ ≤ 16777216; omega) tZabb3 ?_
          intro vabb4 wabb4 hoabb4 hgabb4 _
          rw [List.nil_append] at hoabb4
          obtain ⟨pabb4, cabb4, eabb4, _⟩ := OwnSets.sets hoabb4
          subst eabb4
          have tAabb5 : Box2 wabb4 n 33 (.slice px B.length cx) (.slice py U.length cy) := tAabb3.app tSabb3 hgabb4 (by decide)
          have tRabb5 : Box2 wabb4 (n + 1) 33 (.slice none 0 0) (.slice none 0 0) := tRabb3.app tSabb3 hgabb4 (by decide)
          have tBabb5 : Below w.heap.size w wabb4 := tBabb3.grown hgabb4 tBabb3.size (fun k e => by have := (World.ownsRow.lt tSabb3 k e).1; have := HN.out; omega)
          have tZabb5 : n + 2 ≤ wabb4.heap.size := Nat.le_trans tZabb3 hgabb4.size
          have tIabb5 : OwnInts wabb4 (n + 2) (.slice (some ⟨(w1.drew.alloc (.cells #[] 32)).heap.size, 0, none⟩) 0 0) [] := World.ownsRow.kept tIabb3 hgabb4 (own_apart tIabb3 tSabb3 (by decide))
          have tQabb5 : Box2 wabb4 (w1.heap.size + 1 + 1) 33 (.slice none 0 0) (.slice none 0 0) := tQabb3.app tSabb3 hgabb4 (by decide)
          have faabb5_0 : Hid (Box2 wabb4 (n) 33 (.slice px B.length cx) (.slice py U.length cy)) := faabb3_0.out.app tSabb3 hgabb4 (by decide)
          refine ⟨.inr faabb5_0.out, ?_⟩
          simp only [Act.put, List.setIfInBounds_toArray, List.set_cons_zero, List.set_cons_succ]
          refine wpAnyL_one (i := 7) (by kernel_rfl) (by simp only [List.getElem?_toArray, List.getElem?_cons_zero, List.getElem?_cons_succ] <;> rfl) (by rfl) ?_
          refine opwp_append_I _ _ rfl (n + 2) (.slice (some ⟨(w1.drew.alloc (.cells #[] 32)).heap.size, 0, none⟩) 0 0) [] rfl tIabb5 _ U rfl (HY.out _ tBabb5) (by show 0 + _ ≤ 16777216; omega) tZabb5 ?_
          intro vabb6 wabb6 hoabb6 hgabb6 _
          rw [List.nil_append] at hoabb6
          obtain ⟨pabb6, cabb6, eabb6, _⟩ := OwnInts.ints hoabb6
          subst eabb6
          have tAabb7 : Box2 wabb6 n 33 (.slice px B.length cx) (.slice py U.length cy) := tAabb5.app tIabb5 hgabb6 (by decide)
          have tRabb7 : Box2 wabb6 (n + 1) 33 (.slice none 0 0) (.slice none 0 0) := tRabb5.app tIabb5 hgabb6 (by decide)
          have tBabb7 : Below w.heap.size w wabb6 := tBabb5.grown hgabb6 tBabb5.size (fun k e => by have := (World.ownsRow.lt tIabb5 k e).1; have := HN.out; omega)
          have tZabb7 : n + 2 ≤ wabb6.heap.size := Nat.le_trans tZabb5 hgabb6.size
          have tSabb7 : OwnSets wabb6 (n + 2) (.slice pabb4 B.length cabb4) B := World.ownsRow.kept hoabb4 hgabb6 (own_apart hoabb4 tIabb5 (by decide))
          have tQabb7 : Box2 wabb6 (w1.heap.size + 1 + 1) 33 (.slice none 0 0) (.slice none 0 0) := tQabb5.app tIabb5 hgabb6 (by decide)
          have faabb7_0 : Hid (Box2 wabb6 (n) 33 (.slice px B.length cx) (.slice py U.length cy)) := faabb5_0.out.app tIabb5 hgabb6 (by decide)
          refine ⟨.inl (by kernel_rfl), ?_⟩
          simp only [Act.put, List.setIfInBounds_toArray, List.set_cons_zero, List.set_cons_succ]
          refine wpAnyL_one (i := 8) (by kernel_rfl) (by simp only [List.getElem?_toArray, List.getElem?_cons_zero, List.getElem?_cons_succ] <;> rfl) (by rfl) ?_
          refine opwp_value (v := .agg #[(.slice pabb4 B.length cabb4), (.slice pabb6 U.length cabb6)]) (w' := wabb6) (by simp [execOp, go_sem, Act.eval]) ⟨.inl (by kernel_rfl), ?_⟩
          simp only [Act.put, List.setIfInBounds_toArray, List.set_cons_zero, List.set_cons_succ]
          obtain ⟨z0, z1, z2, z3⟩ := tQabb7.cells
          refine wpAnyL_one (i := 10) (by kernel_rfl) (by simp only [List.getElem?_toArray, List.getElem?_cons_zero, List.getElem?_cons_succ] <;> rfl) (by rfl) ?_
          refine opwp_skip (w' := ((wabb6.setCell ⟨(w1.heap.size + 1 + 1), 0, none⟩ (.slice pabb4 B.length cabb4)).setCell ⟨(w1.heap.size + 1 + 1), 1, none⟩ (.slice pabb6 U.length cabb6))) (by simp [execOp, go_sem, Act.eval, z0, z1, z2, z3]) ⟨.inl (by kernel_rfl), ?_⟩
          simp only [Act.put]
          refine wpAnyL_done (by kernel_rfl) ?_ _
          have hfin := hid (RcM.of HN.out tAabb7 tRabb7 tQabb7 tSabb7 hoabb6 tBabb7 tLabb3)
          go_wp2_with fail
          go_meet
          exact ⟨_, _, _, rfl, hfin.out⟩
      · have tAac2 : Box2 ((w1.drew.alloc (.cells #[] 32)).alloc (.cells #[.slice none 0 0, .slice none 0 0] 33)) n 33 (.slice px B.length cx) (.slice py U.length cy) := tAa1.alloc _
        have tRac2 : Box2 ((w1.drew.alloc (.cells #[] 32)).alloc (.cells #[.slice none 0 0, .slice none 0 0] 33)) (n + 1) 33 (.slice none 0 0) (.slice none 0 0) := tRa1.alloc _
        have tBac2 : Below w.heap.size w ((w1.drew.alloc (.cells #[] 32)).alloc (.cells #[.slice none 0 0, .slice none 0 0] 33)) := tBa1.alloc tBa1.size _
        have tZac2 : n + 2 ≤ ((w1.drew.alloc (.cells #[] 32)).alloc (.cells #[.slice none 0 0, .slice none 0 0] 33)).heap.size := Nat.le_trans tZa1 (by simp)
        have tSac2 : OwnSets ((w1.drew.alloc (.cells #[] 32)).alloc (.cells #[.slice none 0 0, .slice none 0 0] 33)) (n + 2) (.slice (some ⟨w1.heap.size, 0, none⟩) 0 0) [] := World.ownsRow.alloc tSa1 _
        have faac2_0 : Hid (Box2 ((w1.drew.alloc (.cells #[] 32)).alloc (.cells #[.slice none 0 0, .slice none 0 0] 33)) (n) 33 (.slice px B.length cx) (.slice py U.length cy)) := faa1_0.out.alloc _
        have eQac2 : (w1.drew.alloc (.cells #[] 32)).heap.size = (w1.heap.size + 1) := by simp
        have tQac2 : Box2 ((w1.drew.alloc (.cells #[] 32)).alloc (.cells #[.slice none 0 0, .slice none 0 0] 33)) (w1.heap.size + 1) 33 (.slice none 0 0) (.slice none 0 0) := by have := Box2.new (w1.drew.alloc (.cells #[] 32)) 33 (.slice none 0 0) (.slice none 0 0); rw [eQac2] at this; exact this
        have tLac2 : n + 2 ≤ (w1.heap.size + 1) := Nat.le_trans tZa1 (Nat.le_of_eq eQac2)
        clear eQac2
        refine opwp_value (v := (.pointer (some ⟨(w1.heap.size + 1), 0, none⟩))) (w' := ((w1.drew.alloc (.cells #[] 32)).alloc (.cells #[.slice none 0 0, .slice none 0 0] 33))) (by simp [execOp, go_sem]) ⟨.inr faac2_0.out, ?_⟩
        simp only [Act.put, List.setIfInBounds_toArray, List.set_cons_zero, List.set_cons_succ]
        refine wpAnyL_two (i := 3) (j := 4) (by kernel_rfl) (by simp only [List.getElem?_toArray, List.getElem?_cons_zero, List.getElem?_cons_succ] <;> rfl) (by rfl) (by simp only [List.getElem?_toArray, List.getElem?_cons_zero, List.getElem?_cons_succ] <;> rfl) (by rfl) ?_ ?_
        · refine opwp_append_S _ _ rfl (n + 2) (.slice (some ⟨w1.heap.size, 0, none⟩) 0 0) [] rfl tSac2 _ B rfl (HX.out _ tBac2) (by show 0 + _ ≤ 16777216; omega) tZac2 ?_
          intro vaca3 waca3 hoaca3 hgaca3 _
          rw [List.nil_append] at hoaca3
          obtain ⟨paca3, caca3, eaca3, _⟩ := OwnSets.sets hoaca3
          subst eaca3
          have tAaca4 : Box2 waca3 n 33 (.slice px B.length cx) (.slice py U.length cy) := tAac2.app tSac2 hgaca3 (by decide)
          have tRaca4 : Box2 waca3 (n + 1) 33 (.slice none 0 0) (.slice none 0 0) := tRac2.app tSac2 hgaca3 (by decide)
          have tBaca4 : Below w.heap.size w waca3 := tBac2.grown hgaca3 tBac2.size (fun k e => by have := (World.ownsRow.lt tSac2 k e).1; have := HN.out; omega)
          have tZaca4 : n + 2 ≤ waca3.heap.size := Nat.le_trans tZac2 hgaca3.size
          have tQaca4 : Box2 waca3 (w1.heap.size + 1) 33 (.slice none 0 0) (.slice none 0 0) := tQac2.app tSac2 hgaca3 (by decide)
          have faaca4_0 : Hid (Box2 waca3 (n) 33 (.slice px B.length cx) (.slice py U.length cy)) := faac2_0.out.app tSac2 hgaca3 (by decide)
          refine ⟨.inr faaca4_0.out, ?_⟩
          simp only [Act.put, List.setIfInBounds_toArray, List.set_cons_zero, List.set_cons_succ]
          have tAaca5 : Box2 (waca3.alloc (.cells #[] 3)) n 33 (.slice px B.length cx) (.slice py U.length cy) := tAaca4.alloc _
          have tRaca5 : Box2 (waca3.alloc (.cells #[] 3)) (n + 1) 33 (.slice none 0 0) (.slice none 0 0) := tRaca4.alloc _
          have tBaca5 : Below w.heap.size w (waca3.alloc (.cells #[] 3)) := tBaca4.alloc tBaca4.size _
          have tZaca5 : n + 2 ≤ (waca3.alloc (.cells #[] 3)).heap.size := Nat.le_trans tZaca4 (by simp)
          have tSaca5 : OwnSets (waca3.alloc (.cells #[] 3)) (n + 2) (.slice paca3 B.length caca3) B := World.ownsRow.alloc hoaca3 _
          have tQaca5 : Box2 (waca3.alloc (.cells #[] 3)) (w1.heap.size + 1) 33 (.slice none 0 0) (.slice none 0 0) := tQaca4.alloc _
          have faaca5_0 : Hid (Box2 (waca3.alloc (.cells #[] 3)) (n) 33 (.slice px B.length cx) (.slice py U.length cy)) := faaca4_0.out.alloc _
          have tIaca5 : OwnInts (waca3.alloc (.cells #[] 3)) (n + 2) (.slice (some ⟨waca3.heap.size, 0, none⟩) 0 0) [] := own_noneI waca3 tZaca4
          refine wpAnyL_one (i := 4) (by kernel_rfl) (by simp only [List.getElem?_toArray, List.getElem?_cons_zero, List.getElem?_cons_succ] <;> rfl) (by rfl) ?_
          refine opwp_value (v := (.slice (some ⟨waca3.heap.size, 0, none⟩) 0 0)) (w' := (waca3.alloc (.cells #[] 3))) (by simp [execOp, go_sem]) ⟨.inr faaca5_0.out, ?_⟩
          simp only [Act.put, List.setIfInBounds_toArray, List.set_cons_zero, List.set_cons_succ]
          refine wpAnyL_one (i := 7) (by kernel_rfl) (by simp only [List.getElem?_toArray, List.getElem?_cons_zero, List.getElem?_cons_succ] <;> rfl) (by rfl) ?_
          refine opwp_append_I _ _ rfl (n + 2) (.slice (some ⟨waca3.heap.size, 0, none⟩) 0 0) [] rfl tIaca5 _ U rfl (HY.out _ tBaca5) (by show 0 + _ ≤ 16777216; omega) tZaca5 ?_
          intro vaca6 waca6 hoaca6 hgaca6 _
          rw [List.nil_append] at hoaca6
          obtain ⟨paca6, caca6, eaca6, _⟩ := OwnInts.ints hoaca6
          subst eaca6
          have tAaca7 : Box2 waca6 n 33 (.slice px B.length cx) (.slice py U.length cy) := tAaca5.app tIaca5 hgaca6 (by decide)
          have tRaca7 : Box2 waca6 (n + 1) 33 (.slice none 0 0) (.slice none 0 0) := tRaca5.app tIaca5 hgaca6 (by decide)
          have tBaca7 : Below w.heap.size w waca6 := tBaca5.grown hgaca6 tBaca5.size (fun k e => by have := (World.ownsRow.lt tIaca5 k e).1; have := HN.out; omega)
          have tZaca7 : n + 2 ≤ waca6.heap.size := Nat.le_trans tZaca5 hgaca6.size
          have tSaca7 : OwnSets waca6 (n + 2) (.slice paca3 B.length caca3) B := World.ownsRow.kept tSaca5 hgaca6 (own_apart tSaca5 tIaca5 (by decide))
          have tQaca7 : Box2 waca6 (w1.heap.size + 1) 33 (.slice none 0 0) (.slice none 0 0) := tQaca5.app tIaca5 hgaca6 (by decide)
          have faaca7_0 : Hid (Box2 waca6 (n) 33 (.slice px B.length cx) (.slice py U.length cy)) := faaca5_0.out.app tIaca5 hgaca6 (by decide)
          refine ⟨.inl (by kernel_rfl), ?_⟩
          simp only [Act.put, List.setIfInBounds_toArray, List.set_cons_zero, List.set_cons_succ]
          refine wpAnyL_one (i := 8) (by kernel_rfl) (by simp only [List.getElem?_toArray, List.getElem?_cons_zero, List.getElem?_cons_succ] <;> rfl) (by rfl) ?_
          refine opwp_value (v := .agg #[(.slice paca3 B.length caca3), (.slice paca6 U.length caca6)]) (w' := waca6) (by simp [execOp, go_sem, Act.eval]) ⟨.inl (by kernel_rfl), ?_⟩
          simp only [Act.put, List.setIfInBounds_toArray, List.set_cons_zero, List.set_cons_succ]
          obtain ⟨z0, z1, z2, z3⟩ := tQaca7.cells
          refine wpAnyL_one (i := 10) (by kernel_rfl) (by simp only [List.getElem?_toArray, List.getElem?_cons_zero, List.getElem?_cons_succ] <;> rfl) (by rfl) ?_
          refine opwp_skip (w' := ((waca6.setCell ⟨(w1.heap.size + 1), 0, none⟩ (.slice paca3 B.length caca3)).setCell ⟨(w1.heap.size + 1), 1, none⟩ (.slice paca6 U.length caca6))) (by simp [execOp, go_sem, Act.eval, z0, z1, z2, z3]) ⟨.inl (by kernel_rfl), ?_⟩
          simp only [Act.put]
          refine wpAnyL_done (by kernel_rfl) ?_ _
          have hfin := hid (RcM.of HN.out tAaca7 tRaca7 tQaca7 tSaca7 hoaca6 tBaca7 tLac2)
          go_wp2_with fail
          go_meet
          exact ⟨_, _, _, rfl, hfin.out⟩
        · have tAacb3 : Box2 (((w1.drew.alloc (.cells #[] 32)).alloc (.cells #[.slice none 0 0, .slice none 0 0] 33)).alloc (.cells #[] 3)) n 33 (.slice px B.length cx) (.slice py U.length cy) := tAac2.alloc _
          have tRacb3 : Box2 (((w1.drew.alloc (.cells #[] 32)).alloc (.cells #[.slice none 0 0, .slice none 0 0] 33)).alloc (.cells #[] 3)) (n + 1) 33 (.slice none 0 0) (.slice none 0 0) := tRac2.alloc _
          have tBacb3 : Below w.heap.size w (((w1.drew.alloc (.cells #[] 32)).alloc (.cells #[.slice none 0 0, .slice none 0 0] 33)).alloc (.cells #[] 3)) := tBac2.alloc tBac2.size _
          have tZacb3 : n + 2 ≤ (((w1.drew.alloc (.cells #[] 32)).alloc (.cells #[.slice none 0 0, .slice none 0 0] 33)).alloc (.cells #[] 3)).heap.size := Nat.le_trans tZac2 (by simp)
          have tSacb3 : OwnSets (((w1.drew.alloc (.cells #[] 32)).alloc (.cells #[.slice none 0 0, .slice none 0 0] 33)).alloc (.cells #[] 3)) (n + 2) (.slice (some ⟨w1.heap.size, 0, none⟩) 0 0) [] := World.ownsRow.alloc tSac2 _
          have tQacb3 : Box2 (((w1.drew.alloc (.cells #[] 32)).alloc (.cells #[.slice none 0 0, .slice none 0 0] 33)).alloc (.cells #[] 3)) (w1.heap.size + 1) 33 (.slice none 0 0) (.slice none 0 0) := tQac2.alloc _
          have faacb3_0 : Hid (Box2 (((w1.drew.alloc (.cells #[] 32)).alloc (.cells #[.slice none 0 0, .slice none 0 0] 33)).alloc (.cells #[] 3)) (n) 33 (.slice px B.length cx) (.slice py U.length cy)) := faac2_0.out.alloc _
          have tIacb3 : OwnInts (((w1.drew.alloc (.cells #[] 32)).alloc (.cells #[.slice none 0 0, .slice none 0 0] 33)).alloc (.cells #[] 3)) (n + 2) (.slice (some ⟨((w1.drew.alloc (.cells #[] 32)).alloc (.cells #[.slice none 0 0, .slice none 0 0] 33)).heap.size, 0, none⟩) 0 0) [] := own_noneI ((w1.drew.alloc (.cells #[] 32)).alloc (.cells #[.slice none 0 0, .slice none 0 0] 33)) tZac2
          refine opwp_value (v := (.slice (some ⟨((w1.drew.alloc (.cells #[] 32)).alloc (.cells #[.slice none 0 0, .slice none 0 0] 33)).heap.size, 0, none⟩) 0 0)) (w' := (((w1.drew.alloc (.cells #[] 32)).alloc (.cells #[.slice none 0 0, .slice none 0 0] 33)).alloc (.cells #[] 3))) (by simp [execOp, go_sem]) ⟨.inr faacb3_0.out, ?_⟩
          simp only [Act.put, List.setIfInBounds_toArray, List.set_cons_zero, List.set_cons_succ]
          refine wpAnyL_one (i := 3) (by kernel_rfl) (by simp only [List.getElem?_toArray, List.getElem?_cons_zero, List.getElem?_cons_succ] <;> rfl) (by rfl) ?_
          refine opwp_append_S _ _ rfl (n + 2) (.slice (some ⟨w1.heap.size, 0, none⟩) 0 0) [] rfl tSacb3 _ B rfl (HX.out _ tBacb3) (by show 0 + _ ≤ 16777216; omega) tZacb3 ?_
          intro vacb4 wacb4 hoacb4 hgacb4 _
          rw [List.nil_append] at hoacb4
          obtain ⟨pacb4, cacb4, eacb4, _⟩ := OwnSets.sets hoacb4
          subst eacb4
          have tAacb5 : Box2 wacb4 n 33 (.slice px B.length cx) (.slice py U.length cy) := tAacb3.app tSacb3 hgacb4 (by decide)
          have tRacb5 : Box2 wacb4 (n + 1) 33 (.slice none 0 0) (.slice none 0 0) := tRacb3.app tSacb3 hgacb4 (by decide)
          have tBacb5 : Below w.heap.size w wacb4 := tBacb3.grown hgacb4 tBacb3.size (fun k e => by have := (World.ownsRow.lt tSacb3 k e).1; have := HN.out; omega)
          have tZacb5 : n + 2 ≤ wacb4.heap.size := Nat.le_trans tZacb3 hgacb4.size
          have tQacb5 : Box2 wacb4 (w1.heap.size + 1) 33 (.slice none 0 0) (.slice none 0 0) := tQacb3.app tSacb3 hgacb4 (by decide)
          have tIacb5 : OwnInts wacb4 (n + 2) (.slice (some ⟨((w1.drew.alloc (.cells #[] 32)).alloc (.cells #[.slice none 0 0, .slice none 0 0] 33)).heap.size, 0, none⟩) 0 0) [] := World.ownsRow.kept tIacb3 hgacb4 (own_apart tIacb3 tSacb3 (by decide))
          have faacb5_0 : Hid (Box2 wacb4 (n) 33 (.slice px B.length cx) (.slice py U.length cy)) := faacb3_0.out.app tSacb3 hgacb4 (by decide)
          refine ⟨.inr faacb5_0.out, ?_⟩
          simp only [Act.put, List.setIfInBounds_toArray, List.set_cons_zero, List.set_cons_succ]
          refine wpAnyL_one (i := 7) (by kernel_rfl) (by simp only [List.getElem?_toArray, List.getElem?_cons_zero, List.getElem?_cons_succ] <;> rfl) (by rfl) ?_
          refine opwp_append_I _ _ rfl (n + 2) (.slice (some ⟨((w1.drew.alloc (.cells #[] 32)).alloc (.cells #[.slice none 0 0, .slice none 0 0] 33)).heap.size, 0, none⟩) 0 0) [] rfl tIacb5 _ U rfl (HY.out _ tBacb5) (by show 0 + _ ≤ 16777216; omega) tZacb5 ?_
          intro vacb6 wacb6 hoacb6 hgacb6 _
          rw [List.nil_append] at hoacb6
          obtain ⟨pacb6, cacb6, eacb6, _⟩ := OwnInts.ints hoacb6
          subst eacb6
          have tAacb7 : Box2 wacb6 n 33 (.slice px B.length cx) (.slice py U.length cy) := tAacb5.app tIacb5 hgacb6 (by decide)
          have tRacb7 : Box2 wacb6 (n + 1) 33 (.slice none 0 0) (.slice none 0 0) := tRacb5.app tIacb5 hgacb6 (by decide)
          have tBacb7 : Below w.heap.size w wacb6 := tBacb5.grown hgacb6 tBacb5.size (fun k e => by have := (World.ownsRow.lt tIacb5 k e).1; have := HN.out; omega)
          have tZacb7 : n + 2 ≤ wacb6.heap.size := Nat.le_trans tZacb5 hgacb6.size
          have tSacb7 : OwnSets wacb6 (n + 2) (.slice pacb4 B.length cacb4) B := World.ownsRow.kept hoacb4 hgacb6 (own_apart hoacb4 tIacb5 (by decide))
          have tQacb7 : Box2 wacb6 (w1.heap.size + 1) 33 (.slice none 0 0) (.slice none 0 0) := tQacb5.app tIacb5 hgacb6 (by decide)
          have faacb7_0 : Hid (Box2 wacb6 (n) 33 (.slice px B.length cx) (.slice py U.length cy)) := faacb5_0.out.app tIacb5 hgacb6 (by decide)
          refine ⟨.inl (by kernel_rfl), ?_⟩
          simp only [Act.put, List.setIfInBounds_toArray, List.set_cons_zero, List.set_cons_succ]
          refine wpAnyL_one (i := 8) (by kernel_rfl) (by simp only [List.getElem?_toArray, List.getElem?_cons_zero, List.getElem?_cons_succ] <;> rfl) (by rfl) ?_
          refine opwp_value (v := .agg #[(.slice pacb4 B.length cacb4), (.slice pacb6 U.length cacb6)]) (w' := wacb6) (by simp [execOp, go_sem, Act.eval]) ⟨.inl (by kernel_rfl), ?_⟩
          simp only [Act.put, List.setIfInBounds_toArray, List.set_cons_zero, List.set_cons_succ]
          obtain ⟨z0, z1, z2, z3⟩ := tQacb7.cells
          refine wpAnyL_one (i := 10) (by kernel_rfl) (by simp only [List.getElem?_toArray, List.getElem?_cons_zero, List.getElem?_cons_succ] <;> rfl) (by rfl) ?_
          refine opwp_skip (w' := ((wacb6.setCell ⟨(w1.heap.size + 1), 0, none⟩ (.slice pacb4 B.length cacb4)).setCell ⟨(w1.heap.size + 1), 1, none⟩ (.slice pacb6 U.length cacb6))) (by simp [execOp, go_sem, Act.eval, z0, z1, z2, z3]) ⟨.inl (by kernel_rfl), ?_⟩
          simp only [Act.put]
          refine wpAnyL_done (by kernel_rfl) ?_ _
          have hfin := hid (RcM.of HN.out tAacb7 tRacb7 tQacb7 tSacb7 hoacb6 tBacb7 tLac2)
          go_wp2_with fail
          go_meet
          exact ⟨_, _, _, rfl, hfin.out⟩
    · have tAb1 : Box2 (w1.drew.alloc (.cells #[] 3)) n 33 (.slice px B.length cx) (.slice py U.length cy) := ta0.alloc _
      have tRb1 : Box2 (w1.drew.alloc (.cells #[] 3)) (n + 1) 33 (.slice none 0 0) (.slice none 0 0) := tr0.alloc _
      have tBb1 : Below w.heap.size w (w1.drew.alloc (.cells #[] 3)) := tb0.alloc tb0.size _
      have tZb1 : n + 2 ≤ (w1.drew.alloc (.cells #[] 3)).heap.size := Nat.le_trans ts0 (by simp)
      have fab1_0 : Hid (Box2 (w1.drew.alloc (.cells #[] 3)) (n) 33 (.slice px B.length cx) (.slice py U.length cy)) := BA.out.alloc _
      have tIb1 : OwnInts (w1.drew.alloc (.cells #[] 3)) (n + 2) (.slice (some ⟨w1.heap.size, 0, none⟩) 0 0) [] := own_noneI w1.drew ts0
      refine opwp_value (v := (.slice (some ⟨w1.heap.size, 0, none⟩) 0 0)) (w' := (w1.drew.alloc (.cells #[] 3))) (by simp [execOp, go_sem]) ⟨.inr fab1_0.out, ?_⟩
      simp only [Act.put, List.setIfInBounds_toArray, List.set_cons_zero, List.set_cons_succ]
      refine wpAnyL_two (i := 0) (j := 9) (by kernel_rfl) (by simp only [List.getElem?_toArray, List.getElem?_cons_zero] <;> rfl) (by rfl) (by simp only [List.getElem?_toArray, List.getElem?_cons_zero, List.getElem?_cons_succ] <;> rfl) (by rfl) ?_ ?_
      · have tAba2 : Box2 ((w1.drew.alloc (.cells #[] 3)).alloc (.cells #[] 32)) n 33 (.slice px B.length cx) (.slice py U.length cy) := tAb1.alloc _
        have tRba2 : Box2 ((w1.drew.alloc (.cells #[] 3)).alloc (.cells #[] 32)) (n + 1) 33 (.slice none 0 0) (.slice none 0 0) := tRb1.alloc _
        have tBba2 : Below w.heap.size w ((w1.drew.alloc (.cells #[] 3)).alloc (.cells #[] 32)) := tBb1.alloc tBb1.size _
        have tZba2 : n + 2 ≤ ((w1.drew.alloc (.cells #[] 3)).alloc (.cells #[] 32)).heap.size := Nat.le_trans tZb1 (by simp)
        have tIba2 : OwnInts ((w1.drew.alloc (.cells #[] 3)).alloc (.cells #[] 32)) (n + 2) (.slice (some ⟨w1.heap.size, 0, none⟩) 0 0) [] := World.ownsRow.alloc tIb1 _
        have faba2_0 : Hid (Box2 ((w1.drew.alloc (.cells #[] 3)).alloc (.cells #[] 32)) (n) 33 (.slice px B.length cx) (.slice py U.length cy)) := fab1_0.out.alloc _
        have tSba2 : OwnSets ((w1.drew.alloc (.cells #[] 3)).alloc (.cells #[] 32)) (n + 2) (.slice (some ⟨(w1.drew.alloc (.cells #[] 3)).heap.size, 0, none⟩) 0 0) [] := own_noneS (w1.drew.alloc (.cells #[] 3)) tZb1
        refine opwp_value (v := (.slice (some ⟨(w1.drew.alloc (.cells #[] 3)).heap.size, 0, none⟩) 0 0)) (w' := ((w1.drew.alloc (.cells #[] 3)).alloc (.cells #[] 32))) (by simp [execOp, go_sem]) ⟨.inr faba2_0.out, ?_⟩
        simp only [Act.put, List.setIfInBounds_toArray, List.set_cons_zero, List.set_cons_succ]
        refine wpAnyL_two (i := 3) (j := 9) (by kernel_rfl) (by simp only [List.getElem?_toArray, List.getElem?_cons_zero, List.getElem?_cons_succ] <;> rfl) (by rfl) (by simp only [List.getElem?_toArray, List.getElem?_cons_zero, List.getElem?_cons_succ] <;> rfl) (by rfl) ?_ ?_
        · refine opwp_append_S _ _ rfl (n + 2) (.slice (some ⟨(w1.drew.alloc (.cells #[] 3)).heap.size, 0, none⟩) 0 0) [] rfl tSba2 _ B rfl (HX.out _ tBba2) (by show 0 + _ ≤ 16777216; omega) tZba2 ?_
          intro vbaa3 wbaa3 hobaa3 hgbaa3 _
          rw [List.nil_append] at hobaa3
          obtain ⟨pbaa3, cbaa3, ebaa3, _⟩ := OwnSets.sets hobaa3
          subst ebaa3
          have tAbaa4 : Box2 wbaa3 n 33 (.slice px B.length cx) (.slice py U.length cy) := tAba2.app tSba2 hgbaa3 (by decide)
          have tRbaa4 : Box2 wbaa3 (n + 1) 33 (.slice none 0 0) (.slice none 0 0) := tRba2.app tSba2 hgbaa3 (by decide)
          have tBbaa4 : Below w.heap.size w wbaa3 := tBba2.grown hgbaa3 tBba2.size (fun k e => by have := (World.ownsRow.lt tSba2 k e).1; have := HN.out; omega)
          have tZbaa4 : n + 2 ≤ wbaa3.heap.size := Nat.le_trans tZba2 hgbaa3.size
          have tIbaa4 : OwnInts wbaa3 (n + 2) (.slice (some ⟨w1.heap.size, 0, none⟩) 0 0) [] := World.ownsRow.kept tIba2 hgbaa3 (own_apart tIba2 tSba2 (by decide))
          have fabaa4_0 : Hid (Box2 wbaa3 (n) 33 (.slice px B.length cx) (.slice py U.length cy)) := faba2_0.out.app tSba2 hgbaa3 (by decide)
          refine ⟨.inr fabaa4_0.out, ?_⟩
          simp only [Act.put, List.setIfInBounds_toArray, List.set_cons_zero, List.set_cons_succ]
          refine wpAnyL_two (i := 7) (j := 9) (by kernel_rfl) (by simp only [List.getElem?_toArray, List.getElem?_cons_zero, List.getElem?_cons_succ] <;> rfl) (by rfl) (by simp only [List.getElem?_toArray, List.getElem?_cons_zero, List.getElem?_cons_succ] <;> rfl) (by rfl) ?_ ?_
          · refine opwp_append_I _ _ rfl (n + 2) (.slice (some ⟨w1.heap.size, 0, none⟩) 0 0) [] rfl tIbaa4 _ U rfl (HY.out _ tBbaa4) (by show 0 + _ ≤ 16777216; omega) tZbaa4 ?_
            intro vbaaa5 wbaaa5 hobaaa5 hgbaaa5 _
            rw [List.nil_append] at hobaaa5
            obtain ⟨pbaaa5, cbaaa5, ebaaa5, _⟩ := OwnInts.ints hobaaa5
            subst ebaaa5
            have tAbaaa6 : Box2 wbaaa5 n 33 (.slice px B.length cx) (.slice py U.length cy) := tAbaa4.app tIbaa4 hgbaaa5 (by decide)
            have tRbaaa6 : Box2 wbaaa5 (n + 1) 33 (.slice none 0 0) (.slice none 0 0) := tRbaa4.app tIbaa4 hgbaaa5 (by decide)
            have tBbaaa6 : Below w.heap.size w wbaaa5 := tBbaa4.grown hgbaaa5 tBbaa4.size (fun k e => by have := (World.ownsRow.lt tIbaa4 k e).1; have := HN.out; omega)
            have tZbaaa6 : n + 2 ≤ wbaaa5.heap.size := Nat.le_trans tZbaa4 hgbaaa5.size
            have tSbaaa6 : OwnSets wbaaa5 (n + 2) (.slice pbaa3 B.length cbaa3) B := World.ownsRow.kept hobaa3 hgbaaa5 (own_apart hobaa3 tIbaa4 (by decide))
            have fabaaa6_0 : Hid (Box2 wbaaa5 (n) 33 (.slice px B.length cx) (.slice py U.length cy)) := fabaa4_0.out.app tIbaa4 hgbaaa5 (by decide)
            refine ⟨.inl (by kernel_rfl), ?_⟩
            simp only [Act.put, List.setIfInBounds_toArray, List.set_cons_zero, List.set_cons_succ]
            refine wpAnyL_two (i := 8) (j := 9) (by kernel_rfl) (by simp only [List.getElem?_toArray, List.getElem?_cons_zero, List.getElem?_cons_succ] <;> rfl) (by rfl) (by simp only [List.getElem?_toArray, List.getElem?_cons_zero, List.getElem?_cons_succ] <;> rfl) (by rfl) ?_ ?_
            · refine opwp_value (v := .agg #[(.slice pbaa3 B.length cbaa3), (.slice pbaaa5 U.length cbaaa5)]) (w' := wbaaa5) (by simp [execOp, go_sem, Act.eval]) ⟨.inl (by kernel_rfl), ?_⟩
              simp only [Act.put, List.setIfInBounds_toArray, List.set_cons_zero, List.set_cons_succ]
              have tAbaaaa7 : Box2 (wbaaa5.alloc (.cells #[.slice none 0 0, .slice none 0 0] 33)) n 33 (.slice px B.length cx) (.slice py U.length cy) := tAbaaa6.alloc _
              have tRbaaaa7 : Box2 (wbaaa5.alloc (.cells #[.slice none 0 0, .slice none 0 0] 33)) (n + 1) 33 (.slice none 0 0) (.slice none 0 0) := tRbaaa6.alloc _
              have tBbaaaa7 : Below w.heap.size w (wbaaa5.alloc (.cells #[.slice none 0 0, .slice none 0 0] 33)) := tBbaaa6.alloc tBbaaa6.size _
              have tZbaaaa7 : n + 2 ≤ (wbaaa5.alloc (.cells #[.slice none 0 0, .slice none 0 0] 33)).heap.size := Nat.le_trans tZbaaa6 (by simp)
              have tIbaaaa7 : OwnInts (wbaaa5.alloc (.cells #[.slice none 0 0, .slice none 0 0] 33)) (n + 2) (.slice pbaaa5 U.length cbaaa5) U := World.ownsRow.alloc hobaaa5 _
              have tSbaaaa7 : OwnSets (wbaaa5.alloc (.cells #[.slice none 0 0, .slice none 0 0] 33)) (n + 2) (.slice pbaa3 B.length cbaa3) B := World.ownsRow.alloc tSbaaa6 _
              have eQbaaaa7 : wbaaa5.heap.size = wbaaa5.heap.size := rfl
              have tQbaaaa7 : Box2 (wbaaa5.alloc (.cells #[.slice none 0 0, .slice none 0 0] 33)) wbaaa5.heap.size 33 (.slice none 0 0) (.slice none 0 0) := by have := Box2.new wbaaa5 33 (.slice none 0 0) (.slice none 0 0); rw [eQbaaaa7] at this; exact this
              have tLbaaaa7 : n + 2 ≤ wbaaa5.heap.size := Nat.le_trans tZbaaa6 (Nat.le_of_eq eQbaaaa7)
              clear eQbaaaa7
              refine wpAnyL_one (i := 9) (by kernel_rfl) (by simp only [List.getElem?_toArray, List.getElem?_cons_zero, List.getElem?_cons_succ] <;> rfl) (by rfl) ?_
              refine opwp_value (v := (.pointer (some ⟨wbaaa5.heap.size, 0, none⟩))) (w' := (wbaaa5.alloc (.cells #[.slice none 0 0, .slice none 0 0] 33))) (by simp [execOp, go_sem]) ⟨.inl (by kernel_rfl), ?_⟩
              simp only [Act.put, List.setIfInBounds_toArray, List.set_cons_zero, List.set_cons_succ]
              obtain ⟨z0, z1, z2, z3⟩ := tQbaaaa7.cells
              refine wpAnyL_one (i := 10) (by kernel_rfl) (by simp only [List.getElem?_toArray, List.getElem?_cons_zero, List.getElem?_cons_succ] <;> rfl) (by rfl) ?_
              refine opwp_skip (w' := (((wbaaa5.alloc (.cells #[.slice none 0 0, .slice none 0 0] 33)).setCell ⟨wbaaa5.heap.size, 0, none⟩ (.slice pbaa3 B.length cbaa3)).setCell ⟨wbaaa5.heap.size, 1, none⟩ (.slice pbaaa5 U.length cbaaa5))) (by simp [execOp, go_sem, Act.eval, z0, z2]) ⟨.inl (by kernel_rfl), ?_⟩
              simp only [Act.put]
              refine wpAnyL_done (by kernel_rfl) ?_ _
              have hfin := hid (RcM.of HN.out tAbaaaa7 tRbaaaa7 tQbaaaa7 tSbaaaa7 tIbaaaa7 tBbaaaa7 tLbaaaa7)
              go_wp2_with fail
              go_meet
              exact ⟨_, _, _, rfl, hfin.out⟩
            · have tAbaaab7 : Box2 (wbaaa5.alloc (.cells #[.slice none 0 0, .slice none 0 0] 33)) n 33 (.slice px B.length cx) (.slice py U.length cy) := tAbaaa6.alloc _
              have tRbaaab7 : Box2 (wbaaa5.alloc (.cells #[.slice none 0 0, .slice none 0 0] 33)) (n + 1) 33 (.slice none 0 0) (.slice none 0 0) := tRbaaa6.alloc _
              have tBbaaab7 : Below w.heap.size w (wbaaa5.alloc (.cells #[.slice none 0 0, .slice none 0 0] 33)) := tBbaaa6.alloc tBbaaa6.size _
              have tZbaaab7 : n + 2 ≤ (wbaaa5.alloc (.cells #[.slice none 0 0, .slice none 0 0] 33)).heap.size := Nat.le_trans tZbaaa6 (by simp)
              have tIbaaab7 : OwnInts (wbaaa5.alloc (.cells #[.slice none 0 0, .slice none 0 0] 33)) (n + 2) (.slice pbaaa5 U.length cbaaa5) U := World.ownsRow.alloc hobaaa5 _
              have tSbaaab7 : OwnSets (wbaaa5.alloc (.cells #[.slice none 0 0, .slice none 0 0] 33)) (n + 2) (.slice pbaa3 B.length cbaa3) B := World.ownsRow.alloc tSbaaa6 _
              have eQbaaab7 : wbaaa5.heap.size = wbaaa5.heap.size := rfl
              have tQbaaab7 : Box2 (wbaaa5.alloc (.cells #[.slice none 0 0, .slice none 0 0] 33)) wbaaa5.heap.size 33 (.slice none 0 0) (.slice none 0 0) := by have := Box2.new wbaaa5 33 (.slice none 0 0) (.slice none 0 0); rw [eQbaaab7] at this; exact this
              have tLbaaab7 : n + 2 ≤ wbaaa5.heap.size := Nat.le_trans tZbaaa6 (Nat.le_of_eq eQbaaab7)
              clear eQbaaab7
              refine opwp_value (v := (.pointer (some ⟨wbaaa5.heap.size, 0, none⟩))) (w' := (wbaaa5.alloc (.cells #[.slice none 0 0, .slice none 0 0] 33))) (by simp [execOp, go_sem]) ⟨.inl (by kernel_rfl), ?_⟩
              simp only [Act.put, List.setIfInBounds_toArray, List.set_cons_zero, List.set_cons_succ]
              refine wpAnyL_one (i := 8) (by kernel_rfl) (by simp only [List.getElem?_toArray, List.getElem?_cons_zero, List.getElem?_cons_succ] <;> rfl) (by rfl) ?_
              refine opwp_value (v := .agg #[(.slice pbaa3 B.length cbaa3), (.slice pbaaa5 U.length cbaaa5)]) (w' := (wbaaa5.alloc (.cells #[.slice none 0 0, .slice none 0 0] 33))) (by simp [execOp, go_sem, Act.eval]) ⟨.inl (by kernel_rfl), ?_⟩
              simp only [Act.put, List.setIfInBounds_toArray, List.set_cons_zero, List.set_cons_succ]
              obtain ⟨z0, z1, z2, z3⟩ := tQbaaab7.cells
              refine wpAnyL_one (i := 10) (by kernel_rfl) (by simp only [List.getElem?_toArray, List.getElem?_cons_zero, List.getElem?_cons_succ] <;> rfl) (by rfl) ?_
              refine opwp_skip (w' := (((wbaaa5.alloc (.cells #[.slice none 0 0, .slice none 0 0] 33)).setCell ⟨wbaaa5.heap.size, 0, none⟩ (.slice pbaa3 B.length cbaa3)).setCell ⟨wbaaa5.heap.size, 1, none⟩ (.slice pbaaa5 U.length cbaaa5))) (by simp [execOp, go_sem, Act.eval, z0, z2]) ⟨.inl (by kernel_rfl), ?_⟩
              simp only [Act.put]
              refine wpAnyL_done (by kernel_rfl) ?_ _
              have hfin := hid (RcM.of HN.out tAbaaab7 tRbaaab7 tQbaaab7 tSbaaab7 tIbaaab7 tBbaaab7 tLbaaab7)
              go_wp2_with fail
              go_meet
              exact ⟨_, _, _, rfl, hfin.out⟩
          · have tAbaab5 : Box2 (wbaa3.alloc (.cells #[.slice none 0 0, .slice none 0 0] 33)) n 33 (.slice px B.length cx) (.slice py U.length cy) := tAbaa4.alloc _
            have tRbaab5 : Box2 (wbaa3.alloc (.cells #[.slice none 0 0, .slice none 0 0] 33)) (n + 1) 33 (.slice none 0 0) (.slice none 0 0) := tRbaa4.alloc _
            have tBbaab5 : Below w.heap.size w (wbaa3.alloc (.cells #[.slice none 0 0, .slice none 0 0] 33)) := tBbaa4.alloc tBbaa4.size _
            have tZbaab5 : n + 2 ≤ (wbaa3.alloc (.cells #[.slice none 0 0, .slice none 0 0] 33)).heap.size := Nat.le_trans tZbaa4 (by simp)
            have tIbaab5 : OwnInts (wbaa3.alloc (.cells #[.slice none 0 0, .slice none 0 0] 33)) (n + 2) (.slice (some ⟨w1.heap.size, 0, none⟩) 0 0) [] := World.ownsRow.alloc tIbaa4 _
            have tSbaab5 : OwnSets (wbaa3.alloc (.cells #[.slice none 0 0, .slice none 0 0] 33)) (n + 2) (.slice pbaa3 B.length cbaa3) B := World.ownsRow.alloc hobaa3 _
            have fabaab5_0 : Hid (Box2 (wbaa3.alloc (.cells #[.slice none 0 0, .slice none 0 0] 33)) (n) 33 (.slice px B.length cx) (.slice py U.length cy)) := fabaa4_0.out.alloc _
            have eQbaab5 : wbaa3.heap.size = wbaa3.heap.size := rfl
            have tQbaab5 : Box2 (wbaa3.alloc (.cells #[.slice none 0 0, .slice none 0 0] 33)) wbaa3.heap.size 33 (.slice none 0 0) (.slice none 0 0) := by have := Box2.new wbaa3 33 (.slice none 0 0) (.slice none 0 0); rw [eQbaab5] at this; exact this
            have tLbaab5 : n + 2 ≤ wbaa3.heap.size := Nat.le_trans tZbaa4 (Nat.le_of_eq eQbaab5)
            clear eQbaab5
            refine opwp_value (v := (.pointer (some ⟨wbaa3.heap.size, 0, none⟩))) (w' := (wbaa3.alloc (.cells #[.slice none 0 0, .slice none 0 0] 33))) (by simp [execOp, go_sem]) ⟨.inr fabaab5_0.out, ?_⟩
            simp only [Act.put, List.setIfInBounds_toArray, List.set_cons_zero, List.set_cons_succ]
            refine wpAnyL_one (i := 7) (by kernel_rfl) (by simp only [List.getElem?_toArray, List.getElem?_cons_zero, List.getElem?_cons_succ] <;> rfl) (by rfl) ?_
            refine opwp_append_I _ _ rfl (n + 2) (.slice (some ⟨w1.heap.size, 0, none⟩) 0 0) [] rfl tIbaab5 _ U rfl (HY.out _ tBbaab5) (by show 0 + _ ≤ 16777216; omega) tZbaab5 ?_
            intro vbaab6 wbaab6 hobaab6 hgbaab6 _
            rw [List.nil_append] at hobaab6
            obtain ⟨pbaab6, cbaab6, ebaab6, _⟩ := OwnInts.ints hobaab6
            subst ebaab6
            have tAbaab7 : Box2 wbaab6 n 33 (.slice px B.length cx) (.slice py U.length cy) := tAbaab5.app tIbaab5 hgbaab6 (by decide)
            have tRbaab7 : Box2 wbaab6 (n + 1) 33 (.slice none 0 0) (.slice none 0 0) := tRbaab5.app tIbaab5 hgbaab6 (by decide)
            have tBbaab7 : Below w.heap.size w wbaab6 := tBbaab5.grown hgbaab6 tBbaab5.size (fun k e => by have := (World.ownsRow.lt tIbaab5 k e).1; have := HN.out; omega)
            have tZbaab7 : n + 2 ≤ wbaab6.heap.size := Nat.le_trans tZbaab5 hgbaab6.size
            have tSbaab7 : OwnSets wbaab6 (n + 2) (.slice pbaa3 B.length cbaa3) B := World.ownsRow.kept tSbaab5 hgbaab6 (own_apart tSbaab5 tIbaab5 (by decide))
            have tQbaab7 : Box2 wbaab6 wbaa3.heap.size 33 (.slice none 0 0) (.slice none 0 0) := tQbaab5.app tIbaab5 hgbaab6 (by decide)
            have fabaab7_0 : Hid (Box2 wbaab6 (n) 33 (.slice px B.length cx) (.slice py U.length cy)) := fabaab5_0.out.app tIbaab5 hgbaab6 (by decide)
            refine ⟨.inl (by kernel_rfl), ?_⟩
            simp only [Act.put, List.setIfInBounds_toArray, List.set_cons_zero, List.set_cons_succ]
            refine wpAnyL_one (i := 8) (by kernel_rfl) (by simp only [List.getElem?_toArray, List.getElem?_cons_zero, List.getElem?_cons_succ] <;> rfl) (by rfl) ?_
            refine opwp_value (v := .agg #[(.slice pbaa3 B.length cbaa3), (.slice pbaab6 U.length cbaab6)]) (w' := wbaab6) (by simp [execOp, go_sem, Act.eval]) ⟨.inl (by kernel_rfl), ?_⟩
            simp only [Act.put, List.setIfInBounds_toArray, List.set_cons_zero, List.set_cons_succ]
            obtain ⟨z0, z1, z2, z3⟩ := tQbaab7.cells
            refine wpAnyL_one (i := 10) (by kernel_rfl) (by simp only [List.getElem?_toArray, List.getElem?_cons_zero, List.getElem?_cons_succ] <;> rfl) (by rfl) ?_
            refine opwp_skip (w' := ((wbaab6.setCell ⟨wbaa3.heap.size, 0, none⟩ (.slice pbaa3 B.length cbaa3)).setCell ⟨wbaa3.heap.size, 1, none⟩ (.slice pbaab6 U.length cbaab6))) (by simp [execOp, go_sem, Act.eval, z0, z1, z2, z3]) ⟨.inl (by kernel_rfl), ?_⟩
            simp only [Act.put]
            refine wpAnyL_done (by kernel_rfl) ?_ _
            have hfin := hid (RcM.of HN.out tAbaab7 tRbaab7 tQbaab7 tSbaab7 hobaab6 tBbaab7 tLbaab5)
            go_wp2_with fail
            go_meet
            exact ⟨_, _, _, rfl, hfin.out⟩
        · have tAbab3 : Box2 (((w1.drew.alloc (.cells #[] 3)).alloc (.cells #[] 32)).alloc (.cells #[.slice none 0 0, .slice none 0 0] 33)) n 33 (.slice px B.length cx) (.slice py U.length cy) := tAba2.alloc _
          have tRbab3 : Box2 (((w1.drew.alloc (.cells #[] 3)).alloc (.cells #[] 32)).alloc (.cells #[.slice none 0 0, .slice none 0 0] 33)) (n + 1) 33 (.slice none 0 0) (.slice none 0 0) := tRba2.alloc _
          have tBbab3 : Below w.heap.size w (((w1.drew.alloc (.cells #[] 3)).alloc (.cells #[] 32)).alloc (.cells #[.slice none 0 0, .slice none 0 0] 33)) := tBba2.alloc tBba2.size _
          have tZbab3 : n + 2 ≤ (((w1.drew.alloc (.cells #[] 3)).alloc (.cells #[] 32)).alloc (.cells #[.slice none 0 0, .slice none 0 0] 33)).heap.size := Nat.le_trans tZba2 (by simp)
          have tIbab3 : OwnInts (((w1.drew.alloc (.cells #[] 3)).alloc (.cells #[] 32)).alloc (.cells #[.slice none 0 0, .slice none 0 0] 33)) (n + 2) (.slice (some ⟨w1.heap.size, 0, none⟩) 0 0) [] := World.ownsRow.alloc tIba2 _
          have tSbab3 : OwnSets (((w1.drew.alloc (.cells #[] 3)).alloc (.cells #[] 32)).alloc (.cells #[.slice none 0 0, .slice none 0 0] 33)) (n + 2) (.slice (some ⟨(w1.drew.alloc (.cells #[] 3)).heap.size, 0, none⟩) 0 0) [] := World.ownsRow.alloc tSba2 _
          have fabab3_0 : Hid (Box2 (((w1.drew.alloc (.cells #[] 3)).alloc (.cells #[] 32)).alloc (.cells #[.slice none 0 0, .slice none 0 0] 33)) (n) 33 (.slice px B.length cx) (.slice py U.length cy)) := faba2_0.out.alloc _
          have eQbab3 : ((w1.drew.alloc (.cells #[] 3)).alloc (.cells #[] 32)).heap.size = (w1.heap.size + 1 + 1) := by simp
          have tQbab3 : Box2 (((w1.drew.alloc (.cells #[] 3)).alloc (.cells #[] 32)).alloc (.cells #[.slice none 0 0, .slice none 0 0] 33)) (w1.heap.size + 1 + 1) 33 (.slice none 0 0) (.slice none 0 0) := by have := Box2.new ((w1.drew.alloc (.cells #[] 3)).alloc (.cells #[] 32)) 33 (.slice none 0 0) (.slice none 0 0); rw [eQbab3] at this; exact this
          have tLbab3 : n + 2 ≤ (w1.heap.size + 1 + 1) := Nat.le_trans tZba2 (Nat.le_of_eq eQbab3)
          clear eQbab3
          refine opwp_value (v := (.pointer (some ⟨(w1.heap.size + 1 + 1), 0, none⟩))) (w' := (((w1.drew.alloc (.cells #[] 3)).alloc (.cells #[] 32)).alloc (.cells #[.slice none 0 0, .slice none 0 0] 33))) (by simp [execOp, go_sem]) ⟨.inr fabab3_0.out, ?_⟩
          simp only [Act.put, List.setIfInBounds_toArray, List.set_cons_zero, List.set_cons_succ]
          refine wpAnyL_one (i := 3) (by kernel_rfl) (by simp only [List.getElem?_toArray, List.getElem?_cons_zero, List.getElem?_cons_succ] <;> rfl) (by rfl) ?_
          refine opwp_append_S _ _ rfl (n + 2) (.slice (some ⟨(w1.drew.alloc (.cells #[] 3)).heap.size, 0, none⟩) 0 0) [] rfl tSbab3 _ B rfl (HX.out _ tBbab3) (by show 0 + _ ≤ 16777216; omega) tZbab3 ?_
          intro vbab4 wbab4 hobab4 hgbab4 _
          rw [List.nil_append] at hobab4
          obtain ⟨pbab4, cbab4, ebab4, _⟩ := OwnSets.sets hobab4
          subst ebab4
          have tAbab5 : Box2 wbab4 n 33 (.slice px B.length cx) (.slice py U.length cy) := tAbab3.app tSbab3 hgbab4 (by decide)
          have tRbab5 : Box2 wbab4 (n + 1) 33 (.slice none 0 0) (.slice none 0 0) := tRbab3.app tSbab3 hgbab4 (by decide)
          have tBbab5 : Below w.heap.size w wbab4 := tBbab3.grown hgbab4 tBbab3.size (fun k e => by have := (World.ownsRow.lt tSbab3 k e).1; have := HN.out; omega)
          have tZbab5 : n + 2 ≤ wbab4.heap.size := Nat.le_trans tZbab3 hgbab4.size
          have tIbab5 : OwnInts wbab4 (n + 2) (.slice (some ⟨w1.heap.size, 0, none⟩) 0 0) [] := World.ownsRow.kept tIbab3 hgbab4 (own_apart tIbab3 tSbab3 (by decide))
          have tQbab5 : Box2 wbab4 (w1.heap.size + 1 + 1) 33 (.slice none 0 0) (.slice none 0 0) := tQbab3.app tSbab3 hgbab4 (by decide)
          have fabab5_0 : Hid (Box2 wbab4 (n) 33 (.slice px B.length cx) (.slice py U.length cy)) := fabab3_0.out.app tSbab3 hgbab4 (by decide)
          refine ⟨.inr fabab5_0.out, ?_⟩
          simp only [Act.put, List.setIfInBounds_toArray, List.set_cons_zero, List.set_cons_succ]
          refine wpAnyL_one (i := 7) (by kernel_rfl) (by simp only [List.getElem?_toArray, List.getElem?_cons_zero, List.getElem?_cons_succ] <;> rfl) (by rfl) ?_
          refine opwp_append_I _ _ rfl (n + 2) (.slice (some ⟨w1.heap.size, 0, none⟩) 0 0) [] rfl tIbab5 _ U rfl (HY.out _ tBbab5) (by show 0 + _ ≤ 16777216; omega) tZbab5 ?_
          intro vbab6 wbab6 hobab6 hgbab6 _
          rw [List.nil_append] at hobab6
          obtain ⟨pbab6, cbab6, ebab6, _⟩ := OwnInts.ints hobab6
          subst ebab6
          have tAbab7 : Box2 wbab6 n 33 (.slice px B.length cx) (.slice py U.length cy) := tAbab5.app tIbab5 hgbab6 (by decide)
          have tRbab7 : Box2 wbab6 (n + 1) 33 (.slice none 0 0) (.slice none 0 0) := tRbab5.app tIbab5 hgbab6 (by decide)
          have tBbab7 : Below w.heap.size w wbab6 := tBbab5.grown hgbab6 tBbab5.size (fun k e => by have := (World.ownsRow.lt tIbab5 k e).1; have := HN.out; omega)
          have tZbab7 : n + 2 ≤ wbab6.heap.size := Nat.le_trans tZbab5 hgbab6.size
          have tSbab7 : OwnSets wbab6 (n + 2) (.slice pbab4 B.length cbab4) B := World.ownsRow.kept hobab4 hgbab6 (own_apart hobab4 tIbab5 (by decide))
          have tQbab7 : Box2 wbab6 (w1.heap.size + 1 + 1) 33 (.slice none 0 0) (.slice none 0 0) := tQbab5.app tIbab5 hgbab6 (by decide)
          have fabab7_0 : Hid (Box2 wbab6 (n) 33 (.slice px B.length cx) (.slice py U.length cy)) := fabab5_0.out.app tIbab5 hgbab6 (by decide)
          refine ⟨.inl (by kernel_rfl), ?_⟩
          simp only [Act.put, List.setIfInBounds_toArray, List.set_cons_zero, List.set_cons_succ]
          refine wpAnyL_one (i := 8) (by kernel_rfl) (by simp only [List.getElem?_toArray, List.getElem?_cons_zero, List.getElem?_cons_succ] <;> rfl) (by rfl) ?_
          refine opwp_value (v := .agg #[(.slice pbab4 B.length cbab4), (.slice pbab6 U.length cbab6)]) (w' := wbab6) (by simp [execOp, go_sem, Act.eval]) ⟨.inl (by kernel_rfl), ?_⟩
          simp only [Act.put, List.setIfInBounds_toArray, List.set_cons_zero, List.set_cons_succ]
          obtain ⟨z0, z1, z2, z3⟩ := tQbab7.cells
          refine wpAnyL_one (i := 10) (by kernel_rfl) (by simp only [List.getElem?_toArray, List.getElem?_cons_zero, List.getElem?_cons_succ] <;> rfl) (by rfl) ?_
          refine opwp_skip (w' := ((wbab6.setCell ⟨(w1.heap.size + 1 + 1), 0, none⟩ (.slice pbab4 B.length cbab4)).setCell ⟨(w1.heap.size + 1 + 1), 1, none⟩ (.slice pbab6 U.length cbab6))) (by simp [execOp, go_sem, Act.eval, z0, z1, z2, z3]) ⟨.inl (by kernel_rfl), ?_⟩
          simp only [Act.put]
          refine wpAnyL_done (by kernel_rfl) ?_ _
          have hfin := hid (RcM.of HN.out tAbab7 tRbab7 tQbab7 tSbab7 hobab6 tBbab7 tLbab3)
          go_wp2_with fail
          go_meet
          exact ⟨_, _, _, rfl, hfin.out⟩
      · have tAbb2 : Box2 ((w1.drew.alloc (.cells #[] 3)).alloc (.cells #[.slice none 0 0, .slice none 0 0] 33)) n 33 (.slice px B.length cx) (.slice py U.length cy) := tAb1.alloc _
        have tRbb2 : Box2 ((w1.drew.alloc (.cells #[] 3)).alloc (.cells #[.slice none 0 0, .slice none 0 0] 33)) (n + 1) 33 (.slice none 0 0) (.slice none 0 0) := tRb1.alloc _
        have tBbb2 : Below w.heap.size w ((w1.drew.alloc (.cells #[] 3)).alloc (.cells #[.slice none 0 0, .slice none 0 0] 33)) := tBb1.alloc tBb1.size _
        have tZbb2 : n + 2 ≤ ((w1.drew.alloc (.cells #[] 3)).alloc (.cells #[.slice none 0 0, .slice none 0 0] 33)).heap.size := Nat.le_trans tZb1 (by simp)
        have tIbb2 : OwnInts ((w1.drew.alloc (.cells #[] 3)).alloc (.cells #[.slice none 0 0, .slice none 0 0] 33)) (n + 2) (.slice (some ⟨w1.heap.size, 0, none⟩) 0 0) [] := World.ownsRow.alloc tIb1 _
        have fabb2_0 : Hid (Box2 ((w1.drew.alloc (.cells #[] 3)).alloc (.cells #[.slice none 0 0, .slice none 0 0] 33)) (n) 33 (.slice px B.length cx) (.slice py U.length cy)) := fab1_0.out.alloc _
        have eQbb2 : (w1.drew.alloc (.cells #[] 3)).heap.size = (w1.heap.size + 1) := by simp
        have tQbb2 : Box2 ((w1.drew.alloc (.cells #[] 3)).alloc (.cells #[.slice none 0 0, .slice none 0 0] 33)) (w1.heap.size + 1) 33 (.slice none 0 0) (.slice none 0 0) := by have := Box2.new (w1.drew.alloc (.cells #[] 3)) 33 (.slice none 0 0) (.slice none 0 0); rw [eQbb2] at this; exact this
        have tLbb2 : n + 2 ≤ (w1.heap.size + 1) := Nat.le_trans tZb1 (Nat.le_of_eq eQbb2)
        clear eQbb2
        refine opwp_value (v := (.pointer (some ⟨(w1.heap.size + 1), 0, none⟩))) (w' := ((w1.drew.alloc (.cells #[] 3)).alloc (.cells #[.slice none 0 0, .slice none 0 0] 33))) (by simp [execOp, go_sem]) ⟨.inr fabb2_0.out, ?_⟩
        simp only [Act.put, List.setIfInBounds_toArray, List.set_cons_zero, List.set_cons_succ]
        have tAbb3 : Box2 (((w1.drew.alloc (.cells #[] 3)).alloc (.cells #[.slice none 0 0, .slice none 0 0] 33)).alloc (.cells #[] 32)) n 33 (.slice px B.length cx) (.slice py U.length cy) := tAbb2.alloc _
        have tRbb3 : Box2 (((w1.drew.alloc (.cells #[] 3)).alloc (.cells #[.slice none 0 0, .slice none 0 0] 33)).alloc (.cells #[] 32)) (n + 1) 33 (.slice none 0 0) (.slice none 0 0) := tRbb2.alloc _
        have tBbb3 : Below w.heap.size w (((w1.drew.alloc (.cells #[] 3)).alloc (.cells #[.slice none 0 0, .slice none 0 0] 33)).alloc (.cells #[] 32)) := tBbb2.alloc tBbb2.size _
        have tZbb3 : n + 2 ≤ (((w1.drew.alloc (.cells #[] 3)).alloc (.cells #[.slice none 0 0, .slice none 0 0] 33)).alloc (.cells #[] 32)).heap.size := Nat.le_trans tZbb2 (by simp)
        have tIbb3 : OwnInts (((w1.drew.alloc (.cells #[] 3)).alloc (.cells #[.slice none 0 0, .slice none 0 0] 33)).alloc (.cells #[] 32)) (n + 2) (.slice (some ⟨w1.heap.size, 0, none⟩) 0 0) [] := World.ownsRow.alloc tIbb2 _
        have tQbb3 : Box2 (((w1.drew.alloc (.cells #[] 3)).alloc (.cells #[.slice none 0 0, .slice none 0 0] 33)).alloc (.cells #[] 32)) (w1.heap.size + 1) 33 (.slice none 0 0) (.slice none 0 0) := tQbb2.alloc _
        have fabb3_0 : Hid (Box2 (((w1.drew.alloc (.cells #[] 3)).alloc (.cells #[.slice none 0 0, .slice none 0 0] 33)).alloc (.cells #[] 32)) (n) 33 (.slice px B.length cx) (.slice py U.length cy)) := fabb2_0.out.alloc _
        have tSbb3 : OwnSets (((w1.drew.alloc (.cells #[] 3)).alloc (.cells #[.slice none 0 0, .slice none 0 0] 33)).alloc (.cells #[] 32)) (n + 2) (.slice (some ⟨((w1.drew.alloc (.cells #[] 3)).alloc (.cells #[.slice none 0 0, .slice none 0 0] 33)).heap.size, 0, none⟩) 0 0) [] := own_noneS ((w1.drew.alloc (.cells #[] 3)).alloc (.cells #[.slice none 0 0, .slice none 0 0] 33)) tZbb2
        refine wpAnyL_one (i := 0) (by kernel_rfl) (by simp only [List.getElem?_toArray, List.getElem?_cons_zero] <;> rfl) (by rfl) ?_
        refine opwp_value (v := (.slice (some ⟨((w1.drew.alloc (.cells #[] 3)).alloc (.cells #[.slice none 0 0, .slice none 0 0] 33)).heap.size, 0, none⟩) 0 0)) (w' := (((w1.drew.alloc (.cells #[] 3)).alloc (.cells #[.slice none 0 0, .slice none 0 0] 33)).alloc (.cells #[] 32))) (by simp [execOp, go_sem]) ⟨.inr fabb3_0.out, ?_⟩
        simp only [Act.put, List.setIfInBounds_toArray, List.set_cons_zero, List.set_cons_succ]
        refine wpAnyL_one (i := 3) (by kernel_rfl) (by simp only [List.getElem?_toArray, List.getElem?_cons_zero, List.getElem?_cons_succ] <;> rfl) (by rfl) ?_
        refine opwp_append_S _ _ rfl (n + 2) (.slice (some ⟨((w1.drew.alloc (.cells #[] 3)).alloc (.cells #[.slice none 0 0, .slice none 0 0] 33)).heap.size, 0, none⟩) 0 0) [] rfl tSbb3 _ B rfl (HX.out _ tBbb3) (by show 0 + _ ≤ 16777216; omega) tZbb3 ?_
        intro vbb4 wbb4 hobb4 hgbb4 _
        rw [List.nil_append] at hobb4
        obtain ⟨pbb4, cbb4, ebb4, _⟩ := OwnSets.sets hobb4
        subst ebb4
        have tAbb5 : Box2 wbb4 n 33 (.slice px B.length cx) (.slice py U.length cy) := tAbb3.app tSbb3 hgbb4 (by decide)
        have tRbb5 : Box2 wbb4 (n + 1) 33 (.slice none 0 0) (.slice none 0 0) := tRbb3.app tSbb3 hgbb4 (by decide)
        have tBbb5 : Below w.heap.size w wbb4 := tBbb3.grown hgbb4 tBbb3.size (fun k e => by have := (World.ownsRow.lt tSbb3 k e).1; have := HN.out; omega)
        have tZbb5 : n + 2 ≤ wbb4.heap.size := Nat.le_trans tZbb3 hgbb4.size
        have tIbb5 : OwnInts wbb4 (n + 2) (.slice (some ⟨w1.heap.size, 0, none⟩) 0 0) [] := World.ownsRow.kept tIbb3 hgbb4 (own_apart tIbb3 tSbb3 (by decide))
        have tQbb5 : Box2 wbb4 (w1.heap.size + 1) 33 (.slice none 0 0) (.slice none 0 0) := tQbb3.app tSbb3 hgbb4 (by decide)
        have fabb5_0 : Hid (Box2 wbb4 (n) 33 (.slice px B.length cx) (.slice py U.length cy)) := fabb3_0.out.app tSbb3 hgbb4 (by decide)
        refine ⟨.inr fabb5_0.out, ?_⟩
        simp only [Act.put, List.setIfInBounds_toArray, List.set_cons_zero, List.set_cons_succ]
        refine wpAnyL_one (i := 7) (by kernel_rfl) (by simp only [List.getElem?_toArray, List.getElem?_cons_zero, List.getElem?_cons_succ] <;> rfl) (by rfl) ?_
        refine opwp_append_I _ _ rfl (n + 2) (.slice (some ⟨w1.heap.size, 0, none⟩) 0 0) [] rfl tIbb5 _ U rfl (HY.out _ tBbb5) (by show 0 + _ ≤ 16777216; omega) tZbb5 ?_
        intro vbb6 wbb6 hobb6 hgbb6 _
        rw [List.nil_append] at hobb6
        obtain ⟨pbb6, cbb6, ebb6, _⟩ := OwnInts.ints hobb6
        subst ebb6
        have tAbb7 : Box2 wbb6 n 33 (.slice px B.length cx) (.slice py U.length cy) := tAbb5.app tIbb5 hgbb6 (by decide)
        have tRbb7 : Box2 wbb6 (n + 1) 33 (.slice none 0 0) (.slice none 0 0) := tRbb5.app tIbb5 hgbb6 (by decide)
        have tBbb7 : Below w.heap.size w wbb6 := tBbb5.grown hgbb6 tBbb5.size (fun k e => by have := (World.ownsRow.lt tIbb5 k e).1; have := HN.out; omega)
        have tZbb7 : n + 2 ≤ wbb6.heap.size := Nat.le_trans tZbb5 hgbb6.size
        have tQbb7 : Box2 wbb6 (w1.heap.size + 1) 33 (.slice none 0 0) (.slice none 0 0) := tQbb5.app tIbb5 hgbb6 (by decide)
        have tSbb7 : OwnSets wbb6 (n + 2) (.slice pbb4 B.length cbb4) B := World.ownsRow.kept hobb4 hgbb6 (own_apart hobb4 tIbb5 (by decide))
        have fabb7_0 : Hid (Box2 wbb6 (n) 33 (.slice px B.length cx) (.slice py U.length cy)) := fabb5_0.out.app tIbb5 hgbb6 (by decide)
        refine ⟨.inl (by kernel_rfl), ?_⟩
        simp only [Act.put, List.setIfInBounds_toArray, List.set_cons_zero, List.set_cons_succ]
        refine wpAnyL_one (i := 8) (by kernel_rfl) (by simp only [List.getElem?_toArray, List.getElem?_cons_zero, List.getElem?_cons_succ] <;> rfl) (by rfl) ?_
        refine opwp_value (v := .agg #[(.slice pbb4 B.length cbb4), (.slice pbb6 U.length cbb6)]) (w' := wbb6) (by simp [execOp, go_sem, Act.eval]) ⟨.inl (by kernel_rfl), ?_⟩
        simp only [Act.put, List.setIfInBounds_toArray, List.set_cons_zero, List.set_cons_succ]
        obtain ⟨z0, z1, z2, z3⟩ := tQbb7.cells
        refine wpAnyL_one (i := 10) (by kernel_rfl) (by simp only [List.getElem?_toArray, List.getElem?_cons_zero, List.getElem?_cons_succ] <;> rfl) (by rfl) ?_
        refine opwp_skip (w' := ((wbb6.setCell ⟨(w1.heap.size + 1), 0, none⟩ (.slice pbb4 B.length cbb4)).setCell ⟨(w1.heap.size + 1), 1, none⟩ (.slice pbb6 U.length cbb6))) (by simp [execOp, go_sem, Act.eval, z0, z1, z2, z3]) ⟨.inl (by kernel_rfl), ?_⟩
        simp only [Act.put]
        refine wpAnyL_done (by kernel_rfl) ?_ _
        have hfin := hid (RcM.of HN.out tAbb7 tRbb7 tQbb7 tSbb7 hobb6 tBbb7 tLbb2)
        go_wp2_with fail
        go_meet
        exact ⟨_, _, _, rfl, hfin.out⟩
    · have tAc1 : Box2 (w1.drew.alloc (.cells #[.slice none 0 0, .slice none 0 0] 33)) n 33 (.slice px B.length cx) (.slice py U.length cy) := ta0.alloc _
      have tRc1 : Box2 (w1.drew.alloc (.cells #[.slice none 0 0, .slice none 0 0] 33)) (n + 1) 33 (.slice none 0 0) (.slice none 0 0) := tr0.alloc _
      have tBc1 : Below w.heap.size w (w1.drew.alloc (.cells #[.slice none 0 0, .slice none 0 0] 33)) := tb0.alloc tb0.size _
      have tZc1 : n + 2 ≤ (w1.drew.alloc (.cells #[.slice none 0 0, .slice none 0 0] 33)).heap.size := Nat.le_trans ts0 (by simp)
      have fac1_0 : Hid (Box2 (w1.drew.alloc (.cells #[.slice none 0 0, .slice none 0 0] 33)) (n) 33 (.slice px B.length cx) (.slice py U.length cy)) := BA.out.alloc _
      have eQc1 : w1.drew.heap.size = w1.heap.size := rfl
      have tQc1 : Box2 (w1.drew.alloc (.cells #[.slice none 0 0, .slice none 0 0] 33)) w1.heap.size 33 (.slice none 0 0) (.slice none 0 0) := by have := Box2.new w1.drew 33 (.slice none 0 0) (.slice none 0 0); rw [eQc1] at this; exact this
      have tLc1 : n + 2 ≤ w1.heap.size := Nat.le_trans ts0 (Nat.le_of_eq eQc1)
      clear eQc1
      refine opwp_value (v := (.pointer (some ⟨w1.heap.size, 0, none⟩))) (w' := (w1.drew.alloc (.cells #[.slice none 0 0, .slice none 0 0] 33))) (by simp [execOp, go_sem]) ⟨.inr fac1_0.out, ?_⟩
      simp only [Act.put, List.setIfInBounds_toArray, List.set_cons_zero, List.set_cons_succ]
      refine wpAnyL_two (i := 0) (j := 4) (by kernel_rfl) (by simp only [List.getElem?_toArray, List.getElem?_cons_zero] <;> rfl) (by rfl) (by simp only [List.getElem?_toArray, List.getElem?_cons_zero, List.getElem?_cons_succ] <;> rfl) (by rfl) ?_ ?_
      · have tAca2 : Box2 ((w1.drew.alloc (.cells #[.slice none 0 0, .slice none 0 0] 33)).alloc (.cells #[] 32)) n 33 (.slice px B.length cx) (.slice py U.length cy) := tAc1.alloc _
        have tRca2 : Box2 ((w1.drew.alloc (.cells #[.slice none 0 0, .slice none 0 0] 33)).alloc (.cells #[] 32)) (n + 1) 33 (.slice none 0 0) (.slice none 0 0) := tRc1.alloc _
        have tBca2 : Below w.heap.size w ((w1.drew.alloc (.cells #[.slice none 0 0, .slice none 0 0] 33)).alloc (.cells #[] 32)) := tBc1.alloc tBc1.size _
        have tZca2 : n + 2 ≤ ((w1.drew.alloc (.cells #[.slice none 0 0, .slice none 0 0] 33)).alloc (.cells #[] 32)).heap.size := Nat.le_trans tZc1 (by simp)
        have tQca2 : Box2 ((w1.drew.alloc (.cells #[.slice none 0 0, .slice none 0 0] 33)).alloc (.cells #[] 32)) w1.heap.size 33 (.slice none 0 0) (.slice none 0 0) := tQc1.alloc _
        have faca2_0 : Hid (Box2 ((w1.drew.alloc (.cells #[.slice none 0 0, .slice none 0 0] 33)).alloc (.cells #[] 32)) (n) 33 (.slice px B.length cx) (.slice py U.length cy)) := fac1_0.out.alloc _
        have tSca2 : OwnSets ((w1.drew.alloc (.cells #[.slice none 0 0, .slice none 0 0] 33)).alloc (.cells #[] 32)) (n + 2) (.slice (some ⟨(w1.drew.alloc (.cells #[.slice none 0 0, .slice none 0 0] 33)).heap.size, 0, none⟩) 0 0) [] := own_noneS (w1.drew.alloc (.cells #[.slice none 0 0, .slice none 0 0] 33)) tZc1
        refine opwp_value (v := (.slice (some ⟨(w1.drew.alloc (.cells #[.slice none 0 0, .slice none 0 0] 33)).heap.size, 0, none⟩) 0 0)) (w' := ((w1.drew.alloc (.cells #[.slice none 0 0, .slice none 0 0] 33)).alloc (.cells #[] 32))) (by simp [execOp, go_sem]) ⟨.inr faca2_0.out, ?_⟩
        simp only [Act.put, List.setIfInBounds_toArray, List.set_cons_zero, List.set_cons_succ]
        refine wpAnyL_two (i := 3) (j := 4) (by kernel_rfl) (by simp only [List.getElem?_toArray, List.getElem?_cons_zero, List.getElem?_cons_succ] <;> rfl) (by rfl) (by simp only [List.getElem?_toArray, List.getElem?_cons_zero, List.getElem?_cons_succ] <;> rfl) (by rfl) ?_ ?_
        · refine opwp_append_S _ _ rfl (n + 2) (.slice (some ⟨(w1.drew.alloc (.cells #[.slice none 0 0, .slice none 0 0] 33)).heap.size, 0, none⟩) 0 0) [] rfl tSca2 _ B rfl (HX.out _ tBca2) (by show 0 + _ ≤ 16777216; omega) tZca2 ?_
          intro vcaa3 wcaa3 hocaa3 hgcaa3 _
          rw [List.nil_append] at hocaa3
          obtain ⟨pcaa3, ccaa3, ecaa3, _⟩ := OwnSets.sets hocaa3
          subst ecaa3
          have tAcaa4 : Box2 wcaa3 n 33 (.slice px B.length cx) (.slice py U.length cy) := tAca2.app tSca2 hgcaa3 (by decide)
          have tRcaa4 : Box2 wcaa3 (n + 1) 33 (.slice none 0 0) (.slice none 0 0) := tRca2.app tSca2 hgcaa3 (by decide)
          have tBcaa4 : Below w.heap.size w wcaa3 := tBca2.grown hgcaa3 tBca2.size (fun k e => by have := (World.ownsRow.lt tSca2 k e).1; have := HN.out; omega)
          have tZcaa4 : n + 2 ≤ wcaa3.heap.size := Nat.le_trans tZca2 hgcaa3.size
          have tQcaa4 : Box2 wcaa3 w1.heap.size 33 (.slice none 0 0) (.slice none 0 0) := tQca2.app tSca2 hgcaa3 (by decide)
          have facaa4_0 : Hid (Box2 wcaa3 (n) 33 (.slice px B.length cx) (.slice py U.length cy)) := faca2_0.out.app tSca2 hgcaa3 (by decide)
          refine ⟨.inr facaa4_0.out, ?_⟩
          simp only [Act.put, List.setIfInBounds_toArray, List.set_cons_zero, List.set_cons_succ]
          have tAcaa5 : Box2 (wcaa3.alloc (.cells #[] 3)) n 33 (.slice px B.length cx) (.slice py U.length cy) := tAcaa4.alloc _
          have tRcaa5 : Box2 (wcaa3.alloc (.cells #[] 3)) (n + 1) 33 (.slice none 0 0) (.slice none 0 0) := tRcaa4.alloc _
          have tBcaa5 : Below w.heap.size w (wcaa3.alloc (.cells #[] 3)) := tBcaa4.alloc tBcaa4.size _
          have tZcaa5 : n + 2 ≤ (wcaa3.alloc (.cells #[] 3)).heap.size := Nat.le_trans tZcaa4 (by simp)
          have tQcaa5 : Box2 (wcaa3.alloc (.cells #[] 3)) w1.heap.size 33 (.slice none 0 0) (.slice none 0 0) := tQcaa4.alloc _
          have tScaa5 : OwnSets (wcaa3.alloc (.cells #[] 3)) (n + 2) (.slice pcaa3 B.length ccaa3) B := World.ownsRow.alloc hocaa3 _
          have facaa5_0 : Hid (Box2 (wcaa3.alloc (.cells #[] 3)) (n) 33 (.slice px B.length cx) (.slice py U.length cy)) := facaa4_0.out.alloc _
          have tIcaa5 : OwnInts (wcaa3.alloc (.cells #[] 3)) (n + 2) (.slice (some ⟨wcaa3.heap.size, 0, none⟩) 0 0) [] := own_noneI wcaa3 tZcaa4
          refine wpAnyL_one (i := 4) (by kernel_rfl) (by simp only [List.getElem?_toArray, List.getElem?_cons_zero, List.getElem?_cons_succ] <;> rfl) (by rfl) ?_
          refine opwp_value (v := (.slice (some ⟨wcaa3.heap.size, 0, none⟩) 0 0)) (w' := (wcaa3.alloc (.cells #[] 3))) (by simp [execOp, go_sem]) ⟨.inr facaa5_0.out, ?_⟩
          simp only [Act.put, List.setIfInBounds_toArray, List.set_cons_zero, List.set_cons_succ]
          refine wpAnyL_one (i := 7) (by kernel_rfl) (by simp only [List.getElem?_toArray, List.getElem?_cons_zero, List.getElem?_cons_succ] <;> rfl) (by rfl) ?_
          refine opwp_append_I _ _ rfl (n + 2) (.slice (some ⟨wcaa3.heap.size, 0, none⟩) 0 0) [] rfl tIcaa5 _ U rfl (HY.out _ tBcaa5) (by show 0 + _ ≤ 16777216; omega) tZcaa5 ?_
          intro vcaa6 wcaa6 hocaa6 hgcaa6 _
          rw [List.nil_append] at hocaa6
          obtain ⟨pcaa6, ccaa6, ecaa6, _⟩ := OwnInts.ints hocaa6
          subst ecaa6
          have tAcaa7 : Box2 wcaa6 n 33 (.slice px B.length cx) (.slice py U.length cy) := tAcaa5.app tIcaa5 hgcaa6 (by decide)
          have tRcaa7 : Box2 wcaa6 (n + 1) 33 (.slice none 0 0) (.slice none 0 0) := tRcaa5.app tIcaa5 hgcaa6 (by decide)
          have tBcaa7 : Below w.heap.size w wcaa6 := tBcaa5.grown hgcaa6 tBcaa5.size (fun k e => by have := (World.ownsRow.lt tIcaa5 k e).1; have := HN.out; omega)
          have tZcaa7 : n + 2 ≤ wcaa6.heap.size := Nat.le_trans tZcaa5 hgcaa6.size
          have tQcaa7 : Box2 wcaa6 w1.heap.size 33 (.slice none 0 0) (.slice none 0 0) := tQcaa5.app tIcaa5 hgcaa6 (by decide)
          have tScaa7 : OwnSets wcaa6 (n + 2) (.slice pcaa3 B.length ccaa3) B := World.ownsRow.kept tScaa5 hgcaa6 (own_apart tScaa5 tIcaa5 (by decide))
          have facaa7_0 : Hid (Box2 wcaa6 (n) 33 (.slice px B.length cx) (.slice py U.length cy)) := facaa5_0.out.app tIcaa5 hgcaa6 (by decide)
          refine ⟨.inl (by kernel_rfl), ?_⟩
          simp only [Act.put, List.setIfInBounds_toArray, List.set_cons_zero, List.set_cons_succ]
          refine wpAnyL_one (i := 8) (by kernel_rfl) (by simp only [List.getElem?_toArray, List.getElem?_cons_zero, List.getElem?_cons_succ] <;> rfl) (by rfl) ?_
          refine opwp_value (v := .agg #[(.slice pcaa3 B.length ccaa3), (.slice pcaa6 U.length ccaa6)]) (w' := wcaa6) (by simp [execOp, go_sem, Act.eval]) ⟨.inl (by kernel_rfl), ?_⟩
          simp only [Act.put, List.setIfInBounds_toArray, List.set_cons_zero, List.set_cons_succ]
          obtain ⟨z0, z1, z2, z3⟩ := tQcaa7.cells
          refine wpAnyL_one (i := 10) (by kernel_rfl) (by simp only [List.getElem?_toArray, List.getElem?_cons_zero, List.getElem?_cons_succ] <;> rfl) (by rfl) ?_
          refine opwp_skip (w' := ((wcaa6.setCell ⟨w1.heap.size, 0, none⟩ (.slice pcaa3 B.length ccaa3)).setCell ⟨w1.heap.size, 1, none⟩ (.slice pcaa6 U.length ccaa6))) (by simp [execOp, go_sem, Act.eval, z0, z1, z2, z3]) ⟨.inl (by kernel_rfl), ?_⟩
          simp only [Act.put]
          refine wpAnyL_done (by kernel_rfl) ?_ _
          have hfin := hid (RcM.of HN.out tAcaa7 tRcaa7 tQcaa7 tScaa7 hocaa6 tBcaa7 tLc1)
          go_wp2_with fail
          go_meet
          exact ⟨_, _, _, rfl, hfin.out⟩
        · have tAcab3 : Box2 (((w1.drew.alloc (.cells #[.slice none 0 0, .slice none 0 0] 33)).alloc (.cells #[] 32)).alloc (.cells #[] 3)) n 33 (.slice px B.length cx) (.slice py U.length cy) := tAca2.alloc _
          have tRcab3 : Box2 (((w1.drew.alloc (.cells #[.slice none 0 0, .slice none 0 0] 33)).alloc (.cells #[] 32)).alloc (.cells #[] 3)) (n + 1) 33 (.slice none 0 0) (.slice none 0 0) := tRca2.alloc _
          have tBcab3 : Below w.heap.size w (((w1.drew.alloc (.cells #[.slice none 0 0, .slice none 0 0] 33)).alloc (.cells #[] 32)).alloc (.cells #[] 3)) := tBca2.alloc tBca2.size _
          have tZcab3 : n + 2 ≤ (((w1.drew.alloc (.cells #[.slice none 0 0, .slice none 0 0] 33)).alloc (.cells #[] 32)).alloc (.cells #[] 3)).heap.size := Nat.le_trans tZca2 (by simp)
          have tQcab3 : Box2 (((w1.drew.alloc (.cells #[.slice none 0 0, .slice none 0 0] 33)).alloc (.cells #[] 32)).alloc (.cells #[] 3)) w1.heap.size 33 (.slice none 0 0) (.slice none 0 0) := tQca2.alloc _
          have tScab3 : OwnSets (((w1.drew.alloc (.cells #[.slice none 0 0, .slice none 0 0] 33)).alloc (.cells #[] 32)).alloc (.cells #[] 3)) (n + 2) (.slice (some ⟨(w1.drew.alloc (.cells #[.slice none 0 0, .slice none 0 0] 33)).heap.size, 0, none⟩) 0 0) [] := World.ownsRow.alloc tSca2 _
          have facab3_0 : Hid (Box2 (((w1.drew.alloc (.cells #[.slice none 0 0, .slice none 0 0] 33)).alloc (.cells #[] 32)).alloc (.cells #[] 3)) (n) 33 (.slice px B.length cx) (.slice py U.length cy)) := faca2_0.out.alloc _
          have tIcab3 : OwnInts (((w1.drew.alloc (.cells #[.slice none 0 0, .slice none 0 0] 33)).alloc (.cells #[] 32)).alloc (.cells #[] 3)) (n + 2) (.slice (some ⟨((w1.drew.alloc (.cells #[.slice none 0 0, .slice none 0 0] 33)).alloc (.cells #[] 32)).heap.size, 0, none⟩) 0 0) [] := own_noneI ((w1.drew.alloc (.cells #[.slice none 0 0, .slice none 0 0] 33)).alloc (.cells #[] 32)) tZca2
          refine opwp_value (v := (.slice (some ⟨((w1.drew.alloc (.cells #[.slice none 0 0, .slice none 0 0] 33)).alloc (.cells #[] 32)).heap.size, 0, none⟩) 0 0)) (w' := (((w1.drew.alloc (.cells #[.slice none 0 0, .slice none 0 0] 33)).alloc (.cells #[] 32)).alloc (.cells #[] 3))) (by simp [execOp, go_sem]) ⟨.inr facab3_0.out, ?_⟩
          simp only [Act.put, List.setIfInBounds_toArray, List.set_cons_zero, List.set_cons_succ]
          refine wpAnyL_one (i := 3) (by kernel_rfl) (by simp only [List.getElem?_toArray, List.getElem?_cons_zero, List.getElem?_cons_succ] <;> rfl) (by rfl) ?_
          refine opwp_append_S _ _ rfl (n + 2) (.slice (some ⟨(w1.drew.alloc (.cells #[.slice none 0 0, .slice none 0 0] 33)).heap.size, 0, none⟩) 0 0) [] rfl tScab3 _ B rfl (HX.out _ tBcab3) (by show 0 + _ ≤ 16777216; omega) tZcab3 ?_
          intro vcab4 wcab4 hocab4 hgcab4 _
          rw [List.nil_append] at hocab4
          obtain ⟨pcab4, ccab4, ecab4, _⟩ := OwnSets.sets hocab4
          subst ecab4
          have tAcab5 : Box2 wcab4 n 33 (.slice px B.length cx) (.slice py U.length cy) := tAcab3.app tScab3 hgcab4 (by decide)
          have tRcab5 : Box2 wcab4 (n + 1) 33 (.slice none 0 0) (.slice none 0 0) := tRcab3.app tScab3 hgcab4 (by decide)
          have tBcab5 : Below w.heap.size w wcab4 := tBcab3.grown hgcab4 tBcab3.size (fun k e => by have := (World.ownsRow.lt tScab3 k e).1; have := HN.out; omega)
          have tZcab5 : n + 2 ≤ wcab4.heap.size := Nat.le_trans tZcab3 hgcab4.size
          have tQcab5 : Box2 wcab4 w1.heap.size 33 (.slice none 0 0) (.slice none 0 0) := tQcab3.app tScab3 hgcab4 (by decide)
          have tIcab5 : OwnInts wcab4 (n + 2) (.slice (some ⟨((w1.drew.alloc (.cells #[.slice none 0 0, .slice none 0 0] 33)).alloc (.cells #[] 32)).heap.size, 0, none⟩) 0 0) [] := World.ownsRow.kept tIcab3 hgcab4 (own_apart tIcab3 tScab3 (by decide))
          have facab5_0 : Hid (Box2 wcab4 (n) 33 (.slice px B.length cx) (.slice py U.length cy)) := facab3_0.out.app tScab3 hgcab4 (by decide)
          refine ⟨.inr facab5_0.out, ?_⟩
          simp only [Act.put, List.setIfInBounds_toArray, List.set_cons_zero, List.set_cons_succ]
          refine wpAnyL_one (i := 7) (by kernel_rfl) (by simp only [List.getElem?_toArray, List.getElem?_cons_zero, List.getElem?_cons_succ] <;> rfl) (by rfl) ?_
          refine opwp_append_I _ _ rfl (n + 2) (.slice (some ⟨((w1.drew.alloc (.cells #[.slice none 0 0, .slice none 0 0] 33)).alloc (.cells #[] 32)).heap.size, 0, none⟩) 0 0) [] rfl tIcab5 _ U rfl (HY.out _ tBcab5) (by show 0 + _ ≤ 16777216; omega) tZcab5 ?_
          intro vcab6 wcab6 hocab6 hgcab6 _
          rw [List.nil_append] at hocab6
          obtain ⟨pcab6, ccab6, ecab6, _⟩ := OwnInts.ints hocab6
          subst ecab6
          have tAcab7 : Box2 wcab6 n 33 (.slice px B.length cx) (.slice py U.length cy) := tAcab5.app tIcab5 hgcab6 (by decide)
          have tRcab7 : Box2 wcab6 (n + 1) 33 (.slice none 0 0) (.slice none 0 0) := tRcab5.app tIcab5 hgcab6 (by decide)
          have tBcab7 : Below w.heap.size w wcab6 := tBcab5.grown hgcab6 tBcab5.size (fun k e => by have := (World.ownsRow.lt tIcab5 k e).1; have := HN.out; omega)
          have tZcab7 : n + 2 ≤ wcab6.heap.size := Nat.le_trans tZcab5 hgcab6.size
          have tQcab7 : Box2 wcab6 w1.heap.size 33 (.slice none 0 0) (.slice none 0 0) := tQcab5.app tIcab5 hgcab6 (by decide)
          have tScab7 : OwnSets wcab6 (n + 2) (.slice pcab4 B.length ccab4) B := World.ownsRow.kept hocab4 hgcab6 (own_apart hocab4 tIcab5 (by decide))
          have facab7_0 : Hid (Box2 wcab6 (n) 33 (.slice px B.length cx) (.slice py U.length cy)) := facab5_0.out.app tIcab5 hgcab6 (by decide)
          refine ⟨.inl (by kernel_rfl), ?_⟩
          simp only [Act.put, List.setIfInBounds_toArray, List.set_cons_zero, List.set_cons_succ]
          refine wpAnyL_one (i := 8) (by kernel_rfl) (by simp only [List.getElem?_toArray, List.getElem?_cons_zero, List.getElem?_cons_succ] <;> rfl) (by rfl) ?_
          refine opwp_value (v := .agg #[(.slice pcab4 B.length ccab4), (.slice pcab6 U.length ccab6)]) (w' := wcab6) (by simp [execOp, go_sem, Act.eval]) ⟨.inl (by kernel_rfl), ?_⟩
          simp only [Act.put, List.setIfInBounds_toArray, List.set_cons_zero, List.set_cons_succ]
          obtain ⟨z0, z1, z2, z3⟩ := tQcab7.cells
          refine wpAnyL_one (i := 10) (by kernel_rfl) (by simp only [List.getElem?_toArray, List.getElem?_cons_zero, List.getElem?_cons_succ] <;> rfl) (by rfl) ?_
          refine opwp_skip (w' := ((wcab6.setCell ⟨w1.heap.size, 0, none⟩ (.slice pcab4 B.length ccab4)).setCell ⟨w1.heap.size, 1, none⟩ (.slice pcab6 U.length ccab6))) (by simp [execOp, go_sem, Act.eval, z0, z1, z2, z3]) ⟨.inl (by kernel_rfl), ?_⟩
          simp only [Act.put]
          refine wpAnyL_done (by kernel_rfl) ?_ _
          have hfin := hid (RcM.of HN.out tAcab7 tRcab7 tQcab7 tScab7 hocab6 tBcab7 tLc1)
          go_wp2_with fail
          go_meet
          exact ⟨_, _, _, rfl, hfin.out⟩
      · have tAcb2 : Box2 ((w1.drew.alloc (.cells #[.slice none 0 0, .slice none 0 0] 33)).alloc (.cells #[] 3)) n 33 (.slice px B.length cx) (.slice py U.length cy) := tAc1.alloc _
        have tRcb2 : Box2 ((w1.drew.alloc (.cells #[.slice none 0 0, .slice none 0 0] 33)).alloc (.cells #[] 3)) (n + 1) 33 (.slice none 0 0) (.slice none 0 0) := tRc1.alloc _
        have tBcb2 : Below w.heap.size w ((w1.drew.alloc (.cells #[.slice none 0 0, .slice none 0 0] 33)).alloc (.cells #[] 3)) := tBc1.alloc tBc1.size _
        have tZcb2 : n + 2 ≤ ((w1.drew.alloc (.cells #[.slice none 0 0, .slice none 0 0] 33)).alloc (.cells #[] 3)).heap.size := Nat.le_trans tZc1 (by simp)
        have tQcb2 : Box2 ((w1.drew.alloc (.cells #[.slice none 0 0, .slice none 0 0] 33)).alloc (.cells #[] 3)) w1.heap.size 33 (.slice none 0 0) (.slice none 0 0) := tQc1.alloc _
        have facb2_0 : Hid (Box2 ((w1.drew.alloc (.cells #[.slice none 0 0, .slice none 0 0] 33)).alloc (.cells #[] 3)) (n) 33 (.slice px B.length cx) (.slice py U.length cy)) := fac1_0.out.alloc _
        have tIcb2 : OwnInts ((w1.drew.alloc (.cells #[.slice none 0 0, .slice none 0 0] 33)).alloc (.cells #[] 3)) (n + 2) (.slice (some ⟨(w1.drew.alloc (.cells #[.slice none 0 0, .slice none 0 0] 33)).heap.size, 0, none⟩) 0 0) [] := own_noneI (w1.drew.alloc (.cells #[.slice none 0 0, .slice none 0 0] 33)) tZc1
        refine opwp_value (v := (.slice (some ⟨(w1.drew.alloc (.cells #[.slice none 0 0, .slice none 0 0] 33)).heap.size, 0, none⟩) 0 0)) (w' := ((w1.drew.alloc (.cells #[.slice none 0 0, .slice none 0 0] 33)).alloc (.cells #[] 3))) (by simp [execOp, go_sem]) ⟨.inr facb2_0.out, ?_⟩
        simp only [Act.put, List.setIfInBounds_toArray, List.set_cons_zero, List.set_cons_succ]
        have tAcb3 : Box2 (((w1.drew.alloc (.cells #[.slice none 0 0, .slice none 0 0] 33)).alloc (.cells #[] 3)).alloc (.cells #[] 32)) n 33 (.slice px B.length cx) (.slice py U.length cy) := tAcb2.alloc _
        have tRcb3 : Box2 (((w1.drew.alloc (.cells #[.slice none 0 0, .slice none 0 0] 33)).alloc (.cells #[] 3)).alloc (.cells #[] 32)) (n + 1) 33 (.slice none 0 0) (.slice none 0 0) := tRcb2.alloc _
        have tBcb3 : Below w.heap.size w (((w1.drew.alloc (.cells #[.slice none 0 0, .slice none 0 0] 33)).alloc (.cells #[] 3)).alloc (.cells #[] 32)) := tBcb2.alloc tBcb2.size _
        have tZcb3 : n + 2 ≤ (((w1.drew.alloc (.cells #[.slice none 0 0, .slice none 0 0] 33)).alloc (.cells #[] 3)).alloc (.cells #[] 32)).heap.size := Nat.le_trans tZcb2 (by simp)
        have tQcb3 : Box2 (((w1.drew.alloc (.cells #[.slice none 0 0, .slice none 0 0] 33)).alloc (.cells #[] 3)).alloc (.cells #[] 32)) w1.heap.size 33 (.slice none 0 0) (.slice none 0 0) := tQcb2.alloc _
        have tIcb3 : OwnInts (((w1.drew.alloc (.cells #[.slice none 0 0, .slice none 0 0] 33)).alloc (.cells #[] 3)).alloc (.cells #[] 32)) (n + 2) (.slice (some ⟨(w1.drew.alloc (.cells #[.slice none 0 0, .slice none 0 0] 33)).heap.size, 0, none⟩) 0 0) [] := World.ownsRow.alloc tIcb2 _
        have facb3_0 : Hid (Box2 (((w1.drew.alloc (.cells #[.slice none 0 0, .slice none 0 0] 33)).alloc (.cells #[] 3)).alloc (.cells #[] 32)) (n) 33 (.slice px B.length cx) (.slice py U.length cy)) := facb2_0.out.alloc _
        have tScb3 : OwnSets (((w1.drew.alloc (.cells #[.slice none 0 0, .slice none 0 0] 33)).alloc (.cells #[] 3)).alloc (.cells #[] 32)) (n + 2) (.slice (some ⟨((w1.drew.alloc (.cells #[.slice none 0 0, .slice none 0 0] 33)).alloc (.cells #[] 3)).heap.size, 0, none⟩) 0 0) [] := own_noneS ((w1.drew.alloc (.cells #[.slice none 0 0, .slice none 0 0] 33)).alloc (.cells #[] 3)) tZcb2
        refine wpAnyL_one (i := 0) (by kernel_rfl) (by simp only [List.getElem?_toArray, List.getElem?_cons_zero] <;> rfl) (by rfl) ?_
        refine opwp_value (v := (.slice (some ⟨((w1.drew.alloc (.cells #[.slice none 0 0, .slice none 0 0] 33)).alloc (.cells #[] 3)).heap.size, 0, none⟩) 0 0)) (w' := (((w1.drew.alloc (.cells #[.slice none 0 0, .slice none 0 0] 33)).alloc (.cells #[] 3)).alloc (.cells #[] 32))) (by simp [execOp, go_sem]) ⟨.inr facb3_0.out, ?_⟩
        simp only [Act.put, List.setIfInBounds_toArray, List.set_cons_zero, List.set_cons_succ]
        refine wpAnyL_one (i := 3) (by kernel_rfl) (by simp only [List.getElem?_toArray, List.getElem?_cons_zero, List.getElem?_cons_succ] <;> rfl) (by rfl) ?_
        refine opwp_append_S _ _ rfl (n + 2) (.slice (some ⟨((w1.drew.alloc (.cells #[.slice none 0 0, .slice none 0 0] 33)).alloc (.cells #[] 3)).heap.size, 0, none⟩) 0 0) [] rfl tScb3 _ B rfl (HX.out _ tBcb3) (by show 0 + _ ≤ 16777216; omega) tZcb3 ?_
        intro vcb4 wcb4 hocb4 hgcb4 _
        rw [List.nil_append] at hocb4
        obtain ⟨pcb4, ccb4, ecb4, _⟩ := OwnSets.sets hocb4
        subst ecb4
        have tAcb5 : Box2 wcb4 n 33 (.slice px B.length cx) (.slice py U.length cy) := tAcb3.app tScb3 hgcb4 (by decide)
        have tRcb5 : Box2 wcb4 (n + 1) 33 (.slice none 0 0) (.slice none 0 0) := tRcb3.app tScb3 hgcb4 (by decide)
        have tBcb5 : Below w.heap.size w wcb4 := tBcb3.grown hgcb4 tBcb3.size (fun k e => by have := (World.ownsRow.lt tScb3 k e).1; have := HN.out; omega)
        have tZcb5 : n + 2 ≤ wcb4.heap.size := Nat.le_trans tZcb3 hgcb4.size
        have tQcb5 : Box2 wcb4 w1.heap.size 33 (.slice none 0 0) (.slice none 0 0) := tQcb3.app tScb3 hgcb4 (by decide)
        have tIcb5 : OwnInts wcb4 (n + 2) (.slice (some ⟨(w1.drew.alloc (.cells #[.slice none 0 0, .slice none 0 0] 33)).heap.size, 0, none⟩) 0 0) [] := World.ownsRow.kept tIcb3 hgcb4 (own_apart tIcb3 tScb3 (by decide))
        have facb5_0 : Hid (Box2 wcb4 (n) 33 (.slice px B.length cx) (.slice py U.length cy)) := facb3_0.out.app tScb3 hgcb4 (by decide)
        refine ⟨.inr facb5_0.out, ?_⟩
        simp only [Act.put, List.setIfInBounds_toArray, List.set_cons_zero, List.set_cons_succ]
        refine wpAnyL_one (i := 7) (by kernel_rfl) (by simp only [List.getElem?_toArray, List.getElem?_cons_zero, List.getElem?_cons_succ] <;> rfl) (by rfl) ?_
        refine opwp_append_I _ _ rfl (n + 2) (.slice (some ⟨(w1.drew.alloc (.cells #[.slice none 0 0, .slice none 0 0] 33)).heap.size, 0, none⟩) 0 0) [] rfl tIcb5 _ U rfl (HY.out _ tBcb5) (by show 0 + _ ≤ 16777216; omega) tZcb5 ?_
        intro vcb6 wcb6 hocb6 hgcb6 _
        rw [List.nil_append] at hocb6
        obtain ⟨pcb6, ccb6, ecb6, _⟩ := OwnInts.ints hocb6
        subst ecb6
        have tAcb7 : Box2 wcb6 n 33 (.slice px B.length cx) (.slice py U.length cy) := tAcb5.app tIcb5 hgcb6 (by decide)
        have tRcb7 : Box2 wcb6 (n + 1) 33 (.slice none 0 0) (.slice none 0 0) := tRcb5.app tIcb5 hgcb6 (by decide)
        have tBcb7 : Below w.heap.size w wcb6 := tBcb5.grown hgcb6 tBcb5.size (fun k e => by have := (World.ownsRow.lt tIcb5 k e).1; have := HN.out; omega)
        have tZcb7 : n + 2 ≤ wcb6.heap.size := Nat.le_trans tZcb5 hgcb6.size
        have tQcb7 : Box2 wcb6 w1.heap.size 33 (.slice none 0 0) (.slice none 0 0) := tQcb5.app tIcb5 hgcb6 (by decide)
        have tScb7 : OwnSets wcb6 (n + 2) (.slice pcb4 B.length ccb4) B := World.ownsRow.kept hocb4 hgcb6 (own_apart hocb4 tIcb5 (by decide))
        have facb7_0 : Hid (Box2 wcb6 (n) 33 (.slice px B.length cx) (.slice py U.length cy)) := facb5_0.out.app tIcb5 hgcb6 (by decide)
        refine ⟨.inl (by kernel_rfl), ?_⟩
        simp only [Act.put, List.setIfInBounds_toArray, List.set_cons_zero, List.set_cons_succ]
        refine wpAnyL_one (i := 8) (by kernel_rfl) (by simp only [List.getElem?_toArray, List.getElem?_cons_zero, List.getElem?_cons_succ] <;> rfl) (by rfl) ?_
        refine opwp_value (v := .agg #[(.slice pcb4 B.length ccb4), (.slice pcb6 U.length ccb6)]) (w' := wcb6) (by simp [execOp, go_sem, Act.eval]) ⟨.inl (by kernel_rfl), ?_⟩
        simp only [Act.put, List.setIfInBounds_toArray, List.set_cons_zero, List.set_cons_succ]
        obtain ⟨z0, z1, z2, z3⟩ := tQcb7.cells
        refine wpAnyL_one (i := 10) (by kernel_rfl) (by simp only [List.getElem?_toArray, List.getElem?_cons_zero, List.getElem?_cons_succ] <;> rfl) (by rfl) ?_
        refine opwp_skip (w' := ((wcb6.setCell ⟨w1.heap.size, 0, none⟩ (.slice pcb4 B.length ccb4)).setCell ⟨w1.heap.size, 1, none⟩ (.slice pcb6 U.length ccb6))) (by simp [execOp, go_sem, Act.eval, z0, z1, z2, z3]) ⟨.inl (by kernel_rfl), ?_⟩
        simp only [Act.put]
        refine wpAnyL_done (by kernel_rfl) ?_ _
        have hfin := hid (RcM.of HN.out tAcb7 tRcb7 tQcb7 tScb7 hocb6 tBcb7 tLc1)
        go_wp2_with fail
        go_meet
        exact ⟨_, _, _, rfl, hfin.out⟩
  case rest =>
    obtain ⟨q, vB, vU, rfl, hcm⟩ := hcut
    obtain ⟨a0, a1, _, _⟩ := hcm.out.av.cells
    have HFO := hid (rFormed_c _ _ B U wc (HX.out _ hcm.out.low) (HY.out _ hcm.out.low) (by omega) (by omega))
    go_wp2_with fail
    refine HFO.out.mono ?_
    rintro e w3 ⟨rfl, hb3⟩
    have hc3 := hcm.out.below hb3
    have HC3 := hid hc3
    clear hcm hb3 HFO a0 a1
    obtain ⟨pB, cB, eB, _⟩ := OwnSets.sets hc3.own
    obtain ⟨pU, cU, eU, _⟩ := OwnInts.ints hc3.ownU
    subst eB; subst eU
    cases hf : formedB B.length U
    · have HF := hid hf
      obtain ⟨d0, d1, _, _⟩ := hc3.qv.cells
      obtain ⟨e0, e1, f0, f1⟩ := hc3.rv.cells
      clear hf hc3
      go_wp2_with fail
      have o1 := (HC3.out.own.kept (grownBy_01 _ (n + 1) (.slice pB B.length cB) (.slice pU U.length cU)) (own_far HC3.out.own (by intro k e; cases e; omega)))
      have o2 := (HC3.out.ownU.kept (grownBy_01 _ (n + 1) (.slice pB B.length cB) (.slice pU U.length cU)) (own_far HC3.out.ownU (by intro k e; cases e; omega)))
      have hn := HN.out
      exact bodyPost_ret (results_boxR rfl rfl (HC3.out.rv.set01 _ _)) rfl ⟨_, _, B, U, rfl, o1.mono (by omega), o2.mono (by omega), below_01 HC3.out.low (by omega) _ _, .inl ⟨HF.out, rfl, rfl⟩⟩
    · have HF := hid hf
      have HFM := hid (formedB_iff.1 hf)
      clear hf hc3
      go_wp2_with fail
      go_loopg [4] (B.length * 2000 + B.length) (fun m z wr => ∃ (i : Nat) (B' : List VS) (U' : List Int) (vB vU : Value), i ≤ B'.length ∧ B'.length ≤ B.length ∧ z = .int .i64 i ∧ Hid (m = B'.length * 2000 + (B'.length - i)) ∧ Hid (Formed B'.length U') ∧ Hid (∀ X Y, MRun B' U' i X Y → MRun B U 0 X Y) ∧ Hid (RcM w wr n q vB vU (.slice px B.length cx) (.slice py U.length cy) B' U'))
      case atStart => exact ⟨0, B, U, _, _, Nat.zero_le _, Nat.le_refl _, rfl, by show _ = _; simp, HFM.out, fun _ _ h => h, HC3.out⟩
      case round =>
        clear HC3 HFM
        obtain ⟨i, B', U', vB, vU, hi, hlb, rfl, hmz, hfm, hrun, hm⟩ := hrel
        have HLU := hid hfm.out.len
        by_cases hil : i < B'.length
        · obtain ⟨gB, dB, eB, hgB, rB⟩ := OwnSets.row hm.out.own (by omega)
          obtain ⟨gU, dU, eU, hgU, rU⟩ := OwnInts.row hm.out.ownU (by rw [HLU.out]; omega)
          subst eB; subst eU
          obtain ⟨d0, d1, _, _⟩ := hm.out.qv.cells
          have hiu : i < U'.length := by rw [HLU.out]; exact hil
          obtain ⟨c1, _⟩ := rU.at i hiu
          rw [← upF_nat U' i hiu] at c1
          have zi : (0 : Int) ≤ (i : Int) ∧ (i : Int) < (U'.length : Int) := by omega
          have ziB : (0 : Int) ≤ (i : Int) ∧ (i : Int) < (B'.length : Int) := by omega
          have hrg := hfm.out.range (i : Int) (by omega) (by omega)
          obtain ⟨bi, hbi, p0, p1, _, _⟩ := rB.get i hil
          have HBI := hid hbi
          have BX : Hid (Box2 wr.drew q 33 (.slice (some ⟨gB, 0, none⟩) B'.length dB) (.slice (some ⟨gU, 0, none⟩) U'.length dU)) := hm.out.qv
          have BI : Hid (wr.drew.cell? ⟨gB, i * 2, none⟩ = some (.int .u64 ((lw bi).toNat : Int)) ∧ wr.drew.cell? ⟨gB, i * 2 + 1, none⟩ = some (.int .u64 ((hw bi).toNat : Int))) := ⟨p0, p1⟩
          have BI0 := BI
          clear hiu hbi p0 p1
          by_cases hneg : upF U' (i : Int) < 0
          · have hm1 : upF U' (i : Int) = -1 := by omega
            have HNX := hid (fun X Y (h : MRun B' U' (i + 1) X Y) => hrun.out X Y (.next hil (.inl hneg) h))
            rw [hm1] at c1
            clear hneg hm1 hrg rB rU
            go_wp2_with fail
            refine Go.Proofs.YtmlecpapoeodkaaDoor.wp_region_L 15 14 (fun w' => True) (by kernel_rfl) rfl trivial (fun _ => ?_)
            refine wpAnyL_pure (i := 0) (v := .int .i64 (-1)) (by simp only [List.getElem?_toArray, List.getElem?_cons_zero] <;> rfl) (by kernel_rfl) (by kernel_rfl) (by kernel_rfl) (by exact fun _ _ _ h => h) (by decide) (.inr trivial) (Or.inl ⟨by rfl, fun w _ => (by simp [execOp, go_sem, Act.eval])⟩) (fun _ => ?_)
            simp only [Act.put, List.setIfInBounds_toArray, List.set_cons_zero, List.set_cons_succ]
            refine wpAnyL_pure (i := 1) (v := .bool false) (by simp only [List.getElem?_toArray, List.getElem?_cons_zero, List.getElem?_cons_succ] <;> rfl) (by kernel_rfl) (by kernel_rfl) (by kernel_rfl) (by exact fun _ _ _ h => h) (by decide) (.inr trivial) (Or.inl ⟨by rfl, fun w _ => (by simp [execOp, go_sem, Act.eval])⟩) (fun _ => ?_)
            simp only [Act.put, List.setIfInBounds_toArray, List.set_cons_zero, List.set_cons_succ]
            refine wpAnyL_pure (i := 2) (v := .bool false) (by simp only [List.getElem?_toArray, List.getElem?_cons_zero, List.getElem?_cons_succ] <;> rfl) (by kernel_rfl) (by kernel_rfl) (by kernel_rfl) (by exact fun _ _ _ h => h) (by decide) (.inr trivial) (Or.inl ⟨by rfl, fun w _ => (by simp [execOp, go_sem, Act.eval])⟩) (fun _ => ?_)
            simp only [Act.put, List.setIfInBounds_toArray, List.set_cons_zero, List.set_cons_succ]
            refine wpAnyL_pure (i := 3) (v := undef) (by simp only [List.getElem?_toArray, List.getElem?_cons_zero, List.getElem?_cons_succ] <;> rfl) (by kernel_rfl) (by kernel_rfl) (by kernel_rfl) (by exact fun _ _ _ h => h) (by decide) (.inr trivial) (Or.inr ⟨by rfl, rfl⟩) (fun _ => ?_)
            simp only [Act.put, List.setIfInBounds_toArray, List.set_cons_zero, List.set_cons_succ]
            refine wpAnyL_pure (i := 4) (v := undef) (by simp only [List.getElem?_toArray, List.getElem?_cons_zero, List.getElem?_cons_succ] <;> rfl) (by kernel_rfl) (by kernel_rfl) (by kernel_rfl) (by exact fun _ _ _ h => h) (by decide) (.inr trivial) (Or.inr ⟨by rfl, rfl⟩) (fun _ => ?_)
            simp only [Act.put, List.setIfInBounds_toArray, List.set_cons_zero, List.set_cons_succ]
            refine wpAnyL_pure (i := 5) (v := undef) (by simp only [List.getElem?_toArray, List.getElem?_cons_zero, List.getElem?_cons_succ] <;> rfl) (by kernel_rfl) (by kernel_rfl) (by kernel_rfl) (by exact fun _ _ _ h => h) (by decide) (.inr trivial) (Or.inr ⟨by rfl, rfl⟩) (fun _ => ?_)
            simp only [Act.put, List.setIfInBounds_toArray, List.set_cons_zero, List.set_cons_succ]
            refine wpAnyL_pure (i := 6) (v := undef) (by simp only [List.getElem?_toArray, List.getElem?_cons_zero, List.getElem?_cons_succ] <;> rfl) (by kernel_rfl) (by kernel_rfl) (by kernel_rfl) (by exact fun _ _ _ h => h) (by decide) (.inr trivial) (Or.inr ⟨by rfl, rfl⟩) (fun _ => ?_)
            simp only [Act.put, List.setIfInBounds_toArray, List.set_cons_zero, List.set_cons_succ]
            refine wpAnyL_pure (i := 7) (v := undef) (by simp only [List.getElem?_toArray, List.getElem?_cons_zero, List.getElem?_cons_succ] <;> rfl) (by kernel_rfl) (by kernel_rfl) (by kernel_rfl) (by exact fun _ _ _ h => h) (by decide) (.inr trivial) (Or.inr ⟨by rfl, rfl⟩) (fun _ => ?_)
            simp only [Act.put, List.setIfInBounds_toArray, List.set_cons_zero, List.set_cons_succ]
            refine wpAnyL_pure (i := 8) (v := undef) (by simp only [List.getElem?_toArray, List.getElem?_cons_zero, List.getElem?_cons_succ] <;> rfl) (by kernel_rfl) (by kernel_rfl) (by kernel_rfl) (by exact fun _ _ _ h => h) (by decide) (.inr trivial) (Or.inr ⟨by rfl, rfl⟩) (fun _ => ?_)
            simp only [Act.put, List.setIfInBounds_toArray, List.set_cons_zero, List.set_cons_succ]
            refine wpAnyL_pure (i := 9) (v := undef) (by simp only [List.getElem?_toArray, List.getElem?_cons_zero, List.getElem?_cons_succ] <;> rfl) (by kernel_rfl) (by kernel_rfl) (by kernel_rfl) (by exact fun _ _ _ h => h) (by decide) (.inr trivial) (Or.inr ⟨by rfl, rfl⟩) (fun _ => ?_)
            simp only [Act.put, List.setIfInBounds_toArray, List.set_cons_zero, List.set_cons_succ]
            refine wpAnyL_pure (i := 10) (v := undef) (by simp only [List.getElem?_toArray, List.getElem?_cons_zero, List.getElem?_cons_succ] <;> rfl) (by kernel_rfl) (by kernel_rfl) (by kernel_rfl) (by exact fun _ _ _ h => h) (by decide) (.inr trivial) (Or.inr ⟨by rfl, rfl⟩) (fun _ => ?_)
            simp only [Act.put, List.setIfInBounds_toArray, List.set_cons_zero, List.set_cons_succ]
            refine wpAnyL_pure (i := 11) (v := undef) (by simp only [List.getElem?_toArray, List.getElem?_cons_zero, List.getElem?_cons_succ] <;> rfl) (by kernel_rfl) (by kernel_rfl) (by kernel_rfl) (by exact fun _ _ _ h => h) (by decide) (.inr trivial) (Or.inr ⟨by rfl, rfl⟩) (fun _ => ?_)
            simp only [Act.put, List.setIfInBounds_toArray, List.set_cons_zero, List.set_cons_succ]
            refine wpAnyL_pure (i := 12) (v := undef) (by simp only [List.getElem?_toArray, List.getElem?_cons_zero, List.getElem?_cons_succ] <;> rfl) (by kernel_rfl) (by kernel_rfl) (by kernel_rfl) (by exact fun _ _ _ h => h) (by decide) (.inr trivial) (Or.inr ⟨by rfl, rfl⟩) (fun _ => ?_)
            simp only [Act.put, List.setIfInBounds_toArray, List.set_cons_zero, List.set_cons_succ]
            refine wpAnyL_pure (i := 13) (v := undef) (by simp only [List.getElem?_toArray, List.getElem?_cons_zero, List.getElem?_cons_succ] <;> rfl) (by kernel_rfl) (by kernel_rfl) (by kernel_rfl) (by exact fun _ _ _ h => h) (by decide) (.inr trivial) (Or.inr ⟨by rfl, rfl⟩) (fun _ => ?_)
            simp only [Act.put, List.setIfInBounds_toArray, List.set_cons_zero, List.set_cons_succ]
            refine wpAnyL_one (i := 14) (by kernel_rfl) (by simp only [List.getElem?_toArray, List.getElem?_cons_zero, List.getElem?_cons_succ] <;> rfl) (by rfl) ?_
            refine opwp_value (v := .bool false) (w' := wr.drew) (by simp [execOp, go_sem, Act.eval]) ⟨.inl (by kernel_rfl), ?_⟩
            simp only [Act.put, List.setIfInBounds_toArray, List.set_cons_zero, List.set_cons_succ]
            refine wpAnyL_done (by kernel_rfl) ?_ _
            go_wp2_with fail
            refine Go.Proofs.YtmlecpapoeodkaaDoor.wp_region_L 15 14 (fun w' => True) (by kernel_rfl) rfl trivial (fun _ => ?_)
            refine wpAnyL_pure (i := 0) (v := .int .i64 (-1)) (by simp only [List.getElem?_toArray, List.getElem?_cons_zero] <;> rfl) (by kernel_rfl) (by kernel_rfl) (by kernel_rfl) (by exact fun _ _ _ h => h) (by decide) (.inr trivial) (Or.inl ⟨by rfl, fun w _ => (by simp [execOp, go_sem, Act.eval])⟩) (fun _ => ?_)
            simp only [Act.put, List.setIfInBounds_toArray, List.set_cons_zero, List.set_cons_succ]
            refine wpAnyL_pure (i := 1) (v := .bool false) (by simp only [List.getElem?_toArray, List.getElem?_cons_zero, List.getElem?_cons_succ] <;> rfl) (by kernel_rfl) (by kernel_rfl) (by kernel_rfl) (by exact fun _ _ _ h => h) (by decide) (.inr trivial) (Or.inl ⟨by rfl, fun w _ => (by simp [execOp, go_sem, Act.eval])⟩) (fun _ => ?_)
            simp only [Act.put, List.setIfInBounds_toArray, List.set_cons_zero, List.set_cons_succ]
            refine wpAnyL_pure (i := 2) (v := .bool false) (by simp only [List.getElem?_toArray, List.getElem?_cons_zero, List.getElem?_cons_succ] <;> rfl) (by kernel_rfl) (by kernel_rfl) (by kernel_rfl) (by exact fun _ _ _ h => h) (by decide) (.inr trivial) (Or.inl ⟨by rfl, fun w _ => (by simp [execOp, go_sem, Act.eval])⟩) (fun _ => ?_)
            simp only [Act.put, List.setIfInBounds_toArray, List.set_cons_zero, List.set_cons_succ]
            refine wpAnyL_pure (i := 3) (v := undef) (by simp only [List.getElem?_toArray, List.getElem?_cons_zero, List.getElem?_cons_succ] <;> rfl) (by kernel_rfl) (by kernel_rfl) (by kernel_rfl) (by exact fun _ _ _ h => h) (by decide) (.inr trivial) (Or.inr ⟨by rfl, rfl⟩) (fun _ => ?_)
            simp only [Act.put, List.setIfInBounds_toArray, List.set_cons_zero, List.set_cons_succ]
            refine wpAnyL_pure (i := 4) (v := undef) (by simp only [List.getElem?_toArray, List.getElem?_cons_zero, List.getElem?_cons_succ] <;> rfl) (by kernel_rfl) (by kernel_rfl) (by kernel_rfl) (by exact fun _ _ _ h => h) (by decide) (.inr trivial) (Or.inr ⟨by rfl, rfl⟩) (fun _ => ?_)
            simp only [Act.put, List.setIfInBounds_toArray, List.set_cons_zero, List.set_cons_succ]
            refine wpAnyL_pure (i := 5) (v := undef) (by simp only [List.getElem?_toArray, List.getElem?_cons_zero, List.getElem?_cons_succ] <;> rfl) (by kernel_rfl) (by kernel_rfl) (by kernel_rfl) (by exact fun _ _ _ h => h) (by decide) (.inr trivial) (Or.inr ⟨by rfl, rfl⟩) (fun _ => ?_)
            simp only [Act.put, List.setIfInBounds_toArray, List.set_cons_zero, List.set_cons_succ]
            refine wpAnyL_pure (i := 6) (v := undef) (by simp only [List.getElem?_toArray, List.getElem?_cons_zero, List.getElem?_cons_succ] <;> rfl) (by kernel_rfl) (by kernel_rfl) (by kernel_rfl) (by exact fun _ _ _ h => h) (by decide) (.inr trivial) (Or.inr ⟨by rfl, rfl⟩) (fun _ => ?_)
            simp only [Act.put, List.setIfInBounds_toArray, List.set_cons_zero, List.set_cons_succ]
            refine wpAnyL_pure (i := 7) (v := undef) (by simp only [List.getElem?_toArray, List.getElem?_cons_zero, List.getElem?_cons_succ] <;> rfl) (by kernel_rfl) (by kernel_rfl) (by kernel_rfl) (by exact fun _ _ _ h => h) (by decide) (.inr trivial) (Or.inr ⟨by rfl, rfl⟩) (fun _ => ?_)
            simp only [Act.put, List.setIfInBounds_toArray, List.set_cons_zero, List.set_cons_succ]
            refine wpAnyL_pure (i := 8) (v := undef) (by simp only [List.getElem?_toArray, List.getElem?_cons_zero, List.getElem?_cons_succ] <;> rfl) (by kernel_rfl) (by kernel_rfl) (by kernel_rfl) (by exact fun _ _ _ h => h) (by decide) (.inr trivial) (Or.inr ⟨by rfl, rfl⟩) (fun _ => ?_)
            simp only [Act.put, List.setIfInBounds_toArray, List.set_cons_zero, List.set_cons_succ]
            refine wpAnyL_pure (i := 9) (v := undef) (by simp only [List.getElem?_toArray, List.getElem?_cons_zero, List.getElem?_cons_succ] <;> rfl) (by kernel_rfl) (by kernel_rfl) (by kernel_rfl) (by exact fun _ _ _ h => h) (by decide) (.inr trivial) (Or.inr ⟨by rfl, rfl⟩) (fun _ => ?_)
            simp only [Act.put, List.setIfInBounds_toArray, List.set_cons_zero, List.set_cons_succ]
            refine wpAnyL_pure (i := 10) (v := undef) (by simp only [List.getElem?_toArray, List.getElem?_cons_zero, List.getElem?_cons_succ] <;> rfl) (by kernel_rfl) (by kernel_rfl) (by kernel_rfl) (by exact fun _ _ _ h => h) (by decide) (.inr trivial) (Or.inr ⟨by rfl, rfl⟩) (fun _ => ?_)
            simp only [Act.put, List.setIfInBounds_toArray, List.set_cons_zero, List.set_cons_succ]
            refine wpAnyL_pure (i := 11) (v := undef) (by simp only [List.getElem?_toArray, List.getElem?_cons_zero, List.getElem?_cons_succ] <;> rfl) (by kernel_rfl) (by kernel_rfl) (by kernel_rfl) (by exact fun _ _ _ h => h) (by decide) (.inr trivial) (Or.inr ⟨by rfl, rfl⟩) (fun _ => ?_)
            simp only [Act.put, List.setIfInBounds_toArray, List.set_cons_zero, List.set_cons_succ]
            refine wpAnyL_pure (i := 12) (v := undef) (by simp only [List.getElem?_toArray, List.getElem?_cons_zero, List.getElem?_cons_succ] <;> rfl) (by kernel_rfl) (by kernel_rfl) (by kernel_rfl) (by exact fun _ _ _ h => h) (by decide) (.inr trivial) (Or.inr ⟨by rfl, rfl⟩) (fun _ => ?_)
            simp only [Act.put, List.setIfInBounds_toArray, List.set_cons_zero, List.set_cons_succ]
            refine wpAnyL_pure (i := 13) (v := undef) (by simp only [List.getElem?_toArray, List.getElem?_cons_zero, List.getElem?_cons_succ] <;> rfl) (by kernel_rfl) (by kernel_rfl) (by kernel_rfl) (by exact fun _ _ _ h => h) (by decide) (.inr trivial) (Or.inr ⟨by rfl, rfl⟩) (fun _ => ?_)
            simp only [Act.put, List.setIfInBounds_toArray, List.set_cons_zero, List.set_cons_succ]
            refine wpAnyL_one (i := 14) (by kernel_rfl) (by simp only [List.getElem?_toArray, List.getElem?_cons_zero, List.getElem?_cons_succ] <;> rfl) (by rfl) ?_
            refine opwp_value (v := .bool false) (w' := wr.drew.drew) (by simp [execOp, go_sem, Act.eval]) ⟨.inl (by kernel_rfl), ?_⟩
            simp only [Act.put, List.setIfInBounds_toArray, List.set_cons_zero, List.set_cons_succ]
            refine wpAnyL_done (by kernel_rfl) ?_ _
            go_wp2_with fail
            go_roundg (B'.length * 2000 + (B'.length - (i + 1)))
            case measure => have := hmz.out; omega
            case rel => exact ⟨i + 1, B', U', _, _, by omega, hlb, by go_num, rfl, hfm.out, HNX.out, (hm.out.below (Below.refl _ wr).drew).below (Below.refl _ _).drew⟩
          · obtain ⟨j, hj⟩ : ∃ j : Nat, upF U' (i : Int) = (j : Int) := ⟨(upF U' (i : Int)).toNat, by omega⟩
            have hjl : j < B'.length := by omega
            obtain ⟨bj, hbj, p0, p1, _, _⟩ := rB.get j hjl
            have HBJ := hid hbj
            have HJ := hid hj
            have BJ : Hid (wr.drew.cell? ⟨gB, j * 2, none⟩ = some (.int .u64 ((lw bj).toNat : Int)) ∧ wr.drew.cell? ⟨gB, j * 2 + 1, none⟩ = some (.int .u64 ((hw bj).toNat : Int))) := ⟨p0, p1⟩
            have BJ0 := BJ
            have zj : (0 : Int) ≤ (j : Int) ∧ (j : Int) < (B'.length : Int) := by omega
            have zj0 : (0 : Int) ≤ (j : Int) := by omega
            rw [hj] at c1
            have HMd := hid (hm.out.below (Below.refl _ wr).drew)
            clear hneg hj hrg rB rU hbj p0 p1
            go_wp2_with fail
            refine Go.Proofs.YtmlecpapoeodkaaDoor.wp_region_L 15 13 (fun w' => Box2 w' (q) 33 (.slice (some ⟨gB, 0, none⟩) B'.length dB) (.slice (some ⟨gU, 0, none⟩) U'.length dU) ∧ (w'.cell? ⟨gB, i * 2, none⟩ = some (.int .u64 ((lw (bi)).toNat : Int)) ∧ w'.cell? ⟨gB, i * 2 + 1, none⟩ = some (.int .u64 ((hw (bi)).toNat : Int))) ∧ (w'.cell? ⟨gB, j * 2, none⟩ = some (.int .u64 ((lw (bj)).toNat : Int)) ∧ w'.cell? ⟨gB, j * 2 + 1, none⟩ = some (.int .u64 ((hw (bj)).toNat : Int)))) (by kernel_rfl) rfl ⟨BX.out, BI.out, BJ.out⟩ (fun _ => ?_)
            refine wpAnyL_pure (i := 0) (v := .int .i64 (j : Int)) (by simp only [List.getElem?_toArray, List.getElem?_cons_zero] <;> rfl) (by kernel_rfl) (by kernel_rfl) (by kernel_rfl) (by exact fun _ _ _ h => h) (by decide) (.inr ⟨BX.out, BI.out, BJ.out⟩) (Or.inl ⟨by rfl, fun w _ => (by simp [execOp, go_sem, Act.eval])⟩) (fun _ => ?_)
            simp only [Act.put, List.setIfInBounds_toArray, List.set_cons_zero, List.set_cons_succ]
            refine wpAnyL_pure (i := 1) (v := .bool true) (by simp only [List.getElem?_toArray, List.getElem?_cons_zero, List.getElem?_cons_succ] <;> rfl) (by kernel_rfl) (by kernel_rfl) (by kernel_rfl) (by exact fun _ _ _ h => h) (by decide) (.inr ⟨BX.out, BI.out, BJ.out⟩) (Or.inl ⟨by rfl, fun w _ => (by simp [execOp, go_sem, Act.eval, zj0])⟩) (fun _ => ?_)
            simp only [Act.put, List.setIfInBounds_toArray, List.set_cons_zero, List.set_cons_succ]
            refine wpAnyL_pure (i := 2) (v := .bool true) (by simp only [List.getElem?_toArray, List.getElem?_cons_zero, List.getElem?_cons_succ] <;> rfl) (by kernel_rfl) (by kernel_rfl) (by kernel_rfl) (by exact fun _ _ _ h => h) (by decide) (.inr ⟨BX.out, BI.out, BJ.out⟩) (Or.inl ⟨by rfl, fun w _ => (by simp [execOp, go_sem, Act.eval])⟩) (fun _ => ?_)
            simp only [Act.put, List.setIfInBounds_toArray, List.set_cons_zero, List.set_cons_succ]
            refine wpAnyL_pure (i := 3) (v := .pointer (some ⟨q, 0, none⟩)) (by simp only [List.getElem?_toArray, List.getElem?_cons_zero, List.getElem?_cons_succ] <;> rfl) (by kernel_rfl) (by kernel_rfl) (by kernel_rfl) (by exact fun _ _ _ h => h) (by decide) (.inr ⟨BX.out, BI.out, BJ.out⟩) (Or.inl ⟨by rfl, fun w _ => (by simp [execOp, go_sem, Act.eval])⟩) (fun _ => ?_)
            simp only [Act.put, List.setIfInBounds_toArray, List.set_cons_zero, List.set_cons_succ]
            refine wpAnyL_load2 (i := 4) (v := .slice (some ⟨gB, 0, none⟩) B'.length dB) (by simp only [List.getElem?_toArray, List.getElem?_cons_zero, List.getElem?_cons_succ] <;> rfl) (by kernel_rfl) (by kernel_rfl) (by kernel_rfl) (by exact fun _ _ _ h => h) (by decide) (Waits.more (j := 7) rfl ⟨⟨7, .data⟩, by simp, rfl, rfl⟩ (Waits.more (j := 6) rfl ⟨⟨6, .data⟩, by simp, rfl, rfl⟩ (Waits.one rfl ⟨⟨4, .data⟩, by simp, rfl, rfl⟩))) (by kernel_rfl) (by kernel_rfl) (.inr ⟨BX.out, BI.out, BJ.out⟩) (Or.inl ⟨by rfl, fun w hw => (by obtain ⟨x0, _, _⟩ := hw; simp [execOp, go_sem, Act.eval, x0.cells.1])⟩) (fun _ => ?_)
            simp only [Act.put, List.setIfInBounds_toArray, List.set_cons_zero, List.set_cons_succ]
            refine wpAnyL_pure (i := 5) (v := .int .i64 (i : Int)) (by simp only [List.getElem?_toArray, List.getElem?_cons_zero, List.getElem?_cons_succ] <;> rfl) (by kernel_rfl) (by kernel_rfl) (by kernel_rfl) (by exact fun _ _ _ h => h) (by decide) (.inr ⟨BX.out, BI.out, BJ.out⟩) (Or.inl ⟨by rfl, fun w _ => (by simp [execOp, go_sem, Act.eval])⟩) (fun _ => ?_)
            simp only [Act.put, List.setIfInBounds_toArray, List.set_cons_zero, List.set_cons_succ]
            refine wpAnyL_pure (i := 6) (v := .pointer (some ⟨gB, i * 2, none⟩)) (by simp only [List.getElem?_toArray, List.getElem?_cons_zero, List.getElem?_cons_succ] <;> rfl) (by kernel_rfl) (by kernel_rfl) (by kernel_rfl) (by exact fun _ _ _ h => h) (by decide) (.inr ⟨BX.out, BI.out, BJ.out⟩) (Or.inl ⟨by rfl, fun w _ => (by simp [execOp, go_sem, Act.eval, ziB])⟩) (fun _ => ?_)
            simp only [Act.put, List.setIfInBounds_toArray, List.set_cons_zero, List.set_cons_succ]
            refine wpAnyL_load2 (i := 7) (v := encS (bi)) (by simp only [List.getElem?_toArray, List.getElem?_cons_zero, List.getElem?_cons_succ] <;> rfl) (by kernel_rfl) (by kernel_rfl) (by kernel_rfl) (by exact fun _ _ _ h => h) (by decide) (Waits.one rfl ⟨⟨7, .data⟩, by simp, rfl, rfl⟩) (by kernel_rfl) (by kernel_rfl) (.inr ⟨BX.out, BI.out, BJ.out⟩) (Or.inl ⟨by rfl, fun w hw => (by obtain ⟨_, ⟨y1, z1⟩, _⟩ := hw; simp [execOp, go_sem, Act.eval, y1, z1])⟩) (fun _ => ?_)
            simp only [Act.put, List.setIfInBounds_toArray, List.set_cons_zero, List.set_cons_succ]
            refine wpAnyL_pure (i := 8) (v := .pointer (some ⟨q, 0, none⟩)) (by simp only [List.getElem?_toArray, List.getElem?_cons_zero, List.getElem?_cons_succ] <;> rfl) (by kernel_rfl) (by kernel_rfl) (by kernel_rfl) (by exact fun _ _ _ h => h) (by decide) (.inr ⟨BX.out, BI.out, BJ.out⟩) (Or.inl ⟨by rfl, fun w _ => (by simp [execOp, go_sem, Act.eval])⟩) (fun _ => ?_)
            simp only [Act.put, List.setIfInBounds_toArray, List.set_cons_zero, List.set_cons_succ]
            refine wpAnyL_load2 (i := 9) (v := .slice (some ⟨gB, 0, none⟩) B'.length dB) (by simp only [List.getElem?_toArray, List.getElem?_cons_zero, List.getElem?_cons_succ] <;> rfl) (by kernel_rfl) (by kernel_rfl) (by kernel_rfl) (by exact fun _ _ _ h => h) (by decide) (Waits.more (j := 12) rfl ⟨⟨12, .data⟩, by simp, rfl, rfl⟩ (Waits.more (j := 11) rfl ⟨⟨11, .data⟩, by simp, rfl, rfl⟩ (Waits.one rfl ⟨⟨9, .data⟩, by simp, rfl, rfl⟩))) (by kernel_rfl) (by kernel_rfl) (.inr ⟨BX.out, BI.out, BJ.out⟩) (Or.inl ⟨by rfl, fun w hw => (by obtain ⟨x0, _, _⟩ := hw; simp [execOp, go_sem, Act.eval, x0.cells.1])⟩) (fun _ => ?_)
            simp only [Act.put, List.setIfInBounds_toArray, List.set_cons_zero, List.set_cons_succ]
            refine wpAnyL_pure (i := 10) (v := .int .i64 (j : Int)) (by simp only [List.getElem?_toArray, List.getElem?_cons_zero, List.getElem?_cons_succ] <;> rfl) (by kernel_rfl) (by kernel_rfl) (by kernel_rfl) (by exact fun _ _ _ h => h) (by decide) (.inr ⟨BX.out, BI.out, BJ.out⟩) (Or.inl ⟨by rfl, fun w _ => (by simp [execOp, go_sem, Act.eval])⟩) (fun _ => ?_)
            simp only [Act.put, List.setIfInBounds_toArray, List.set_cons_zero, List.set_cons_succ]
            refine wpAnyL_pure (i := 11) (v := .pointer (some ⟨gB, j * 2, none⟩)) (by simp only [List.getElem?_toArray, List.getElem?_cons_zero, List.getElem?_cons_succ] <;> rfl) (by kernel_rfl) (by kernel_rfl) (by kernel_rfl) (by exact fun _ _ _ h => h) (by decide) (.inr ⟨BX.out, BI.out, BJ.out⟩) (Or.inl ⟨by rfl, fun w _ => (by simp [execOp, go_sem, Act.eval, zj])⟩) (fun _ => ?_)
            simp only [Act.put, List.setIfInBounds_toArray, List.set_cons_zero, List.set_cons_succ]
            refine wpAnyL_load2 (i := 12) (v := encS (bj)) (by simp only [List.getElem?_toArray, List.getElem?_cons_zero, List.getElem?_cons_succ] <;> rfl) (by kernel_rfl) (by kernel_rfl) (by kernel_rfl) (by exact fun _ _ _ h => h) (by decide) (Waits.one rfl ⟨⟨12, .data⟩, by simp, rfl, rfl⟩) (by kernel_rfl) (by kernel_rfl) (.inr ⟨BX.out, BI.out, BJ.out⟩) (Or.inl ⟨by rfl, fun w hw => (by obtain ⟨_, _, ⟨y2, z2⟩⟩ := hw; simp [execOp, go_sem, Act.eval, y2, z2])⟩) (fun _ => ?_)
            simp only [Act.put, List.setIfInBounds_toArray, List.set_cons_zero, List.set_cons_succ]
            refine wpAnyL_one (i := 13) (by kernel_rfl) (by simp only [List.getElem?_toArray, List.getElem?_cons_zero, List.getElem?_cons_succ] <;> rfl) (by rfl) ?_
            refine opwp_call (f := 62) (args := #[encS (bi), encS (bj)]) (w' := wr.drew) (by simp [go_sem, Act.eval]) ?_
            refine (rSub_c bi bj wr.drew).mono ?_
            rintro e w4 ⟨rfl, hb4⟩
            refine .inl ⟨_, rfl, .inl (by kernel_rfl), ?_⟩
            simp only [Act.put, List.setIfInBounds_toArray, List.set_cons_zero, List.set_cons_succ]
            refine wpAnyL_pure (i := 14) (v := .bool (sub bi bj)) (by simp only [List.getElem?_toArray, List.getElem?_cons_zero, List.getElem?_cons_succ] <;> rfl) (by kernel_rfl) (by kernel_rfl) (by kernel_rfl) (by exact fun _ _ _ h => h) (by decide) (.inl (by kernel_rfl)) (Or.inl ⟨by rfl, fun w _ => (by simp [execOp, go_sem, Act.eval])⟩) (fun _ => ?_)
            simp only [Act.put, List.setIfInBounds_toArray, List.set_cons_zero, List.set_cons_succ]
            refine wpAnyL_done (by kernel_rfl) ?_ _
            have HM4 := hid (HMd.out.below hb4)
            have hbw4 := ((Below.refl wr.heap.size wr).drew).trans hb4
            clear BX BI BJ HMd
            cases hs1 : sub bi bj
            · have HS1 := hid hs1
              have BX : Hid (Box2 w4.drew q 33 (.slice (some ⟨gB, 0, none⟩) B'.length dB) (.slice (some ⟨gU, 0, none⟩) U'.length dU)) := HM4.out.qv
              have BI : Hid (w4.drew.cell? ⟨gB, i * 2, none⟩ = some (.int .u64 ((lw bi).toNat : Int)) ∧ w4.drew.cell? ⟨gB, i * 2 + 1, none⟩ = some (.int .u64 ((hw bi).toNat : Int))) := ⟨(hb4.cell (cell_lt BI0.out.1)).trans BI0.out.1, (hb4.cell (cell_lt BI0.out.2)).trans BI0.out.2⟩
              have BJ : Hid (w4.drew.cell? ⟨gB, j * 2, none⟩ = some (.int .u64 ((lw bj).toNat : Int)) ∧ w4.drew.cell? ⟨gB, j * 2 + 1, none⟩ = some (.int .u64 ((hw bj).toNat : Int))) := ⟨(hb4.cell (cell_lt BJ0.out.1)).trans BJ0.out.1, (hb4.cell (cell_lt BJ0.out.2)).trans BJ0.out.2⟩
              have HM4d := hid (HM4.out.below (Below.refl _ w4).drew)
              clear hs1 hbw4 BI0 BJ0
              go_wp2_with fail
              refine Go.Proofs.YtmlecpapoeodkaaDoor.wp_region_L 15 13 (fun w' => Box2 w' (q) 33 (.slice (some ⟨gB, 0, none⟩) B'.length dB) (.slice (some ⟨gU, 0, none⟩) U'.length dU) ∧ (w'.cell? ⟨gB, i * 2, none⟩ = some (.int .u64 ((lw (bi)).toNat : Int)) ∧ w'.cell? ⟨gB, i * 2 + 1, none⟩ = some (.int .u64 ((hw (bi)).toNat : Int))) ∧ (w'.cell? ⟨gB, j * 2, none⟩ = some (.int .u64 ((lw (bj)).toNat : Int)) ∧ w'.cell? ⟨gB, j * 2 + 1, none⟩ = some (.int .u64 ((hw (bj)).toNat : Int)))) (by kernel_rfl) rfl ⟨BX.out, BI.out, BJ.out⟩ (fun _ => ?_)
              refine wpAnyL_pure (i := 0) (v := .int .i64 (j : Int)) (by simp only [List.getElem?_toArray, List.getElem?_cons_zero] <;> rfl) (by kernel_rfl) (by kernel_rfl) (by kernel_rfl) (by exact fun _ _ _ h => h) (by decide) (.inr ⟨BX.out, BI.out, BJ.out⟩) (Or.inl ⟨by rfl, fun w _ => (by simp [execOp, go_sem, Act.eval])⟩) (fun _ => ?_)
              simp only [Act.put, List.setIfInBounds_toArray, List.set_cons_zero, List.set_cons_succ]
              refine wpAnyL_pure (i := 1) (v := .bool true) (by simp only [List.getElem?_toArray, List.getElem?_cons_zero, List.getElem?_cons_succ] <;> rfl) (by kernel_rfl) (by kernel_rfl) (by kernel_rfl) (by exact fun _ _ _ h => h) (by decide) (.inr ⟨BX.out, BI.out, BJ.out⟩) (Or.inl ⟨by rfl, fun w _ => (by simp [execOp, go_sem, Act.eval, zj0])⟩) (fun _ => ?_)
              simp only [Act.put, List.setIfInBounds_toArray, List.set_cons_zero, List.set_cons_succ]
              refine wpAnyL_pure (i := 2) (v := .bool true) (by simp only [List.getElem?_toArray, List.getElem?_cons_zero, List.getElem?_cons_succ] <;> rfl) (by kernel_rfl) (by kernel_rfl) (by kernel_rfl) (by exact fun _ _ _ h => h) (by decide) (.inr ⟨BX.out, BI.out, BJ.out⟩) (Or.inl ⟨by rfl, fun w _ => (by simp [execOp, go_sem, Act.eval])⟩) (fun _ => ?_)
              simp only [Act.put, List.setIfInBounds_toArray, List.set_cons_zero, List.set_cons_succ]
              refine wpAnyL_pure (i := 3) (v := .pointer (some ⟨q, 0, none⟩)) (by simp only [List.getElem?_toArray, List.getElem?_cons_zero, List.getElem?_cons_succ] <;> rfl) (by kernel_rfl) (by kernel_rfl) (by kernel_rfl) (by exact fun _ _ _ h => h) (by decide) (.inr ⟨BX.out, BI.out, BJ.out⟩) (Or.inl ⟨by rfl, fun w _ => (by simp [execOp, go_sem, Act.eval])⟩) (fun _ => ?_)
              simp only [Act.put, List.setIfInBounds_toArray, List.set_cons_zero, List.set_cons_succ]
              refine wpAnyL_load2 (i := 4) (v := .slice (some ⟨gB, 0, none⟩) B'.length dB) (by simp only [List.getElem?_toArray, List.getElem?_cons_zero, List.getElem?_cons_succ] <;> rfl) (by kernel_rfl) (by kernel_rfl) (by kernel_rfl) (by exact fun _ _ _ h => h) (by decide) (Waits.more (j := 7) rfl ⟨⟨7, .data⟩, by simp, rfl, rfl⟩ (Waits.more (j := 6) rfl ⟨⟨6, .data⟩, by simp, rfl, rfl⟩ (Waits.one rfl ⟨⟨4, .data⟩, by simp, rfl, rfl⟩))) (by kernel_rfl) (by kernel_rfl) (.inr ⟨BX.out, BI.out, BJ.out⟩) (Or.inl ⟨by rfl, fun w hw => (by obtain ⟨x0, _, _⟩ := hw; simp [execOp, go_sem, Act.eval, x0.cells.1])⟩) (fun _ => ?_)
              simp only [Act.put, List.setIfInBounds_toArray, List.set_cons_zero, List.set_cons_succ]
              refine wpAnyL_pure (i := 5) (v := .int .i64 (j : Int)) (by simp only [List.getElem?_toArray, List.getElem?_cons_zero, List.getElem?_cons_succ] <;> rfl) (by kernel_rfl) (by kernel_rfl) (by kernel_rfl) (by exact fun _ _ _ h => h) (by decide) (.inr ⟨BX.out, BI.out, BJ.out⟩) (Or.inl ⟨by rfl, fun w _ => (by simp [execOp, go_sem, Act.eval])⟩) (fun _ => ?_)
              simp only [Act.put, List.setIfInBounds_toArray, List.set_cons_zero, List.set_cons_succ]
              refine wpAnyL_pure (i := 6) (v := .pointer (some ⟨gB, j * 2, none⟩)) (by simp only [List.getElem?_toArray, List.getElem?_cons_zero, List.getElem?_cons_succ] <;> rfl) (by kernel_rfl) (by kernel_rfl) (by kernel_rfl) (by exact fun _ _ _ h => h) (by decide) (.inr ⟨BX.out, BI.out, BJ.out⟩) (Or.inl ⟨by rfl, fun w _ => (by simp [execOp, go_sem, Act.eval, zj])⟩) (fun _ => ?_)
              simp only [Act.put, List.setIfInBounds_toArray, List.set_cons_zero, List.set_cons_succ]
              refine wpAnyL_load2 (i := 7) (v := encS (bj)) (by simp only [List.getElem?_toArray, List.getElem?_cons_zero, List.getElem?_cons_succ] <;> rfl) (by kernel_rfl) (by kernel_rfl) (by kernel_rfl) (by exact fun _ _ _ h => h) (by decide) (Waits.one rfl ⟨⟨7, .data⟩, by simp, rfl, rfl⟩) (by kernel_rfl) (by kernel_rfl) (.inr ⟨BX.out, BI.out, BJ.out⟩) (Or.inl ⟨by rfl, fun w hw => (by obtain ⟨_, _, ⟨y2, z2⟩⟩ := hw; simp [execOp, go_sem, Act.eval, y2, z2])⟩) (fun _ => ?_)
              simp only [Act.put, List.setIfInBounds_toArray, List.set_cons_zero, List.set_cons_succ]
              refine wpAnyL_pure (i := 8) (v := .pointer (some ⟨q, 0, none⟩)) (by simp only [List.getElem?_toArray, List.getElem?_cons_zero, List.getElem?_cons_succ] <;> rfl) (by kernel_rfl) (by kernel_rfl) (by kernel_rfl) (by exact fun _ _ _ h => h) (by decide) (.inr ⟨BX.out, BI.out, BJ.out⟩) (Or.inl ⟨by rfl, fun w _ => (by simp [execOp, go_sem, Act.eval])⟩) (fun _ => ?_)
              simp only [Act.put, List.setIfInBounds_toArray, List.set_cons_zero, List.set_cons_succ]
              refine wpAnyL_load2 (i := 9) (v := .slice (some ⟨gB, 0, none⟩) B'.length dB) (by simp only [List.getElem?_toArray, List.getElem?_cons_zero, List.getElem?_cons_succ] <;> rfl) (by kernel_rfl) (by kernel_rfl) (by kernel_rfl) (by exact fun _ _ _ h => h) (by decide) (Waits.more (j := 12) rfl ⟨⟨12, .data⟩, by simp, rfl, rfl⟩ (Waits.more (j := 11) rfl ⟨⟨11, .data⟩, by simp, rfl, rfl⟩ (Waits.one rfl ⟨⟨9, .data⟩, by simp, rfl, rfl⟩))) (by kernel_rfl) (by kernel_rfl) (.inr ⟨BX.out, BI.out, BJ.out⟩) (Or.inl ⟨by rfl, fun w hw => (by obtain ⟨x0, _, _⟩ := hw; simp [execOp, go_sem, Act.eval, x0.cells.1])⟩) (fun _ => ?_)
              simp only [Act.put, List.setIfInBounds_toArray, List.set_cons_zero, List.set_cons_succ]
              refine wpAnyL_pure (i := 10) (v := .int .i64 (i : Int)) (by simp only [List.getElem?_toArray, List.getElem?_cons_zero, List.getElem?_cons_succ] <;> rfl) (by kernel_rfl) (by kernel_rfl) (by kernel_rfl) (by exact fun _ _ _ h => h) (by decide) (.inr ⟨BX.out, BI.out, BJ.out⟩) (Or.inl ⟨by rfl, fun w _ => (by simp [execOp, go_sem, Act.eval])⟩) (fun _ => ?_)
              simp only [Act.put, List.setIfInBounds_toArray, List.set_cons_zero, List.set_cons_succ]
              refine wpAnyL_pure (i := 11) (v := .pointer (some ⟨gB, i * 2, none⟩)) (by simp only [List.getElem?_toArray, List.getElem?_cons_zero, List.getElem?_cons_succ] <;> rfl) (by kernel_rfl) (by kernel_rfl) (by kernel_rfl) (by exact fun _ _ _ h => h) (by decide) (.inr ⟨BX.out, BI.out, BJ.out⟩) (Or.inl ⟨by rfl, fun w _ => (by simp [execOp, go_sem, Act.eval, ziB])⟩) (fun _ => ?_)
              simp only [Act.put, List.setIfInBounds_toArray, List.set_cons_zero, List.set_cons_succ]
              refine wpAnyL_load2 (i := 12) (v := encS (bi)) (by simp only [List.getElem?_toArray, List.getElem?_cons_zero, List.getElem?_cons_succ] <;> rfl) (by kernel_rfl) (by kernel_rfl) (by kernel_rfl) (by exact fun _ _ _ h => h) (by decide) (Waits.one rfl ⟨⟨12, .data⟩, by simp, rfl, rfl⟩) (by kernel_rfl) (by kernel_rfl) (.inr ⟨BX.out, BI.out, BJ.out⟩) (Or.inl ⟨by rfl, fun w hw => (by obtain ⟨_, ⟨y1, z1⟩, _⟩ := hw; simp [execOp, go_sem, Act.eval, y1, z1])⟩) (fun _ => ?_)
              simp only [Act.put, List.setIfInBounds_toArray, List.set_cons_zero, List.set_cons_succ]
              refine wpAnyL_one (i := 13) (by kernel_rfl) (by simp only [List.getElem?_toArray, List.getElem?_cons_zero, List.getElem?_cons_succ] <;> rfl) (by rfl) ?_
              refine opwp_call (f := 62) (args := #[encS (bj), encS (bi)]) (w' := w4.drew) (by simp [go_sem, Act.eval]) ?_
              refine (rSub_c bj bi w4.drew).mono ?_
              rintro e w5 ⟨rfl, hb5⟩
              refine .inl ⟨_, rfl, .inl (by kernel_rfl), ?_⟩
              simp only [Act.put, List.setIfInBounds_toArray, List.set_cons_zero, List.set_cons_succ]
              refine wpAnyL_pure (i := 14) (v := .bool (sub bj bi)) (by simp only [List.getElem?_toArray, List.getElem?_cons_zero, List.getElem?_cons_succ] <;> rfl) (by kernel_rfl) (by kernel_rfl) (by kernel_rfl) (by exact fun _ _ _ h => h) (by decide) (.inl (by kernel_rfl)) (Or.inl ⟨by rfl, fun w _ => (by simp [execOp, go_sem, Act.eval])⟩) (fun _ => ?_)
              simp only [Act.put, List.setIfInBounds_toArray, List.set_cons_zero, List.set_cons_succ]
              refine wpAnyL_done (by kernel_rfl) ?_ _
              have HM5 := hid (HM4d.out.below hb5)
              clear BX BI BJ HM4 HM4d hb4
              cases hs2 : sub bj bi
              · have HNX := hid (fun X Y (h : MRun B' U' (i + 1) X Y) => hrun.out X Y (.next hil (.inr (by rw [HJ.out, HBI.out, HBJ.out]; exact ⟨HS1.out, hs2⟩)) h))
                clear hs2
                go_wp2_with fail
                go_roundg (B'.length * 2000 + (B'.length - (i + 1)))
                case measure => have := hmz.out; omega
                case rel => exact ⟨i + 1, B', U', _, _, by omega, hlb, by go_num, rfl, hfm.out, HNX.out, HM5.out⟩
              · obtain ⟨t, e1, hgo⟩ := goes_high hfm.out hil (by rw [HJ.out]; omega) (by rw [HJ.out, HBI.out, HBJ.out]; exact hs2)
                obtain rfl : t = j := by have := HJ.out; omega
                have HNX := hid (fun X Y (h : MRun (remB B' (t : Int)) (remU U' (t : Int) (i : Int)) 0 X Y) => hrun.out X Y (.high hil (by rw [HJ.out]; omega) (by rw [HJ.out, HBI.out, HBJ.out]; exact HS1.out) (by rw [HJ.out, HBI.out, HBJ.out]; exact hs2) (by rw [HJ.out]; exact h)))
                have HF2 := hid (formed_rem hfm.out hgo)
                have HLB := hid (remB_length hgo.hi)
                obtain ⟨f0, f1, _, _⟩ := HM5.out.qv.cells
                have HRC := hid (remove_c _ _ B' U' t i w5 HM5.out.own.sets HM5.out.ownU.ints HLU.out hgo.hi hgo.ht (goes_ne hfm.out hgo).symm (by omega) (fun k hk => hfm.out.range (k : Int) (by omega) (by omega)))
                clear hs2 e1 hgo d0 d1 c1
                go_wp2_with fail
                refine HRC.out.mono ?_
                rintro e w6 ⟨vB2, vU2, rfl, o1, o2, hb6⟩
                have HM6 := hid (HM5.out.below hb6)
                obtain ⟨f0, f1, f2, f3⟩ := HM6.out.qv.cells
                have hsz5 : n + 2 ≤ w5.heap.size := by have := HM5.out.qv.lt; have := HM5.out.qn; omega
                have HM7 := hid (RcM.of HM6.out.ord HM6.out.av HM6.out.rv HM6.out.qv (World.ownsRow.mono o1 hsz5) (World.ownsRow.mono o2 hsz5) HM6.out.low HM6.out.qn)
                obtain ⟨p1, c1, e1, _⟩ := o1.sets
                obtain ⟨p2, c2, e2, _⟩ := o2.ints
                subst e1; subst e2
                clear HRC o1 o2 hb6 hb5
                go_wp2_with fail
                go_roundg ((remB B' (t : Int)).length * 2000 + ((remB B' (t : Int)).length - 0))
                case measure => have := hmz.out; have := HLB.out; omega
                case rel => exact ⟨0, _, _, _, _, by omega, by have := HLB.out; omega, rfl, rfl, HF2.out, HNX.out, HM7.out⟩
            · obtain ⟨t, e1, hgo⟩ := goes_low hfm.out hil (by rw [HJ.out]; omega) (by rw [HJ.out, HBI.out, HBJ.out]; exact hs1)
              obtain rfl : t = j := by have := HJ.out; omega
              have HNX := hid (fun X Y (h : MRun (remB B' (i : Int)) (remU U' (i : Int) (t : Int)) 0 X Y) => hrun.out X Y (.low hil (by rw [HJ.out]; omega) (by rw [HJ.out, HBI.out, HBJ.out]; exact hs1) (by rw [HJ.out]; exact h)))
              have HF2 := hid (formed_rem hfm.out hgo)
              have HLB := hid (remB_length hgo.hi)
              obtain ⟨f0, f1, _, _⟩ := HM4.out.qv.cells
              have HRC := hid (remove_c _ _ B' U' i t w4 HM4.out.own.sets HM4.out.ownU.ints HLU.out hgo.hi hgo.ht (goes_ne hfm.out hgo).symm (by omega) (fun k hk => hfm.out.range (k : Int) (by omega) (by omega)))
              clear hs1 e1 hgo d0 d1 c1 hbw4
              go_wp2_with fail
              refine HRC.out.mono ?_
              rintro e w6 ⟨vB2, vU2, rfl, o1, o2, hb6⟩
              have HM6 := hid (HM4.out.below hb6)
              obtain ⟨f0, f1, f2, f3⟩ := HM6.out.qv.cells
              have hsz5 : n + 2 ≤ w4.heap.size := by have := HM4.out.qv.lt; have := HM4.out.qn; omega
              have HM7 := hid (RcM.of HM6.out.ord HM6.out.av HM6.out.rv HM6.out.qv (World.ownsRow.mono o1 hsz5) (World.ownsRow.mono o2 hsz5) HM6.out.low HM6.out.qn)
              obtain ⟨p1, c1, e1, _⟩ := o1.sets
              obtain ⟨p2, c2, e2, _⟩ := o2.ints
              subst e1; subst e2
              clear HRC o1 o2 hb6 hb4
              go_wp2_with fail
              go_roundg ((remB B' (i : Int)).length * 2000 + ((remB B' (i : Int)).length - 0))
              case measure => have := hmz.out; have := HLB.out; omega
              case rel => exact ⟨0, _, _, _, _, by omega, by have := HLB.out; omega, rfl, rfl, HF2.out, HNX.out, HM7.out⟩
        · obtain rfl : i = B'.length := by omega
          have HRUN := hid (hrun.out _ _ (.done (Nat.le_refl _)))
          obtain ⟨qB, dB, eB, _⟩ := OwnSets.sets hm.out.own
          obtain ⟨qU, dU, eU, _⟩ := OwnInts.ints hm.out.ownU
          subst eB; subst eU
          obtain ⟨d0, d1, _, _⟩ := hm.out.qv.cells
          obtain ⟨e0, e1, f0, f1⟩ := hm.out.rv.cells
          have hn := HN.out
          go_wp2_with fail
          have p1 := (hm.out.own.kept (grownBy_01 _ (n + 1) (.slice qB B'.length dB) (.slice qU U'.length dU)) (own_far hm.out.own (by intro k e; cases e; omega)))
          have p2 := (hm.out.ownU.kept (grownBy_01 _ (n + 1) (.slice qB B'.length dB) (.slice qU U'.length dU)) (own_far hm.out.ownU (by intro k e; cases e; omega)))
          exact bodyPost_ret (results_boxR rfl rfl (hm.out.rv.set01 _ _)) rfl ⟨_, _, B', U', rfl, p1.mono (by omega), p2.mono (by omega), below_01 hm.out.low (by omega) _ _, .inr ⟨HF.out, HRUN.out⟩⟩
end Go.Proofs.YtmlecpapoeodkaaDoor
