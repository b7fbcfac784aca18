/- Walks of the references censusref05.SameInts, censusref21.Same (of equal nets), of censuslaw21.Copy, and of the law ShapeSmoothed. -/
import Derived.Test.YtpdbfbjfodckgaaDoorHPush
import Derived.Test.YtpdbfbjfodckgaaDoorHSmd
import Derived.Test.YtpdbfbjfodckgaaDoorHLaw
import Derived.Test.YtpdbfbjfodckgaaDoorPure
import Derived.BigQuiet
import Derived.Test.YtpdbfbjfodckgaaDoorHSmdR
namespace Go.Proofs.YtpdbfbjfodckgaaDoor
open Go.RowKit

set_option maxRecDepth 100000 in
set_option maxHeartbeats 1000000 in
theorem sameInts5_c (u v : Value) (l : List Int) (w : World) (hu : IntsAt w u l) (hv : IntsAt w v l) (hl : l.length ≤ 140737488355328) :
    Calls Tryd.prog 64 #[u, v] w fun e w' => e = .returned (.bool true) ∧ Below w.heap.size w w' := by
  have HU := hid hu
  have HV := hid hv
  obtain ⟨p, c, rfl, h1⟩ := hu
  obtain ⟨p2, c2, rfl, h2⟩ := hv
  clear h1 h2
  have d0 : ((l.length : Int) != (l.length : Int)) = false := by simp
  go_enter Tryd.func64, Tryd.ntmps64
  go_wp2_with fail
  go_loopw [5] (fun z wr => ∃ k : Nat, k ≤ l.length ∧ z = .int .i64 k ∧ Hid (Below w.heap.size w wr)) (fun z _ => l.length - (intOf z).toNat)
  case atStart => exact ⟨0, Nat.zero_le _, rfl, Below.refl _ _⟩
  case round =>
    obtain ⟨k, hk, rfl, hbr⟩ := hrel
    by_cases hkl : k < l.length
    · obtain ⟨q1, e1, e2, h1⟩ := HU.out.below hbr.out
      obtain ⟨q2, e3, e4, h2⟩ := HV.out.below hbr.out
      injection e2 with a1 a0 a2
      injection e4 with a3 a5 a4
      clear a0 a5
      subst a1; subst a2; subst a3; subst a4
      obtain ⟨b1, o1, rfl, hc1⟩ := h1.resolve_left (by intro e; rw [e] at hkl; simp at hkl)
      obtain ⟨b2, o2, rfl, hc2⟩ := h2.resolve_left (by intro e; rw [e] at hkl; simp at hkl)
      have x1 := hc1 k hkl
      have x2 := hc2 k hkl
      rw [List.getElem?_eq_getElem hkl, Option.getD_some] at x1 x2
      generalize l[k] = x at x1 x2
      have zk : (0 : Int) ≤ (k : Int) ∧ (k : Int) < (l.length : Int) := by omega
      have C1 : Hid (wr.drew.cell? ⟨b1, o1 + k, none⟩ = some (.int .i64 x)) := x1
      have C2 : Hid (wr.drew.cell? ⟨b2, o2 + k, none⟩ = some (.int .i64 x)) := x2
      have HBR := hid hbr.out
      clear h1 h2 hc1 hc2 x1 x2 hbr
      go_wp2_with fail
      refine Go.Proofs.YtpdbfbjfodckgaaDoor.wp_region_L 9 8 (fun w' => w'.cell? ⟨b1, o1 + k, none⟩ = some (.int .i64 x) ∧ w'.cell? ⟨b2, o2 + k, none⟩ = some (.int .i64 x)) (by kernel_rfl) rfl ⟨C1.out, C2.out⟩ (fun _ => ?_)
      refine wpAnyL_pure (i := 0) (v := .slice (some ⟨b1, o1, none⟩) l.length c) (by simp only [List.getElem?_toArray, List.getElem?_cons_zero] <;> rfl) (by kernel_rfl) (by kernel_rfl) (by kernel_rfl) (by exact fun _ _ _ h => h) (by decide) (.inr ⟨C1.out, C2.out⟩) (Or.inl ⟨by rfl, fun w _ => (by simp [execOp, go_sem, Act.eval])⟩) (fun _ => ?_)
      simp only [Act.put, List.setIfInBounds_toArray, List.set_cons_zero, List.set_cons_succ]
      refine wpAnyL_pure (i := 1) (v := .int .i64 (k : Int)) (by simp only [List.getElem?_toArray, List.getElem?_cons_zero, List.getElem?_cons_succ] <;> rfl) (by kernel_rfl) (by kernel_rfl) (by kernel_rfl) (by exact fun _ _ _ h => h) (by decide) (.inr ⟨C1.out, C2.out⟩) (Or.inl ⟨by rfl, fun w _ => (by simp [execOp, go_sem, Act.eval])⟩) (fun _ => ?_)
      simp only [Act.put, List.setIfInBounds_toArray, List.set_cons_zero, List.set_cons_succ]
      refine wpAnyL_pure (i := 2) (v := .pointer (some ⟨b1, o1 + k, none⟩)) (by simp only [List.getElem?_toArray, List.getElem?_cons_zero, List.getElem?_cons_succ] <;> rfl) (by kernel_rfl) (by kernel_rfl) (by kernel_rfl) (by exact fun _ _ _ h => h) (by decide) (.inr ⟨C1.out, C2.out⟩) (Or.inl ⟨by rfl, fun w _ => (by simp [execOp, go_sem, Act.eval, zk])⟩) (fun _ => ?_)
      simp only [Act.put, List.setIfInBounds_toArray, List.set_cons_zero, List.set_cons_succ]
      refine wpAnyL_load2 (i := 3) (v := .int .i64 x) (by simp only [List.getElem?_toArray, List.getElem?_cons_zero, List.getElem?_cons_succ] <;> rfl) (by kernel_rfl) (by kernel_rfl) (by kernel_rfl) (by exact fun _ _ _ h => h) (by decide) (Waits.one rfl ⟨⟨3, .data⟩, by simp, rfl, rfl⟩) (by kernel_rfl) (by kernel_rfl) (.inr ⟨C1.out, C2.out⟩) (Or.inl ⟨by rfl, fun w hw => (by obtain ⟨x0, _⟩ := hw; simp [execOp, go_sem, Act.eval, x0])⟩) (fun _ => ?_)
      simp only [Act.put, List.setIfInBounds_toArray, List.set_cons_zero, List.set_cons_succ]
      refine wpAnyL_pure (i := 4) (v := .slice (some ⟨b2, o2, none⟩) l.length c2) (by simp only [List.getElem?_toArray, List.getElem?_cons_zero, List.getElem?_cons_succ] <;> rfl) (by kernel_rfl) (by kernel_rfl) (by kernel_rfl) (by exact fun _ _ _ h => h) (by decide) (.inr ⟨C1.out, C2.out⟩) (Or.inl ⟨by rfl, fun w _ => (by simp [execOp, go_sem, Act.eval])⟩) (fun _ => ?_)
      simp only [Act.put, List.setIfInBounds_toArray, List.set_cons_zero, List.set_cons_succ]
      refine wpAnyL_pure (i := 5) (v := .int .i64 (k : Int)) (by simp only [List.getElem?_toArray, List.getElem?_cons_zero, List.getElem?_cons_succ] <;> rfl) (by kernel_rfl) (by kernel_rfl) (by kernel_rfl) (by exact fun _ _ _ h => h) (by decide) (.inr ⟨C1.out, C2.out⟩) (Or.inl ⟨by rfl, fun w _ => (by simp [execOp, go_sem, Act.eval])⟩) (fun _ => ?_)
      simp only [Act.put, List.setIfInBounds_toArray, List.set_cons_zero, List.set_cons_succ]
      refine wpAnyL_pure (i := 6) (v := .pointer (some ⟨b2, o2 + k, none⟩)) (by simp only [List.getElem?_toArray, List.getElem?_cons_zero, List.getElem?_cons_succ] <;> rfl) (by kernel_rfl) (by kernel_rfl) (by kernel_rfl) (by exact fun _ _ _ h => h) (by decide) (.inr ⟨C1.out, C2.out⟩) (Or.inl ⟨by rfl, fun w _ => (by simp [execOp, go_sem, Act.eval, zk])⟩) (fun _ => ?_)
      simp only [Act.put, List.setIfInBounds_toArray, List.set_cons_zero, List.set_cons_succ]
      refine wpAnyL_load2 (i := 7) (v := .int .i64 x) (by simp only [List.getElem?_toArray, List.getElem?_cons_zero, List.getElem?_cons_succ] <;> rfl) (by kernel_rfl) (by kernel_rfl) (by kernel_rfl) (by exact fun _ _ _ h => h) (by decide) (Waits.one rfl ⟨⟨7, .data⟩, by simp, rfl, rfl⟩) (by kernel_rfl) (by kernel_rfl) (.inr ⟨C1.out, C2.out⟩) (Or.inl ⟨by rfl, fun w hw => (by obtain ⟨_, x1⟩ := hw; simp [execOp, go_sem, Act.eval, x1])⟩) (fun _ => ?_)
      simp only [Act.put, List.setIfInBounds_toArray, List.set_cons_zero, List.set_cons_succ]
      refine wpAnyL_one (i := 8) (by kernel_rfl) (by simp only [List.getElem?_toArray, List.getElem?_cons_zero, List.getElem?_cons_succ] <;> rfl) (by rfl) ?_
      refine opwp_value (v := .bool false) (w' := wr.drew) (by simp [execOp, go_sem, Act.eval]) ⟨.inl (by kernel_rfl), ?_⟩
      simp only [Act.put, List.setIfInBounds_toArray, List.set_cons_zero, List.set_cons_succ]
      refine wpAnyL_done (by kernel_rfl) ?_ _
      go_wp2_with fail
      go_roundw
      case rel => exact ⟨k + 1, by omega, by go_num, HBR.out.drew⟩
      case measure => simp [intOf]; omega
    · obtain rfl : k = l.length := by omega
      have HBR := hid hbr.out
      clear hbr
      go_wp2_with fail
      go_ret
      exact ⟨rfl, HBR.out⟩
set_option maxRecDepth 100000 in
set_option maxHeartbeats 4000000 in
theorem same21_c (n : Int) (L : List NodeT) (u v : Value) (w : World) (hu : NodesAt w u L) (hv : NodesAt w v L) (hl : L.length ≤ 100000) :
    Calls Tryd.prog 29 #[.agg #[.int .i64 n, u], .agg #[.int .i64 n, v]] w fun e w' => e = .returned (.bool true) ∧ Below w.heap.size w w' := by
  have hb1 : Below w.heap.size w (w.alloc (.cells #[.int .i64 n, u] 24)) := (Below.refl _ w).alloc (Nat.le_refl _) _
  have hb12 : Below (w.alloc (.cells #[.int .i64 n, u] 24)).heap.size (w.alloc (.cells #[.int .i64 n, u] 24)) ((w.alloc (.cells #[.int .i64 n, u] 24)).alloc (.cells #[.int .i64 n, v] 24)) := (Below.refl _ _).alloc (Nat.le_refl _) _
  have hx := (NetVar.new w n u 24).below hb12
  have hy := NetVar.new (w.alloc (.cells #[.int .i64 n, u] 24)) n v 24
  rw [World.size_alloc] at hy
  have HX := hid hx
  have HY := hid hy
  have HU := hid ((hu.below hb1).below hb12)
  have HV := hid ((hv.below hb1).below hb12)
  have HBB := hid (hb1.trans (hb12.mono hb1.size))
  obtain ⟨p, c, rfl, h1⟩ := hu
  obtain ⟨p2, c2, rfl, h2⟩ := hv
  obtain ⟨x0, x1⟩ := hx
  obtain ⟨y0, y1⟩ := hy
  have d0 : (n != n) = false := by simp
  have d1 : ((L.length : Int) != (L.length : Int)) = false := by simp
  clear h1 h2 hb1 hb12
  go_enter Tryd.func29, Tryd.ntmps29
  go_wp2_with fail
  generalize (w.alloc (.cells #[.int .i64 n, .slice p L.length c] 24)).alloc (.cells #[.int .i64 n, .slice p2 L.length c2] 24) = w2 at *
  clear x0 x1 y0 y1
  go_loopw [5] (fun z wr => ∃ k : Nat, k ≤ L.length ∧ z = .int .i64 k ∧ Hid (Below w2.heap.size w2 wr)) (fun z _ => L.length - (intOf z).toNat)
  case atStart => exact ⟨0, Nat.zero_le _, rfl, Below.refl _ _⟩
  case round =>
    obtain ⟨k, hk, rfl, hbr⟩ := hrel
    obtain ⟨x0, x1⟩ := HX.out.below hbr.out
    obtain ⟨y0, y1⟩ := HY.out.below hbr.out
    by_cases hkl : k < L.length
    · obtain ⟨q1, e1, e2, h1⟩ := HU.out.below hbr.out
      obtain ⟨q2, e3, e4, h2⟩ := HV.out.below hbr.out
      injection e2 with a1 a0 a2
      injection e4 with a3 a5 a4
      clear a0 a5
      subst a1; subst a2; subst a3; subst a4
      obtain ⟨b1, o1, rfl, hc1⟩ := h1.resolve_left (by intro e; rw [e] at hkl; simp at hkl)
      obtain ⟨b2, o2, rfl, hc2⟩ := h2.resolve_left (by intro e; rw [e] at hkl; simp at hkl)
      obtain ⟨u1, g1⟩ := hc1 k hkl
      obtain ⟨u2, g2⟩ := hc2 k hkl
      have zk : (0 : Int) ≤ (k : Int) ∧ (k : Int) < (L.length : Int) := by omega
      have A0 := g1.kind
      have A1 := g1.lit
      have A2 := g1.ins
      have B0 := g2.kind
      have B1 := g2.lit
      have B2 := g2.ins
      have qs := fun x => sameInts5_c u1 u2 L[k].ins (ext wr x) (g1.ints.below (ext_below wr x)) (g2.ints.below (ext_below wr x)) g1.len
      have HBR := hid hbr.out
      have lx := cell_lt x0
      have ly := cell_lt y0
      have l1 := cell_lt A0
      have l2 := cell_lt B0
      clear g1 g2
      generalize L[k] = x at *
      obtain ⟨xk, xl, xi⟩ := x
      simp only at A0 A1 B0 B1 lx ly l1 l2
      have k0 : (xk != xk) = false := by simp
      have k1 : (xl != xl) = false := by simp
      clear h1 h2 hc1 hc2 x0 y0 hbr
      go_wp2_with fail
      refine wp_region_pure (by kernel_rfl) (by kernel_rfl) ?_
      repeat (go_big_quiet_step ((first | (go_at_call 64; exact Calls.ext_of (qs _)))))
      refine wpQuiet_nil ?_
      intro w6 hb6
      have HB6 := hid (HBR.out.trans (hb6.mono HBR.out.size))
      clear hb6
      go_wp2_with fail
      go_roundw
      case rel => exact ⟨k + 1, by omega, by go_num, HB6.out⟩
      case measure => simp [intOf]; omega
    · obtain rfl : k = L.length := by omega
      have HBR := hid hbr.out
      clear hbr
      go_wp2_with fail
      go_ret
      exact ⟨rfl, HBB.out.trans (HBR.out.mono HBB.out.size)⟩
theorem results_netC {fn : Func} {tmps : Array Value} {w : World} {t b : Nat} {x y : Value} (hr : fn.results = #[.cell t 24]) (ht : tmps.getD t undef = .pointer (some ⟨b, 0, none⟩)) (h : Box2 w b 24 x y) :
    (results fn tmps).run Tryd.prog w = .ok (.agg #[x, y]) w := by
  obtain ⟨s0, s1, _, _⟩ := h.cells
  simp only [Array.getD_eq_getD_getElem?] at ht
  simp [results, hr, ht, go_sem, s0, s1]
/-- What lies in memory when k of the nodes are copied. -/
def CopO (w wr : World) (rb nb : Nat) (n : Int) (L : List NodeT) (k : Nat) : Prop := ∃ vO vs, Box2 wr nb 24 (.int .i64 n) vO ∧ OwnNodes wr w.heap.size vO (L.take k) vs ∧ Box2 wr rb 24 (.int .i64 0) (.slice none 0 0) ∧ Below w.heap.size w wr
theorem copo_out {w W w9 : World} {nb rb : Nat} {n : Int} {vO v9 v : Value} {vs : List Value} {L : List NodeT} {k : Nat} (hk : k < L.length) (hbx : Box2 W nb 24 (.int .i64 n) vO) (hnd : OwnNodes W w.heap.size vO (L.take k) vs) (hrs : Box2 W rb 24 (.int .i64 0) (.slice none 0 0)) (hbl : Below w.heap.size w W) (hB : w.heap.size ≤ nb) (hrn : rb ≠ nb) (hg : W.grownBy w9 vO.ownBlock) (h9 : OwnNodes w9 w.heap.size v9 (L.take k ++ [L[k]]) (vs ++ [v])) :
    Box2 w9 nb 24 (.int .i64 n) vO ∧ CopO w (w9.setCell ⟨nb, 1, none⟩ v9) rb nb n L (k + 1) := by
  obtain ⟨a1, ⟨v', b1, b2, _⟩, a3⟩ := made_store hbx hB hnd hg h9
  rw [← List.take_succ_eq_append_getElem hk] at b2
  exact ⟨a1, v', _, b1, b2, a3 hrs (fun _ _ _ e => by injection e with _ e _; rw [← e]; decide) hrn, (below_app hbl (Nat.le_refl _) hnd.row hg).setCell (p := ⟨nb, 1, none⟩) hB _⟩
theorem Box3.free2' {w : World} {b : Nat} {T : TypeId} {x y z : Value} (h : Box3 w b T x y z) : w.frozen? ⟨b, 2, none⟩ = false := by
  unfold Box3 at h; simp [World.frozen?, h]
/-- A node's inputs are copied, and laid into its variable. -/
theorem copy_step {wr W2 w3 : World} {xk xl : Int} {vi v3 ve : Value} {l : List Int} {b0 : Nat} (hal : Below wr.heap.size wr W2) (hxb : Box3 W2 wr.heap.size 39 (.int .i64 xk) (.int .i64 xl) vi) (hg : W2.grownBy w3 ve.ownBlock) (h3 : OwnInts w3 b0 v3 ([] ++ l)) (he : ∀ j, ve.ownBlock = some j → wr.heap.size < j) :
    Below wr.heap.size wr w3 ∧ Box3 w3 wr.heap.size 39 (.int .i64 xk) (.int .i64 xl) vi ∧ Below wr.heap.size wr ((w3.setCell ⟨wr.heap.size, 2, none⟩ v3).alloc (.cells #[.int .i64 xk, .int .i64 xl, v3] 39)) ∧
      (∀ {vO : Value} {out : List NodeT} {vs : List Value} {b1 : Nat}, OwnNodes wr b1 vO out vs → OwnNodes ((w3.setCell ⟨wr.heap.size, 2, none⟩ v3).alloc (.cells #[.int .i64 xk, .int .i64 xl, v3] 39)) b1 vO out vs) ∧
      OwnInts ((w3.setCell ⟨wr.heap.size, 2, none⟩ v3).alloc (.cells #[.int .i64 xk, .int .i64 xl, v3] 39)) b0 v3 l ∧
      ((w3.setCell ⟨wr.heap.size, 2, none⟩ v3).alloc (.cells #[.int .i64 xk, .int .i64 xl, v3] 39)).heap[w3.heap.size]? = some (.cells #[.int .i64 xk, .int .i64 xl, v3] 39 (0, 0)) := by
  have hb3 : Below wr.heap.size wr w3 := hal.grown hg hal.size fun j e => Nat.le_of_lt (he j e)
  have hx3 : Box3 w3 wr.heap.size 39 (.int .i64 xk) (.int .i64 xl) vi := hxb.same (hg.block _ hxb.lt fun e => by have := he _ e.symm; omega)
  have hsz : (w3.setCell ⟨wr.heap.size, 2, none⟩ v3).heap.size = w3.heap.size := by simp [World.setCell]
  have hb4 : Below wr.heap.size wr (w3.setCell ⟨wr.heap.size, 2, none⟩ v3) := hb3.setCell (p := ⟨wr.heap.size, 2, none⟩) (Nat.le_refl _) _
  have hb5 : Below wr.heap.size wr ((w3.setCell ⟨wr.heap.size, 2, none⟩ v3).alloc (.cells #[.int .i64 xk, .int .i64 xl, v3] 39)) := hb4.alloc hb4.size _
  have h4 : OwnInts (w3.setCell ⟨wr.heap.size, 2, none⟩ v3) b0 v3 l := own_same (by rw [List.nil_append] at h3; exact h3) fun j e => Below.heap_setCell _ _ _ _ (fun e2 => by
    have e3 : j = wr.heap.size := e2
    subst e3
    obtain ⟨cs, hc⟩ := own_type h3 e
    unfold Box3 at hx3
    rw [hc] at hx3
    injection hx3 with hx3
    injection hx3 with _ e _
    cases e)
  have hnew := heap_alloc_new (w3.setCell ⟨wr.heap.size, 2, none⟩ v3) (.cells #[.int .i64 xk, .int .i64 xl, v3] 39)
  rw [hsz] at hnew
  exact ⟨hb3, hx3, hb5, fun h => h.below hb5, h4.below ((Below.refl _ _).alloc (Nat.le_refl _) _), hnew⟩
/-- The result's variable is set. -/
theorem copo_own {w : World} {B rb : Nat} {v x y x' y' : Value} {out : List NodeT} {vs : List Value} (h : OwnNodes w B v out vs) (hb : Box2 w rb 24 x y) : OwnNodes ((w.setCell ⟨rb, 0, none⟩ x').setCell ⟨rb, 1, none⟩ y') B v out vs := by
  have hty : ∀ {j : Nat} {cs : Array Value} {T : TypeId}, w.heap[j]? = some (.cells cs T (0, 0)) → T ≠ 24 → j ≠ rb := fun {j cs T} hj hT e => by
    subst e
    unfold Box2 at hb
    rw [hj] at hb
    injection hb with hb
    injection hb with _ e _
    exact hT e
  have hset : ∀ {j : Nat}, j ≠ rb → ((w.setCell ⟨rb, 0, none⟩ x').setCell ⟨rb, 1, none⟩ y').heap[j]? = w.heap[j]? := fun hj => (Below.heap_setCell _ _ _ _ hj).trans (Below.heap_setCell _ _ _ _ hj)
  refine h.same (fun j e => ?_) (fun u hu j e => ?_)
  · obtain ⟨cs, hc⟩ := own_type h.row e
    exact hset (hty hc (by decide))
  · obtain ⟨_, _, cs, hc⟩ := h.in_lt hu e
    exact hset (hty hc (by decide))
set_option maxRecDepth 100000 in
set_option maxHeartbeats 4000000 in
theorem copy_c (n : Int) (L : List NodeT) (v : Value) (w : World) (hN : NodesAt w v L) (hl : L.length ≤ 1000) (hi : ∀ x ∈ L, x.ins.length ≤ 1000) :
    Calls Tryd.prog 27 #[.agg #[.int .i64 n, v]] w fun e w' => ∃ v' vs, e = .returned (.agg #[.int .i64 n, v']) ∧ OwnNodes w' w.heap.size v' L vs ∧ Below w.heap.size w w' := by
  obtain ⟨p, c, rfl, hN⟩ := hN
  have HN := hid hN
  have HI := hid hi
  clear hN hi
  have hb1 : Below w.heap.size w (w.alloc (.cells #[.int .i64 n, .slice p L.length c] 24)) := (Below.refl _ w).alloc (Nat.le_refl _) _
  have hb2 : Below w.heap.size w ((w.alloc (.cells #[.int .i64 n, .slice p L.length c] 24)).alloc (.cells #[.int .i64 0, .slice none 0 0] 24)) := hb1.alloc hb1.size _
  have hb3 : Below w.heap.size w (((w.alloc (.cells #[.int .i64 n, .slice p L.length c] 24)).alloc (.cells #[.int .i64 0, .slice none 0 0] 24)).alloc (.cells #[.int .i64 n, .slice none 0 0] 24)) := hb2.alloc hb2.size _
  have hrb := (Box2.new (w.alloc (.cells #[.int .i64 n, .slice p L.length c] 24)) 24 (.int .i64 0) (.slice none 0 0)).alloc (.cells #[.int .i64 n, .slice none 0 0] 24)
  have hnb := Box2.new ((w.alloc (.cells #[.int .i64 n, .slice p L.length c] 24)).alloc (.cells #[.int .i64 0, .slice none 0 0] 24)) 24 (.int .i64 n) (.slice none 0 0)
  rw [World.size_alloc] at hrb
  rw [World.size_alloc, World.size_alloc] at hnb
  have HF0 := hid (show CopO w (((w.alloc (.cells #[.int .i64 n, .slice p L.length c] 24)).alloc (.cells #[.int .i64 0, .slice none 0 0] 24)).alloc (.cells #[.int .i64 n, .slice none 0 0] 24)) (w.heap.size + 1) (w.heap.size + 1 + 1) n L 0 from
    ⟨_, [], hnb, OwnNodes.nil _ _, hrb, hb3⟩)
  obtain ⟨x0, x1⟩ := (NetVar.new w n (.slice p L.length c) 24)
  clear hb1 hb2 hb3 hrb hnb
  go_enter Tryd.func27, Tryd.ntmps27
  go_wp2_with fail
  clear x0 x1
  go_loopw [12] (fun z wr => ∃ (k : Nat), k ≤ L.length ∧ z = .int .i64 k ∧ Hid (CopO w wr (w.heap.size + 1) (w.heap.size + 1 + 1) n L k)) (fun z _ => L.length - (intOf z).toNat)
  case atStart => exact ⟨0, Nat.zero_le _, rfl, HF0.out⟩
  case round =>
    clear HF0
    obtain ⟨k, hk, rfl, hfo⟩ := hrel
    obtain ⟨vO, vs, g1, g2, g6, g7⟩ := hfo.out
    have G1 := hid g1
    have G2 := hid g2
    have G6 := hid g6
    have G7 := hid g7
    clear g1 g2 g6 g7 hfo
    by_cases hkl : k < L.length
    · obtain ⟨b, off, rfl, hN2⟩ := HN.out.resolve_left (by intro e; rw [e] at hkl; simp at hkl)
      obtain ⟨u, hu⟩ := hN2 k hkl
      have hur := hu.below G7.out
      have d0 := hur.kind
      have d1 := hur.lit
      have d2 := hur.ins
      have HU := hid hur
      have hxi : L[k].ins.length ≤ 1000 := HI.out _ (List.getElem_mem hkl)
      have zk : (0 : Int) ≤ (k : Int) ∧ (k : Int) < (L.length : Int) := by omega
      have HOUT := hid (fun (W w9 : World) (v9 v : Value) (hbx : Box2 W (w.heap.size + 1 + 1) 24 (.int .i64 n) vO) (hnd : OwnNodes W w.heap.size vO (L.take k) vs) (hrs : Box2 W (w.heap.size + 1) 24 (.int .i64 0) (.slice none 0 0)) (hbl : Below w.heap.size w W) (hg : W.grownBy w9 vO.ownBlock) (h9 : OwnNodes w9 w.heap.size v9 (L.take k ++ [L[k]]) (vs ++ [v])) => copo_out hkl hbx hnd hrs hbl (Nat.le_trans (Nat.le_succ _) (Nat.le_succ _)) (show w.heap.size + 1 ≠ w.heap.size + 1 + 1 by omega) hg h9)
      have hlk : (L.take k).length = k := by rw [List.length_take]; omega
      have HLK := hid hlk
      clear hu hur hN2 hlk
      generalize hxx : L[k] = x at *
      obtain ⟨xk, xl, xi⟩ := x
      obtain ⟨p2, c2, e2, hdrop⟩ := HU.out.ints
      subst e2
      clear hdrop hxx
      simp only at d0 d1 hxi
      have hal1 : Below wr.heap.size wr (wr.alloc (.cells #[.int .i64 xk, .int .i64 xl, .slice p2 xi.length c2] 39)) := (Below.refl _ wr).alloc (Nat.le_refl _) _
      have hal2 : Below wr.heap.size wr ((wr.alloc (.cells #[.int .i64 xk, .int .i64 xl, .slice p2 xi.length c2] 39)).alloc (.cells #[] 3)) := hal1.alloc hal1.size _
      have hxb := (Box3.new wr 39 (.int .i64 xk) (.int .i64 xl) (.slice p2 xi.length c2)).same (Below.heap_alloc (wr.alloc (.cells #[.int .i64 xk, .int .i64 xl, .slice p2 xi.length c2] 39)) (.cells #[] 3) _ (by rw [World.size_alloc]; omega))
      have hown0 := own_noneI (wr.alloc (.cells #[.int .i64 xk, .int .i64 xl, .slice p2 xi.length c2] 39)) (B := w.heap.size) (Nat.le_trans G7.out.size hal1.size)
      rw [World.size_alloc] at hown0
      have HAL := hid hal2
      have HXB := hid hxb
      have HOE := hid hown0
      have HII := hid (HU.out.ints.below hal2)
      have hsz : w.heap.size ≤ ((wr.alloc (.cells #[.int .i64 xk, .int .i64 xl, .slice p2 xi.length c2] 39)).alloc (.cells #[] 3)).heap.size := Nat.le_trans G7.out.size hal2.size
      clear hal1 hal2 hxb hown0
      have lnb := G1.out.lt
      have hol : (L.take k).length ≤ 1000000 := by rw [HLK.out]; omega
      go_wp2_with (first
        | (at_builtin; (refine wpList_append_I rfl _ _ rfl w.heap.size _ [] rfl HOE.out _ xi rfl HII.out (by show 0 + _ ≤ 16777216; omega) hsz ?_; intro v3 w3 hown3 hg3 _; have HP3 := hid (copy_step HAL.out HXB.out hg3 hown3 (fun j e => by injection e with e; have e2 : wr.heap.size + 1 = j := e; omega)); obtain ⟨p9, c9, e9, hd9⟩ := hown3.ints; rw [List.nil_append] at e9; subst e9; have hx3 := HP3.out.2.1; obtain ⟨m0, m1, m2⟩ := hx3.cells; have mf := hx3.free2'; have hbx3 := G1.out.below HP3.out.1 G1.out.lt; obtain ⟨a0, a1, a2, a3⟩ := hbx3.cells; have l3 := hx3.lt; have l4 := hbx3.lt; clear hd9 hown3 hg3 hx3 hbx3))
        | (at_builtin; go_loud (refine wpList_append_N rfl _ _ rfl w.heap.size vO (L.take k) vs rfl (HP3.out.2.2.2.1 G2.out) ⟨xk, xl, xi⟩ _ HP3.out.2.2.2.2.1 (by show xi.length ≤ 16777216; omega) w3.heap.size 1 39 rfl HP3.out.2.2.2.2.2 hol (Nat.le_trans G7.out.size HP3.out.2.2.1.size) ?_; intro v9 w9 hown9 hg9 hv9; have hf9 := HOUT.out _ _ _ _ (G1.out.below HP3.out.2.2.1 G1.out.lt) (HP3.out.2.2.2.1 G2.out) (G6.out.below HP3.out.2.2.1 G6.out.lt) (G7.out.trans (HP3.out.2.2.1.mono G7.out.size)) hg9 hown9; have HF9 := hid hf9.2; obtain ⟨_, y4, _, f4⟩ := hf9.1.cells; clear hf9 hown9 hg9; obtain ⟨g9, c9', e9, _⟩ := hv9; rw [HLK.out] at e9; subst e9)))
      go_roundw
      case rel => exact ⟨k + 1, by omega, by go_num, HF9.out⟩
      case measure => simp [intOf]; omega
    · obtain rfl : k = L.length := by omega
      have hnd := G2.out
      rw [List.take_length] at hnd
      obtain ⟨x0, x1, x2, x3⟩ := G1.out.cells
      obtain ⟨y0, y1, y2, y3⟩ := G6.out.cells
      have lnb := G1.out.lt
      have lrb := G6.out.lt
      have HND := hid hnd
      obtain ⟨pO, cO, rfl, hd⟩ := hnd.nodes
      clear hd hnd
      go_wp2_with fail
      refine bodyPost_ret (results_netC rfl rfl (G6.out.set01 _ _)) rfl ?_
      exact ⟨_, vs, rfl, copo_own HND.out G6.out, below_01 G7.out (Nat.le_succ _) _ _⟩
end Go.Proofs.YtpdbfbjfodckgaaDoor
namespace Go.Proofs.YtpdbfbjfodckgaaDoor
open Go.RowKit

/-- What a maker of smooth forms leaves. -/
def SmPost (nA : Int) (M : List NodeT) (cA : Int) (w : World) (e : Ending) (w' : World) : Prop :=
  ∃ v vs, e = .returned (.tuple #[.agg #[.int .i64 nA, v], .int .i64 cA]) ∧ OwnNodes w' w.heap.size v M vs ∧ Below w.heap.size w w'
theorem smoothed_both (n : Int) (L : List NodeT) (hl : L.length ≤ 100) (hi : ∀ x ∈ L, x.ins.length ≤ 40) : ∃ nA M cA, M.length ≤ 65536 ∧
    (∀ v w, NodesAt w v L → TabAt w → Calls Tryd.prog 14 #[.agg #[.int .i64 n, v]] w (SmPost nA M cA w)) ∧
    (∀ v w, NodesAt w v L → Calls Tryd.prog 28 #[.agg #[.int .i64 n, v]] w (SmPost nA M cA w)) := by
  cases hv : validNet ⟨n, L⟩
  · refine ⟨0, [], 1, by simp, fun v w hN _ => ?_, fun v w hN => ?_⟩
    · exact (Smoothed_bad n L v w hN hv).mono fun e w' h => ⟨.slice none 0 0, [], h.1, OwnNodes.nil _ _, h.2⟩
    · exact (smoothed21_bad n L v w hN hv).mono fun e w' h => ⟨.slice none 0 0, [], h.1, OwnNodes.nil _ _, h.2⟩
  · have h1 := smT_len hi
    have h2 : (smT L).length ≤ 65536 := by omega
    have h3 : ∀ x ∈ L, x.ins.length ≤ 65536 := fun x hx => by have := hi x hx; omega
    refine ⟨n, smT L, 0, h2, fun v w hN hT => ?_, fun v w hN => ?_⟩
    · exact Smoothed_c n L v w hN hv hT h2 h3
    · exact smoothed21_c n L v w hN hv h2 h3
/-- Nodes of a call's own, whose inputs may have been written over. -/
structure Wiped (w : World) (B : Nat) (v : Value) (L : List NodeT) (vs : List Value) : Prop where
  row : w.ownsRow B 39 3 v L.length (nodeCells L vs)
  len : vs.length = L.length
  ins : ∀ u ∈ vs, ∃ l, OwnInts w B u l ∧ l.length ≤ 16777216
theorem Wiped.of {w : World} {B : Nat} {v : Value} {L : List NodeT} {vs : List Value} (h : OwnNodes w B v L vs) : Wiped w B v L vs :=
  ⟨h.row, h.len, fun u hu => by
    obtain ⟨i, hi, rfl⟩ := List.getElem_of_mem hu
    obtain ⟨y, e1, e2, e3⟩ := h.ins i (by rw [← h.len]; exact hi)
    rw [List.getElem?_eq_getElem hi] at e1
    injection e1 with e1
    subst e1
    exact ⟨_, e2, e3⟩⟩
theorem Wiped.below {w w' : World} {B : Nat} {v : Value} {L : List NodeT} {vs : List Value} (h : Wiped w B v L vs) (hb : Below w.heap.size w w') : Wiped w' B v L vs :=
  ⟨own_same h.row fun k hk => hb.block k (own_ge h.row hk).2, h.len, fun u hu => by
    obtain ⟨l, h1, h2⟩ := h.ins u hu
    exact ⟨l, h1.below hb, h2⟩⟩
theorem own_put {w : World} {B g : Nat} {v : Value} {l : List Int} (h : OwnInts w B v l) (j : Nat) (z : Int) : ∃ l', l'.length = l.length ∧ OwnInts (w.setCell ⟨g, j, none⟩ (.int .i64 z)) B v l' := by
  by_cases e : v.ownBlock = some g
  · obtain ⟨h0, h | ⟨g', cap, cur, rfl, hB, hg, hn, hm, hs, ht⟩⟩ := h
    · rw [h.1] at e; cases e
    · injection e with e
      have e2 : g' = g := e
      subst e2
      refine ⟨l.set j z, by simp, ⟨by simp, .inr ⟨g', cap, cur.setIfInBounds j (.int .i64 z), by rw [List.length_set], hB, by simp [World.setCell, Array.getElem?_modify, hg], by rw [List.length_set]; exact hn, hm, by simpa using hs, ?_⟩⟩⟩
      rw [List.length_set, Array.toList_setIfInBounds, List.take_set, ht, List.map_set]
  · exact ⟨l, rfl, own_same h fun k hk => Below.heap_setCell _ _ _ _ (fun e2 => e (by rw [hk]; exact congrArg some e2))⟩
theorem Wiped.get {w : World} {B : Nat} {v : Value} {L : List NodeT} {vs : List Value} (h : Wiped w B v L vs) {i : Nat} (hi : i < L.length) :
    ∃ g c u, v = .slice (some ⟨g, 0, none⟩) L.length c ∧ u ∈ vs ∧ w.cell? ⟨g, i * 3, none⟩ = some (.int .i64 L[i].kind) ∧ w.cell? ⟨g, i * 3 + 1, none⟩ = some (.int .i64 L[i].lit) ∧ w.cell? ⟨g, i * 3 + 2, none⟩ = some u := by
  rcases h.row.2 with ⟨_, h0⟩ | ⟨g, cap, cur, rfl, _, hg, hn, _, hs, ht⟩
  · omega
  · have hv : i < vs.length := by rw [h.len]; exact hi
    obtain ⟨e0, e1, e2⟩ := nodeCells_get L vs i hi vs[i] (List.getElem?_eq_getElem hv)
    have key : ∀ j y, j < L.length * 3 → (nodeCells L vs)[j]? = some y → w.cell? ⟨g, j, none⟩ = some y := fun j y hj e => by
      rw [← ht, List.getElem?_take, if_pos hj] at e
      simp only [World.cell?, hg]
      rw [← Array.getElem?_toList]; exact e
    exact ⟨g, cap, vs[i], rfl, List.getElem_mem hv, key _ _ (by omega) e0, key _ _ (by omega) e1, key _ _ (by omega) e2⟩
/-- An input is written over. -/
theorem Wiped.put {w w0 : World} {B xb g m c : Nat} {v x y : Value} {L : List NodeT} {vs : List Value} (h : Wiped w B v L vs) (hu : Value.slice (some ⟨g, 0, none⟩) m c ∈ vs) (hx : Box3 w xb 39 x y (.slice (some ⟨g, 0, none⟩) m c)) (hb : Below B w0 w) (j : Nat) (z : Int) :
    Wiped (w.setCell ⟨g, j, none⟩ (.int .i64 z)) B v L vs ∧ Box3 (w.setCell ⟨g, j, none⟩ (.int .i64 z)) xb 39 x y (.slice (some ⟨g, 0, none⟩) m c) ∧ Below B w0 (w.setCell ⟨g, j, none⟩ (.int .i64 z)) := by
  obtain ⟨l, hl, _⟩ := h.ins _ hu
  obtain ⟨cs, hc⟩ := own_type hl (k := g) rfl
  have hne : ∀ {k : Nat} {cs : Array Value} {T : TypeId}, w.heap[k]? = some (.cells cs T (0, 0)) → T ≠ 3 → (w.setCell ⟨g, j, none⟩ (.int .i64 z)).heap[k]? = w.heap[k]? := fun {k cs T} hk hT => Below.heap_setCell _ _ _ _ fun e => by
    have e2 : k = g := e
    subst e2
    rw [hk] at hc
    injection hc with hc
    injection hc with _ e _
    exact hT e
  refine ⟨⟨own_same h.row fun k hk => ?_, h.len, fun u hu => ?_⟩, hx.same (hne hx (by decide)), hb.setCell (p := ⟨g, j, none⟩) (own_ge hl rfl).1 _⟩
  · obtain ⟨cs2, hc2⟩ := own_type h.row hk
    exact hne hc2 (by decide)
  · obtain ⟨l2, h2, h3⟩ := h.ins u hu
    obtain ⟨l3, h4, h5⟩ := own_put (g := g) h2 j z
    exact ⟨l3, h5, by omega⟩
set_option maxRecDepth 100000 in
set_option maxHeartbeats 8000000 in
theorem shapeSmoothed_walk (n : Int) (L : List NodeT) (v : Value) (w : World) (hT : TabAt w) (hP : PatAt w) (hN : NodesIn w v L) (hl : L.length ≤ 9223372036854775807) :
    Calls Tryd.prog 6 #[.agg #[.int .i64 n, v]] w (LawPost w) := by
  have hB1 : Below w.heap.size w (w.alloc (.cells #[.int .i64 n, v] 24)) := (Below.refl _ w).alloc (Nat.le_refl _) _
  have HX := hid (Box2.new w 24 (.int .i64 n) v)
  have HN := hid (hN.below hB1)
  have HLI := hid (light_c 100 n L v _ (hN.below hB1) hl)
  have HTB := hid (fun w' (h : Below w.heap.size w w') => (show TabAt w' ∧ PatAt w' from ⟨hT.below hT.lt h, hP.below hP.lt h⟩))
  have HB1 := hid hB1
  obtain ⟨x0, x1, _, _⟩ := HX.out.cells
  clear hT hP hN hB1
  go_enter Tryd.func6, Tryd.ntmps6
  go_wp2_with fail
  refine HLI.out.mono ?_
  rintro e w2 ⟨rfl, hb2⟩
  clear x0 x1
  obtain ⟨x0, x1, _, _⟩ := (HX.out.below hb2 HX.out.lt).cells
  have HX2 := hid (HX.out.below hb2 HX.out.lt)
  have HN2 := hid (HN.out.below hb2)
  have HB2 := hid (HB1.out.trans (hb2.mono HB1.out.size))
  clear hb2 HX HN HLI HB1
  cases hL : lightB 100 L
  · go_wp2_with fail
    refine (works_c w2 (HTB.out _ HB2.out).1 (HTB.out _ HB2.out).2).mono ?_
    rintro e w3 ⟨rfl, hb3⟩
    go_wp2_with fail
    go_ret
    exact ⟨rfl, HB2.out.trans (hb3.mono HB2.out.size)⟩
  · obtain ⟨hlen, hins⟩ := light_len hL
    have HNA := hid (HN2.out.nodes fun x hx => by have := hins x hx; omega)
    obtain ⟨nA, M, cA, hM, q1, q2⟩ := smoothed_both n L (by omega) hins
    have Q1 := hid q1
    have Q2 := hid q2
    have HM := hid hM
    have HCP := hid (copy_c n L v w2 HNA.out (by omega) (fun x hx => by have := hins x hx; omega))
    have HL100 := hid (show L.length ≤ 100 by omega)
    clear hL hlen hins q1 q2 hM hl HN2
    go_wp2_with fail
    refine HCP.out.mono ?_
    rintro e w3 ⟨v3, vs3, rfl, hown3, hb3⟩
    obtain ⟨p3, c3, rfl, hd3⟩ := hown3.nodes
    have hal : Below w3.heap.size w3 (w3.alloc (.cells #[.int .i64 n, .slice p3 L.length c3] 24)) := (Below.refl _ w3).alloc (Nat.le_refl _) _
    have hb24 := hb3.trans (hal.mono hb3.size)
    have HWX := hid (Box2.new w3 24 (.int .i64 n) (.slice p3 L.length c3))
    have HWN := hid (hown3.nodes.below hal)
    have HB4 := hid (HB2.out.trans (hb24.mono HB2.out.size))
    have HX4 := hid (HX2.out.below hb24 HX2.out.lt)
    have HN4 := hid (HNA.out.below hb24)
    clear hd3 hown3 hb3 HCP x0 x1 hal hb24 HX2 HB2 HNA
    obtain ⟨x0, x1, _, _⟩ := HX4.out.cells
    go_wp2_with fail
    clear x0 x1
    generalize w3.alloc (.cells #[.int .i64 n, .slice p3 L.length c3] 24) = w4 at *
    refine (Q1.out _ w4 HN4.out (HTB.out _ HB4.out).1).mono ?_
    rintro e w5 ⟨va, vsa, rfl, howna, hb5⟩
    obtain ⟨pa, ca, rfl, hda⟩ := howna.nodes
    have hal : Below w5.heap.size w5 (w5.alloc (.cells #[.int .i64 nA, .slice pa M.length ca] 24)) := (Below.refl _ w5).alloc (Nat.le_refl _) _
    have HAX := hid (Box2.new w5 24 (.int .i64 nA) (.slice pa M.length ca))
    have HON := hid (howna.below hal)
    have HB6 := hid (hb5.trans (hal.mono hb5.size))
    have hx6 := HX4.out.below HB6.out HX4.out.lt
    clear hda howna hb5 hal
    obtain ⟨x0, x1, _, _⟩ := hx6.cells
    go_wp2_with fail
    clear x0 x1 hx6
    generalize w5.alloc (.cells #[.int .i64 nA, .slice pa M.length ca] 24) = w6 at *
    refine (Q2.out _ w6 (HN4.out.below HB6.out)).mono ?_
    rintro e w7 ⟨vb, vsb, rfl, hownb, hb7⟩
    obtain ⟨pb, cb, rfl, hdb⟩ := hownb.nodes
    have hal : Below w7.heap.size w7 (w7.alloc (.cells #[.int .i64 nA, .slice pb M.length cb] 24)) := (Below.refl _ w7).alloc (Nat.le_refl _) _
    have h68 := hb7.trans (hal.mono hb7.size)
    have HBX := hid (Box2.new w7 24 (.int .i64 nA) (.slice pb M.length cb))
    have HBN := hid (hownb.nodes.below hal)
    have HAX8 := hid (HAX.out.below h68 HAX.out.lt)
    have HON8 := hid (HON.out.below h68)
    have HB8 := hid (HB6.out.trans (h68.mono HB6.out.size))
    clear hdb hownb hb7 hal h68 HAX HON HB6
    obtain ⟨y0, y1, _, _⟩ := HAX8.out.cells
    obtain ⟨z0, z1, _, _⟩ := HBX.out.cells
    have d0 : (cA != cA) = false := by simp
    go_wp2_with fail
    clear y0 y1 z0 z1
    generalize w7.alloc (.cells #[.int .i64 nA, .slice pb M.length cb] 24) = w8 at *
    refine (same21_c nA M _ _ w8 HON8.out.nodes HBN.out (by have := HM.out; omega)).mono ?_
    rintro e w9 ⟨rfl, hb9⟩
    have HAX9 := hid (HAX8.out.below hb9 HAX8.out.lt)
    have HW9 := hid (show Wiped w9 w4.heap.size (.slice pa M.length ca) M vsa ∧ Below w4.heap.size w4 w9 from ⟨Wiped.of (HON8.out.below hb9), HB8.out.trans (hb9.mono HB8.out.size)⟩)
    clear hb9 HAX8 HON8 HB8 HBX HBN
    obtain ⟨y0, y1, _, _⟩ := HAX9.out.cells
    go_wp2_with fail
    clear y0 y1 HAX9
    go_loopw [39] (fun z wr => ∃ k : Nat, k ≤ M.length ∧ z = .int .i64 k ∧ Hid (Wiped wr w4.heap.size (.slice pa M.length ca) M vsa ∧ Below w4.heap.size w4 wr)) (fun z _ => M.length - (intOf z).toNat)
    case atStart => exact ⟨0, Nat.zero_le _, rfl, HW9.out⟩
    case round =>
      clear HW9
      obtain ⟨k, hk, rfl, hwb⟩ := hrel
      have HWB := hid hwb.out
      clear hwb
      by_cases hkl : k < M.length
      · obtain ⟨g, c, u, e1, hu, g0, g1, g2⟩ := HWB.out.1.get hkl
        injection e1 with ea eb ec
        clear eb
        subst ea
        subst ec
        obtain ⟨l, hlu, hl16⟩ := HWB.out.1.ins u hu
        obtain ⟨pu, cu, rfl, hdu⟩ := hlu.ints
        have zk : (0 : Int) ≤ (k : Int) ∧ (k : Int) < (M.length : Int) := by omega
        have hML := HM.out
        clear hdu hlu
        generalize l.length = m at *
        generalize M[k] = x at g0 g1
        obtain ⟨xk, xl, xi⟩ := x
        simp only at g0 g1
        have HU := hid hu
        have hal : Below wr.heap.size wr (wr.alloc (.cells #[.int .i64 xk, .int .i64 xl, .slice pu m cu] 39)) := (Below.refl _ wr).alloc (Nat.le_refl _) _
        have hbx := Box3.new wr 39 (.int .i64 xk) (.int .i64 xl) (.slice pu m cu)
        have HI0 := hid (show Wiped (wr.alloc (.cells #[.int .i64 xk, .int .i64 xl, .slice pu m cu] 39)) w4.heap.size (.slice (some ⟨g, 0, none⟩) M.length ca) M vsa ∧ Box3 (wr.alloc (.cells #[.int .i64 xk, .int .i64 xl, .slice pu m cu] 39)) wr.heap.size 39 (.int .i64 xk) (.int .i64 xl) (.slice pu m cu) ∧ Below w4.heap.size w4 (wr.alloc (.cells #[.int .i64 xk, .int .i64 xl, .slice pu m cu] 39)) from
          ⟨HWB.out.1.below hal, hbx, HWB.out.2.trans (hal.mono HWB.out.2.size)⟩)
        obtain ⟨_, _, n2⟩ := hbx.cells
        clear hu hal hbx
        go_wp2_with fail
        clear n2 g0 g1 g2
        generalize wr.alloc (.cells #[.int .i64 xk, .int .i64 xl, .slice pu m cu] 39) = w11 at *
        obtain ⟨wo, hwo⟩ : ∃ wo : World, wo = wr := ⟨_, rfl⟩
        subst hwo
        go_loopw [46] (fun z wq => ∃ j : Nat, j ≤ m ∧ z = .int .i64 j ∧ Hid (Wiped wq w4.heap.size (.slice (some ⟨g, 0, none⟩) M.length ca) M vsa ∧ Box3 wq wo.heap.size 39 (.int .i64 xk) (.int .i64 xl) (.slice pu m cu) ∧ Below w4.heap.size w4 wq)) (fun z _ => m - (intOf z).toNat)
        case atStart => exact ⟨0, Nat.zero_le _, rfl, HI0.out⟩
        case round =>
          clear HI0
          obtain ⟨j, hj, rfl, hwj⟩ := hrel
          have HWJ := hid hwj.out
          clear hwj
          by_cases hjm : j < m
          · obtain ⟨l2, h2, _⟩ := HWJ.out.1.ins _ HU.out
            have e2 : m = l2.length := by
              obtain ⟨_, _, e, _⟩ := h2.ints
              injection e
            obtain ⟨gu, cu2, e3, _, hgl, hgc⟩ := h2.cells (by omega)
            injection e3 with e3 e4 e5
            subst e3
            subst e5
            obtain ⟨m0, mf⟩ := hgc j (by omega)
            generalize l2[j]'(by omega) = z at m0
            have HP := hid (HWJ.out.1.put HU.out HWJ.out.2.1 HWJ.out.2.2 j 77)
            obtain ⟨_, _, m2⟩ := HWJ.out.2.1.cells
            have zj : (0 : Int) ≤ (j : Int) ∧ (j : Int) < (m : Int) := by omega
            clear h2 e2 e4 hgc
            go_wp2_with fail
            go_roundw
            case rel => exact ⟨j + 1, by omega, by go_num, HP.out⟩
            case measure => simp [intOf]; omega
          · obtain rfl : j = m := by omega
            go_wp2_with fail
            go_roundw
            case rel => exact ⟨k + 1, by omega, by go_num, ⟨HWJ.out.1, HWJ.out.2.2⟩⟩
            case measure => simp [intOf]; omega
      · obtain rfl : k = M.length := by omega
        have hbw := HB4.out.trans (HWB.out.2.mono HB4.out.size)
        have HBW := hid hbw
        obtain ⟨x0, x1, _, _⟩ := (HX4.out.below HWB.out.2 HX4.out.lt).cells
        obtain ⟨y0, y1, _, _⟩ := (HWX.out.below HWB.out.2 HWX.out.lt).cells
        have HSM := hid (same21_c n L _ _ wr (HN4.out.below HWB.out.2) (HWN.out.below HWB.out.2) (by have := HL100.out; omega))
        clear hbw
        go_wp2_with fail
        refine HSM.out.mono ?_
        rintro e w10 ⟨rfl, hb10⟩
        have HB10 := hid (HBW.out.trans (hb10.mono HBW.out.size))
        clear hb10 x0 x1 y0 y1
        go_wp2_with fail
        refine (works_c w10 (HTB.out _ HB10.out).1 (HTB.out _ HB10.out).2).mono ?_
        rintro e w12 ⟨rfl, hb12⟩
        go_wp2_with fail
        go_ret
        exact ⟨rfl, HB10.out.trans (hb12.mono HB10.out.size)⟩
end Go.Proofs.YtpdbfbjfodckgaaDoor
