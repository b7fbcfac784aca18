/- Walks: a net in new memory. -/
import Derived.Test.YtkfmblpcfgdgpaaFLaw2
import Derived.Test.YtkfmblpcfgdgpaaTake2
import Derived.Deep.Upon
namespace Go.Proofs.Ytkfmblpcfgdgpaa
open Go.RowKit

/-- Numbers appended from any slice of numbers. -/
theorem opwp_append_ints {o : Oper} {a : Act} {w : World} {K : Act → World → Prop} {Q : Exit → Act → World → Prop} (s x : Operand)
    (ho : o.op = .call { callee := .builtin .append, args := #[s, x], argTypes := #[44, 44] })
    (base g c : Nat) (n : Nat) (l : List Int) (hs : a.eval s = .slice (some ⟨g, 0, none⟩) n c) (hown : w.ownsRow base 3 1 (.slice (some ⟨g, 0, none⟩) n c) n (l.map (Value.int .i64))) (hnc : n ≤ c)
    (u : Value) (l2 : List Int) (hx : a.eval x = u) (hu : IntsAt w u l2)
    (hlen : n + l2.length ≤ 16777216) (hbase : base ≤ w.heap.size)
    (h : ∀ v' w', w'.ownsRow base 3 1 v' (n + l2.length) (l.map (Value.int .i64) ++ l2.map (Value.int .i64)) → w.grownBy w' (some g) → K (a.put o.dst v') w') : o.wp Try.prog a w K Q := by
  obtain ⟨p, c2, rfl, hp⟩ := hu
  obtain ⟨i0, hi, hz0, hz1, hz2⟩ := info_parts info_int
  cases l2 with
  | nil =>
    have hsrc : ∀ (p : Option Addr), Src Try.prog i0.size 44 (.slice p 0 c2) 0 [] w := fun p => by
      cases p with
      | none => exact Src.ofNil w Try.underlying44 c2
      | some ad => exact Src.ofSlice w Try.underlying44 ad 0 c2 [] (by simp) (by simp) (by simp)
    have hrun : (Builtin.append_ #[44, 44] o.type #[.slice (some ⟨g, 0, none⟩) n c, .slice p 0 c2]).run Try.prog w = .ok (.slice (some ⟨g, 0, none⟩) n c) w :=
      run_append_nothing (P := Try.prog) w 44 44 o.type 3 i0 Try.underlying44 hi _ _ _ hnc _ (hsrc p)
    have hx' : a.eval x = .slice p 0 c2 := hx
    unfold Oper.wp
    simp [execOp, ho, resolve, invoke, builtin, hs, hx', hrun, Result.andThen]
    exact h _ w (by simpa using hown) (World.grownBy.refl _ _)
  | cons b0 t =>
    obtain ⟨b, off, rfl, hc⟩ := hp.resolve_left (by simp)
    refine wp_append_lies w s x 44 ho base 3 i0 (.int .i64 0) 1 8 Try.underlying44 hi hz0 hz1 hz2 rfl (by decide) _ n _ hs hown ⟨b, off, none⟩ (b0 :: t).length c2 ((b0 :: t).map (Value.int .i64)) hx (by simp) (fun j y hj => ?_) (by simp [Value.oneCell']) (by simp) (by unfold maxLen; omega) (by omega) hbase _ rfl fun gg cap w' h1 h2 _ _ => h _ w' h1 h2
    have hlt : j < (b0 :: t).length := by have := (List.getElem?_eq_some_iff.1 hj).1; simpa using this
    rw [Addr.add_lit, hc j hlt]
    rw [List.getElem?_map, List.getElem?_eq_getElem hlt] at hj
    rw [List.getElem?_eq_getElem hlt, Option.getD_some]
    simpa using hj
/-- A function whose result is a variable of a net. -/
theorem results_net1 {fn : Func} {tmps : Array Value} {w : World} {t b : Nat} {x y : Value} (hr : fn.results = #[.cell t 24]) (ht : tmps.getD t undef = .pointer (some ⟨b, 0, none⟩)) (h : w.heap[b]? = some (.cells #[x, y] 24 (0, 0))) :
    (results fn tmps).run Try.prog w = .ok (.agg #[x, y]) w := by
  obtain ⟨⟨s0, s1⟩, _⟩ := box2 h
  simp only [Array.getD_eq_getD_getElem?] at ht
  simp [results, hr, ht, go_sem, s0, s1]
/-- What stands in a round of copied. -/
structure CopSt (w1 wr : World) (po : Nat) (n : Int) (L : List NodeT) (k : Nat) (u : Value) (vs : List Value) : Prop where
  out : wr.heap[po]? = some (.cells #[.int .i64 n, u] 24 (0, 0))
  own : OwnNodes wr (po + 1) u (L.take k) vs
  low : Below po w1 wr
set_option maxRecDepth 100000 in
set_option maxHeartbeats 4000000 in
theorem copied_c (n : Int) (L : List NodeT) (v : Value) (w : World) (hN : NodesIn w v L) (hl : L.length ≤ 300) (hi300 : ∀ x ∈ L, x.ins.length ≤ 300) :
    Calls Try.prog 16 #[.agg #[.int .i64 n, v]] w fun e w' => ∃ u vs, e = .returned (.agg #[.int .i64 n, u]) ∧ OwnNodes w' w.heap.size u L vs ∧ Below w.heap.size w w' := by
  have hB1 : Below w.heap.size w ((w.alloc (.cells #[.int .i64 n, v] 24)).alloc (.cells #[.int .i64 0, .slice none 0 0] 24)) := ((Below.refl _ w).alloc (Nat.le_refl _) _).alloc (by simp) _
  have hx : NetVar ((w.alloc (.cells #[.int .i64 n, v] 24)).alloc (.cells #[.int .i64 0, .slice none 0 0] 24)) w.heap.size n v := (NetVar.new w n v 24).below ((Below.refl _ _).alloc (Nat.le_refl _) _)
  have hres : ((w.alloc (.cells #[.int .i64 n, v] 24)).alloc (.cells #[.int .i64 0, .slice none 0 0] 24)).heap[w.heap.size + 1]? = some (.cells #[.int .i64 0, .slice none 0 0] 24 (0, 0)) := by
    have := heap_alloc_new (w.alloc (.cells #[.int .i64 n, v] 24)) (.cells #[.int .i64 0, .slice none 0 0] 24)
    rw [World.size_alloc] at this; exact this
  replace hN := hN.below hB1
  have HRES := hid hres
  obtain ⟨p, c, rfl, hN0⟩ := hN
  have HN := hid hN0
  have HB1 := hid hB1
  have HX := hid hx
  have hs1 : ((w.alloc (.cells #[.int .i64 n, .slice p L.length c] 24)).alloc (.cells #[.int .i64 0, .slice none 0 0] 24)).heap.size = w.heap.size + 2 := by simp
  clear hres hN0 hB1 hx
  obtain ⟨x0, x1⟩ := HX.out
  go_enter Try.func16, Try.ntmps16
  go_wp2_with fail
  generalize (w.alloc (.cells #[.int .i64 n, .slice p L.length c] 24)).alloc (.cells #[.int .i64 0, .slice none 0 0] 24) = w1 at *
  have hr0 := heap_alloc_new w1 (.cells #[.int .i64 n, .slice none 0 0] 24)
  rw [hs1] at hr0
  have hb0 : Below (w.heap.size + 2) w1 (w1.alloc (.cells #[.int .i64 n, .slice none 0 0] 24)) := (Below.refl _ w1).alloc (by omega) _
  have hx0l : w.heap.size < w1.heap.size := cell_lt x0
  go_loopw [12] (fun jj wr => ∃ (k : Nat) (u : Value) (vs : List Value), k ≤ L.length ∧ jj = .int .i64 k ∧ CopSt w1 wr (w.heap.size + 2) n L k u vs) (fun jj _ => L.length - (intOf jj).toNat)
  case atStart => exact ⟨0, _, [], by omega, rfl, ⟨hr0, own_nodes_nil _ _, hb0⟩⟩
  case round =>
    clear hr0 hb0 x0 x1 hx0l
    obtain ⟨k, u, vs, hk, rfl, st⟩ := hrel
    by_cases hlt : k < L.length
    · obtain ⟨b, off, rfl, hNk⟩ := HN.out.resolve_left (by intro e; rw [e] at hlt; simp at hlt)
      obtain ⟨ui, hu⟩ := hNk k hlt
      have hu' := hu.below (by rw [hs1]; exact st.low)
      have d0 := hu'.kind
      have d1 := hu'.lit
      have d2 := hu'.ins
      have hI := hu'.ints
      have z1 : (0 : Int) ≤ (k : Int) ∧ (k : Int) < (L.length : Int) := by omega
      have hxi := hi300 _ (List.getElem_mem hlt)
      have htk := (List.take_succ_eq_append_getElem hlt).symm
      have HTK := hid htk
      clear hu hu' hNk htk
      generalize hxx : L[k] = x at *
      clear hxx
      obtain ⟨xk, xl, xi⟩ := x
      obtain ⟨p2, c2, e2, hdrop⟩ := id hI
      clear hdrop
      subst e2
      have hxi : xi.length ≤ 300 := hxi
      have hbe : Below wr.heap.size wr (wr.alloc (.cells #[.int .i64 xk, .int .i64 xl, .slice p2 xi.length c2] 46)) := (Below.refl _ wr).alloc (Nat.le_refl _) _
      have hxb := heap_alloc_new wr (.cells #[.int .i64 xk, .int .i64 xl, .slice p2 xi.length c2] 46)
      have hxo := (heap_alloc_old wr (.cells #[.int .i64 xk, .int .i64 xl, .slice p2 xi.length c2] 46) (box_lt st.out)).trans st.out
      have hown := st.own.below hbe
      have hlow := st.low.trans (hbe.mono (by have := st.low.size; omega))
      have hI' := hI.below hbe
      have hlL : (L.take k).length = k := by simp; omega
      generalize L.take k = Lk at *
      obtain ⟨i0, hi0, hz0, hz1, hz2⟩ := info_parts info_node
      have HXB := hid hxb
      have HXO := hid hxo
      have hpol : w.heap.size + 2 < wr.heap.size := box_lt st.out
      clear hxb hxo st hbe hI
      go_wp2_with fail
      generalize wr.alloc (.cells #[.int .i64 xk, .int .i64 xl, .slice p2 xi.length c2] 46) = wx at *
      generalize hpx : wr.heap.size = px at *
      generalize hpo2 : w.heap.size + 2 = po at *
      obtain ⟨⟨a0, a1, a2⟩, _, _, _⟩ := box3 HXB.out
      obtain ⟨⟨_, b1⟩, _, bf⟩ := box2 HXO.out
      have hlx : px < wx.heap.size := box_lt HXB.out
      have hC : wx.drew.cell? ⟨po, 1, none⟩ = some u ∧ wx.drew.cell? ⟨px, 0, none⟩ = some (.int .i64 xk) ∧ wx.drew.cell? ⟨px, 1, none⟩ = some (.int .i64 xl) ∧ wx.drew.cell? ⟨px, 2, none⟩ = some (.slice p2 xi.length c2) := ⟨b1, a0, a1, a2⟩
      refine Go.Proofs.Ytkfmblpcfgdgpaa.wp_region_L 15 12 (fun w' => w'.cell? ⟨po, 1, none⟩ = some u ∧ w'.cell? ⟨px, 0, none⟩ = some (.int .i64 xk) ∧ w'.cell? ⟨px, 1, none⟩ = some (.int .i64 xl) ∧ w'.cell? ⟨px, 2, none⟩ = some (.slice p2 xi.length c2)) (by kernel_rfl) rfl hC (fun hS => ?_)
      refine wpAnyL_pure (i := 0) (v := (.pointer (some ⟨po, 1, none⟩))) (by simp only [List.getElem?_toArray, List.getElem?_cons_zero] <;> rfl) (by kernel_rfl) (by kernel_rfl) (by kernel_rfl) (by exact fun _ _ _ h => h) (by decide) hS (Or.inl ⟨by rfl, fun w _ => (by simp [execOp, go_sem, Act.eval])⟩) (fun hS => ?_)
      simp only [Act.put, List.setIfInBounds_toArray, List.set_cons_zero, List.set_cons_succ]
      refine wpAnyL_load (i := 1) (v := u) (by simp only [List.getElem?_toArray, List.getElem?_cons_zero, List.getElem?_cons_succ] <;> rfl) (by kernel_rfl) (by kernel_rfl) (by kernel_rfl) (by exact fun _ _ _ h => h) (by decide) ⟨_, rfl, ⟨1, .data⟩, by simp, rfl, rfl⟩ (by kernel_rfl) hS (Or.inl ⟨by rfl, fun w hw => (by have hw : w.cell? ⟨po, 1, none⟩ = some u := hw.1; simp [execOp, go_sem, Act.eval, hw])⟩) (fun hS => ?_)
      simp only [Act.put, List.setIfInBounds_toArray, List.set_cons_zero, List.set_cons_succ]
      refine wpAnyL_pure (i := 2) (v := (.pointer (some ⟨px, 0, none⟩))) (by simp only [List.getElem?_toArray, List.getElem?_cons_zero, List.getElem?_cons_succ] <;> rfl) (by kernel_rfl) (by kernel_rfl) (by kernel_rfl) (by exact fun _ _ _ h => h) (by decide) hS (Or.inl ⟨by rfl, fun w _ => (by simp [execOp, go_sem, Act.eval])⟩) (fun hS => ?_)
      simp only [Act.put, List.setIfInBounds_toArray, List.set_cons_zero, List.set_cons_succ]
      refine wpAnyL_load2 (i := 3) (v := (.int .i64 xk)) (by simp only [List.getElem?_toArray, List.getElem?_cons_zero, List.getElem?_cons_succ] <;> rfl) (by kernel_rfl) (by kernel_rfl) (by kernel_rfl) (by exact fun _ _ _ h => h) (by decide) (Waits.more (j := 11) rfl ⟨⟨11, .data⟩, by simp, rfl, rfl⟩ (Waits.more (j := 10) rfl ⟨⟨10, .data⟩, by simp, rfl, rfl⟩ (Waits.one rfl ⟨⟨3, .data⟩, by simp, rfl, rfl⟩))) (by kernel_rfl) (by kernel_rfl) hS (Or.inl ⟨by rfl, fun w hw => (by have hw : w.cell? ⟨px, 0, none⟩ = some (.int .i64 xk) := hw.2.1; simp [execOp, go_sem, Act.eval, hw])⟩) (fun hS => ?_)
      simp only [Act.put, List.setIfInBounds_toArray, List.set_cons_zero, List.set_cons_succ]
      refine wpAnyL_pure (i := 4) (v := (.pointer (some ⟨px, 1, none⟩))) (by simp only [List.getElem?_toArray, List.getElem?_cons_zero, List.getElem?_cons_succ] <;> rfl) (by kernel_rfl) (by kernel_rfl) (by kernel_rfl) (by exact fun _ _ _ h => h) (by decide) hS (Or.inl ⟨by rfl, fun w _ => (by simp [execOp, go_sem, Act.eval])⟩) (fun hS => ?_)
      simp only [Act.put, List.setIfInBounds_toArray, List.set_cons_zero, List.set_cons_succ]
      refine wpAnyL_load2 (i := 5) (v := (.int .i64 xl)) (by simp only [List.getElem?_toArray, List.getElem?_cons_zero, List.getElem?_cons_succ] <;> rfl) (by kernel_rfl) (by kernel_rfl) (by kernel_rfl) (by exact fun _ _ _ h => h) (by decide) (Waits.more (j := 11) rfl ⟨⟨11, .data⟩, by simp, rfl, rfl⟩ (Waits.more (j := 10) rfl ⟨⟨10, .data⟩, by simp, rfl, rfl⟩ (Waits.one rfl ⟨⟨5, .data⟩, by simp, rfl, rfl⟩))) (by kernel_rfl) (by kernel_rfl) hS (Or.inl ⟨by rfl, fun w hw => (by have hw : w.cell? ⟨px, 1, none⟩ = some (.int .i64 xl) := hw.2.2.1; simp [execOp, go_sem, Act.eval, hw])⟩) (fun hS => ?_)
      simp only [Act.put, List.setIfInBounds_toArray, List.set_cons_zero, List.set_cons_succ]
      refine wpAnyL_pure (i := 7) (v := (.pointer (some ⟨px, 2, none⟩))) (by simp only [List.getElem?_toArray, List.getElem?_cons_zero, List.getElem?_cons_succ] <;> rfl) (by kernel_rfl) (by kernel_rfl) (by kernel_rfl) (by exact fun _ _ _ h => h) (by decide) hS (Or.inl ⟨by rfl, fun w _ => (by simp [execOp, go_sem, Act.eval])⟩) (fun hS => ?_)
      simp only [Act.put, List.setIfInBounds_toArray, List.set_cons_zero, List.set_cons_succ]
      refine wpAnyL_load2 (i := 8) (v := (.slice p2 xi.length c2)) (by simp only [List.getElem?_toArray, List.getElem?_cons_zero, List.getElem?_cons_succ] <;> rfl) (by kernel_rfl) (by kernel_rfl) (by kernel_rfl) (by exact fun _ _ _ h => h) (by decide) (Waits.more (j := 11) rfl ⟨⟨11, .data⟩, by simp, rfl, rfl⟩ (Waits.more (j := 10) rfl ⟨⟨10, .data⟩, by simp, rfl, rfl⟩ (Waits.more (j := 9) rfl ⟨⟨9, .data⟩, by simp, rfl, rfl⟩ (Waits.one rfl ⟨⟨8, .data⟩, by simp, rfl, rfl⟩)))) (by kernel_rfl) (by kernel_rfl) hS (Or.inl ⟨by rfl, fun w hw => (by have hw : w.cell? ⟨px, 2, none⟩ = some (.slice p2 xi.length c2) := hw.2.2.2; simp [execOp, go_sem, Act.eval, hw])⟩) (fun hS => ?_)
      simp only [Act.put, List.setIfInBounds_toArray, List.set_cons_zero, List.set_cons_succ]
      refine wpAnyL_one (i := 6) (by kernel_rfl) (by simp only [List.getElem?_toArray, List.getElem?_cons_zero, List.getElem?_cons_succ] <;> rfl) (by rfl) ?_
      have hbN : Below wx.heap.size wx (wx.drew.alloc (.cells #[] 3)) := (Below.refl _ wx).drew.alloc (Nat.le_refl _) _
      have hI1 : IntsAt (wx.drew.alloc (.cells #[] 3)) (.slice p2 xi.length c2) xi := hI'.below hbN
      have hout1 : (wx.drew.alloc (.cells #[] 3)).heap[po]? = some (.cells #[.int .i64 n, u] 24 (0, 0)) := (heap_alloc_old wx.drew _ (by show po < wx.heap.size; omega)).trans HXO.out
      have hbx1 : (wx.drew.alloc (.cells #[] 3)).heap[px]? = some (.cells #[.int .i64 xk, .int .i64 xl, .slice p2 xi.length c2] 46 (0, 0)) := (heap_alloc_old wx.drew _ hlx).trans HXB.out
      have hne1 : (wx.drew.alloc (.cells #[] 3)).heap[wx.heap.size]? = some (.cells #[] 3 (0, 0)) := heap_alloc_new wx.drew (.cells #[] 3)
      have hlow1 : Below po w1 (wx.drew.alloc (.cells #[] 3)) := hlow.drew.alloc (by show po ≤ wx.heap.size; omega) _
      have hsz1 : wx.heap.size < (wx.drew.alloc (.cells #[] 3)).heap.size := (by simp)
      have cs1 : (wx.drew.alloc (.cells #[] 3)).cell? ⟨po, 1, none⟩ = some u ∧ (wx.drew.alloc (.cells #[] 3)).cell? ⟨px, 0, none⟩ = some (.int .i64 xk) ∧ (wx.drew.alloc (.cells #[] 3)).cell? ⟨px, 1, none⟩ = some (.int .i64 xl) ∧ (wx.drew.alloc (.cells #[] 3)).cell? ⟨px, 2, none⟩ = some (.slice p2 xi.length c2) := ⟨(box2 hout1).1.2, (box3 hbx1).1⟩
      refine opwp_value (v := .slice (some ⟨wx.heap.size, 0, none⟩) 0 0) (w' := wx.drew.alloc (.cells #[] 3)) (by simp [execOp, go_sem, Act.eval]) ⟨.inr cs1, ?_⟩
      clear cs1 hC
      simp only [Act.put, List.setIfInBounds_toArray, List.set_cons_zero, List.set_cons_succ]
      generalize hww1 : wx.drew.alloc (.cells #[] 3) = ww1 at *
      generalize hgx : wx.heap.size = gx at *
      refine wpAnyL_one (i := 9) (by kernel_rfl) (by simp only [List.getElem?_toArray, List.getElem?_cons_zero, List.getElem?_cons_succ] <;> rfl) (by rfl) ?_
      refine opwp_append_ints _ _ rfl (po + 1) gx 0 0 [] rfl ⟨rfl, .inr ⟨gx, 0, #[], rfl, by omega, hne1, Nat.le_refl _, by decide, rfl, rfl⟩⟩ (Nat.le_refl _) _ xi rfl hI1 (by omega) (by omega) ?_
      intro v7 w7 hown7 hgr7
      have hown7' : OwnInts w7 (po + 1) v7 xi := by unfold OwnInts; simpa using hown7
      have hout7 : w7.heap[po]? = some (.cells #[.int .i64 n, u] 24 (0, 0)) := (hgr7.block po (by omega) (fun e => by injection e with e; omega)).trans hout1
      have hbx7 : w7.heap[px]? = some (.cells #[.int .i64 xk, .int .i64 xl, .slice p2 xi.length c2] 46 (0, 0)) := (hgr7.block px (by omega) (fun e => by injection e with e; omega)).trans hbx1
      have hN7 : OwnNodes w7 (po + 1) u Lk vs := hown.below (by rw [hgx]; exact hbN.grown hgr7 (by omega) (fun j e => by injection e with e; omega))
      have hlow7 : Below po w1 w7 := hlow1.grown hgr7 (by omega) (fun k e => by injection e with e; omega)
      have hsz7 : gx < w7.heap.size := Nat.lt_of_lt_of_le hsz1 hgr7.size
      obtain ⟨py, cy, rfl, hdrop⟩ := OwnInts.ints hown7'
      clear hdrop
      have cs7 : w7.cell? ⟨po, 1, none⟩ = some u ∧ w7.cell? ⟨px, 0, none⟩ = some (.int .i64 xk) ∧ w7.cell? ⟨px, 1, none⟩ = some (.int .i64 xl) ∧ w7.cell? ⟨px, 2, none⟩ = some (.slice p2 xi.length c2) := ⟨(box2 hout7).1.2, (box3 hbx7).1⟩
      refine ⟨.inr cs7, ?_⟩
      simp only [Act.put, List.setIfInBounds_toArray, List.set_cons_zero, List.set_cons_succ]
      refine wpAnyL_one (i := 10) (by kernel_rfl) (by simp only [List.getElem?_toArray, List.getElem?_cons_zero, List.getElem?_cons_succ] <;> rfl) (by rfl) ?_
      refine opwp_value (v := .agg #[.int .i64 xk, .int .i64 xl, .slice py xi.length cy]) (w' := w7) (by simp [execOp, go_sem, Act.eval]) ⟨.inr cs7, ?_⟩
      simp only [Act.put, List.setIfInBounds_toArray, List.set_cons_zero, List.set_cons_succ]
      refine wpAnyL_one (i := 11) (by kernel_rfl) (by simp only [List.getElem?_toArray, List.getElem?_cons_zero, List.getElem?_cons_succ] <;> rfl) (by rfl) ?_
      have hout8 : (w7.alloc (.cells #[.int .i64 xk, .int .i64 xl, .slice py xi.length cy] 46)).heap[po]? = some (.cells #[.int .i64 n, u] 24 (0, 0)) := (heap_alloc_old w7 _ (by omega)).trans hout7
      have hbx8 : (w7.alloc (.cells #[.int .i64 xk, .int .i64 xl, .slice py xi.length cy] 46)).heap[px]? = some (.cells #[.int .i64 xk, .int .i64 xl, .slice p2 xi.length c2] 46 (0, 0)) := (heap_alloc_old w7 _ (by omega)).trans hbx7
      have hN8 : OwnNodes (w7.alloc (.cells #[.int .i64 xk, .int .i64 xl, .slice py xi.length cy] 46)) (po + 1) u Lk vs := hN7.below ((Below.refl _ w7).alloc (Nat.le_refl _) _)
      refine opwp_value (v := .slice (some ⟨w7.heap.size, 0, none⟩) 1 1) (w' := (w7.alloc (.cells #[.int .i64 xk, .int .i64 xl, .slice py xi.length cy] 46))) (by simp [execOp, go_sem, Act.eval]) ⟨.inr ⟨(box2 hout8).1.2, (box3 hbx8).1⟩, ?_⟩
      simp only [Act.put, List.setIfInBounds_toArray, List.set_cons_zero, List.set_cons_succ]
      refine wpAnyL_one (i := 12) (by kernel_rfl) (by simp only [List.getElem?_toArray, List.getElem?_cons_zero, List.getElem?_cons_succ] <;> rfl) (by rfl) ?_
      refine wp_append_lies _ _ _ 22 rfl (po + 1) 46 i0 (.agg #[.int .i64 0, .int .i64 0, .slice none 0 0]) 3 40 Try.underlying22 hi0 hz0 hz1 hz2 rfl (by decide) u Lk.length (nodeCells Lk vs) rfl hN8.row ⟨w7.heap.size, 0, none⟩ 1 1 [.int .i64 xk, .int .i64 xl, .slice py xi.length cy] rfl (by simp) (World.news_of_block (heap_alloc_new _ _)) (by simp [Value.oneCell']) (by omega) (by unfold maxLen; omega) (by omega) (by simp; omega) _ rfl ?_
      intro gg cap w9 hown9 hgrow9 hat9 hlt9
      have huo : ∀ j, u.ownBlock = some j → po + 1 ≤ j := fun j e => (World.ownsRow.lt hN8.row j e).1
      have hout9 : w9.heap[po]? = some (.cells #[.int .i64 n, u] 24 (0, 0)) := (hgrow9.block po (by simp; omega) (fun e => by have := huo _ e.symm; omega)).trans hout8
      have hn9 : OwnNodes w9 (po + 1) (.slice (some ⟨gg, 0, none⟩) (Lk.length + 1) cap) (Lk ++ [⟨xk, xl, xi⟩]) (vs ++ [.slice py xi.length cy]) :=
        OwnNodes.snoc hN8 (World.ownsRow.alloc hown7' _) (by show xi.length ≤ _; omega) hown9 hgrow9
      have hlow9 : Below po w1 w9 := (hlow7.alloc (by omega) _).grown hgrow9 (by simp; omega) (fun j e => by have := huo j e; omega)
      obtain ⟨⟨_, d9⟩, _, g9⟩ := box2 hout9
      refine ⟨.inl (by kernel_rfl), ?_⟩
      simp only [Act.put, List.setIfInBounds_toArray, List.set_cons_zero, List.set_cons_succ]
      refine wpAnyL_one (i := 13) (by kernel_rfl) (by simp only [List.getElem?_toArray, List.getElem?_cons_zero, List.getElem?_cons_succ] <;> rfl) (by rfl) ?_
      refine opwp_value (v := .pointer (some ⟨po, 1, none⟩)) (w' := w9) (by simp [execOp, go_sem, Act.eval]) ⟨.inl (by kernel_rfl), ?_⟩
      simp only [Act.put, List.setIfInBounds_toArray, List.set_cons_zero, List.set_cons_succ]
      refine wpAnyL_one (i := 14) (by kernel_rfl) (by simp only [List.getElem?_toArray, List.getElem?_cons_zero, List.getElem?_cons_succ] <;> rfl) (by rfl) ?_
      refine opwp_skip (w' := w9.setCell ⟨po, 1, none⟩ (.slice (some ⟨gg, 0, none⟩) (Lk.length + 1) cap)) (by simp [execOp, go_sem, Act.eval, d9, g9]) ⟨.inl (by kernel_rfl), ?_⟩
      simp only [Act.put]
      refine wpAnyL_done (by kernel_rfl) ?_ _
      have hst9 : CopSt w1 (w9.setCell ⟨po, 1, none⟩ (.slice (some ⟨gg, 0, none⟩) (Lk.length + 1) cap)) po n L (k + 1) (.slice (some ⟨gg, 0, none⟩) (Lk.length + 1) cap) (vs ++ [.slice py xi.length cy]) := by
        refine ⟨?_, ?_, ?_⟩
        · exact (block_set hout9 (.slice (some ⟨gg, 0, none⟩) (Lk.length + 1) cap) 1).trans (by simp)
        · rw [← HTK.out]; exact hn9.low (grownBy_set w9 po 1 _) (fun j e => by injection e with e; omega)
        · exact hlow9.setCell (p := ⟨po, 1, none⟩) (Nat.le_refl _) _
      clear hlow9 hn9 hout9 hown9 hgrow9 hat9 hlt9 d9 g9 huo hN8 hout8 hbx8 cs7 hN7 hout7 hbx7 hown7 hown7' hgr7 hne1 hout1 hbx1 hI1 hbN hlow1 hlow7 b1 bf a0 a1 a2 hS hlow hI' hown d0 d1 d2
      rw [hlL] at hst9
      subst hpo2
      subst hpx
      go_wp2_with fail
      go_roundw
      case rel => exact ⟨k + 1, _, _, by omega, by go_num, hst9⟩
      case measure => simp [intOf]; omega
    · obtain rfl : k = L.length := by omega
      obtain ⟨⟨e0, e1⟩, _, _⟩ := box2 st.out
      have hres : wr.heap[w.heap.size + 1]? = some (.cells #[.int .i64 0, .slice none 0 0] 24 (0, 0)) := (st.low.block (w.heap.size + 1) (by omega)).trans HRES.out
      obtain ⟨⟨r0, r1⟩, rf0, rf1⟩ := box2 hres
      have hown := st.own
      rw [List.take_length] at hown
      have hlow := HB1.out.trans (st.low.mono (by omega))
      have hsz : w.heap.size + 2 ≤ wr.heap.size := by have := st.low.size; omega
      have HR2 := hid hres
      clear st hres
      obtain ⟨pu, cu, e3, hdrop⟩ := id hown.nodes
      clear hdrop
      subst e3
      go_wp2_with fail
      have hset := block_set (block_set HR2.out (.int .i64 n) 0) (.slice pu L.length cu) 1
      refine bodyPost_ret (results_net1 rfl rfl (by simpa using hset)) rfl ⟨_, vs, rfl, ?_, ?_⟩
      · exact ((hown.low (grownBy_set wr (w.heap.size + 1) 0 _) (fun k e => by injection e with e; omega)).low (grownBy_set _ (w.heap.size + 1) 1 _) (fun k e => by injection e with e; omega)).mono (by omega)
      · exact (hlow.setCell (p := ⟨w.heap.size + 1, 0, none⟩) (by show w.heap.size ≤ w.heap.size + 1; omega) _).setCell (p := ⟨w.heap.size + 1, 1, none⟩) (by show w.heap.size ≤ w.heap.size + 1; omega) _
end Go.Proofs.Ytkfmblpcfgdgpaa
