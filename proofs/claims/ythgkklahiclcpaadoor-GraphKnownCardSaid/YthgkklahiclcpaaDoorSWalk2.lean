/- Walks: elimination, the costs, widths. -/
import Derived.Test.YthgkklahiclcpaaDoorSWalk
namespace Go.Proofs.YthgkklahiclcpaaDoor
open Go.RowKit
attribute [local go_sem ↓] run_eqlS run_neqS run_eqlS0 run_neqS0

theorem TabAt.kept {w w' : World} (h : TabAt w) {row : Option Nat} (hg : w.grownBy w' row) (hr : ∀ k, row = some k → 0 < k) : TabAt w' := fun j hj => by
  have h0 := h j hj
  rw [World.cell?_of_block (w := w) (hg.block _ (cell_lt h0) (fun e => by have := hr _ e.symm; exact absurd rfl (Nat.ne_of_lt this)))]
  exact h0
theorem grownBy_then {a b c : World} {row : Option Nat} (h : a.grownBy b row) (g : b.grownBy c row) : a.grownBy c row :=
  ⟨g.os.trans h.os, g.tape.trans h.tape, g.output.trans h.output, Nat.le_trans h.size g.size, fun k hk hne => (g.block k (Nat.lt_of_lt_of_le hk h.size) hne).trans (h.block k hk hne)⟩
theorem grownBy_of_below' {w w' : World} (hb : Below w.heap.size w w') (row : Option Nat) : w.grownBy w' row := ⟨hb.os, hb.tape, hb.output, hb.size, fun k hk _ => hb.block k hk⟩
theorem grownBy_set2 (w : World) (g a b : Nat) (x y : Value) : w.grownBy ((w.setCell ⟨g, a, none⟩ x).setCell ⟨g, b, none⟩ y) (some g) :=
  ⟨rfl, rfl, rfl, by simp [World.setCell], fun k _ hne => by
    rw [Below.heap_setCell _ _ _ _ (by intro e; exact hne (by rw [e])), Below.heap_setCell _ _ _ _ (by intro e; exact hne (by rw [e]))]⟩
theorem SetRow.get {w : World} {g : Nat} {L : List VS} (h : SetRow w g L) (i : Nat) (hi : i < L.length) : ∃ t, gOf L (i : Int) = t ∧ w.cell? ⟨g, i * 2, none⟩ = some (.int .u64 ((lw t).toNat : Int)) ∧ w.cell? ⟨g, i * 2 + 1, none⟩ = some (.int .u64 ((hw t).toNat : Int)) ∧ w.frozen? ⟨g, i * 2, none⟩ = false ∧ w.frozen? ⟨g, i * 2 + 1, none⟩ = false :=
  ⟨L[i], gOf_nat L i hi, h.at i hi⟩
def ElimPost (g : Nat) (L : List VS) (v : Int) (w : World) (e : Ending) (w' : World) : Prop := e = .returned (.tuple #[]) ∧ SetRow w' g (elL L v) ∧ w.grownBy w' (some g)
/-- What stands in a round. -/
structure ElSt (w wr : World) (g : Nat) (L : List VS) (near : VS) (v : Int) (k : Nat) : Prop where
  row : SetRow wr g (((mems near).take k).foldl (elStep near v) L)
  grew : w.grownBy wr (some g)
set_option maxRecDepth 100000 in
set_option maxHeartbeats 4000000 in
theorem eliminate_c (g c : Nat) (L : List VS) (vn : Nat) (w : World) (hR : SetRow w g L) (hT : TabAt w) (_hgt : 0 < g) (hv : vn < L.length) (hr : ∀ u, has (gOf L (vn : Int)) u = true → u < (L.length : Int)) (_hl : L.length ≤ 129) :
    Calls Tryd.prog 49 #[.slice (some ⟨g, 0, none⟩) L.length c, .int .i64 (vn : Int)] w (ElimPost g L (vn : Int) w) := by
  obtain ⟨q0, q1, f0, f1⟩ := hR.at vn hv
  have HG := hid (gOf_nat L vn hv)
  have z1 : (0 : Int) ≤ (vn : Int) ∧ (vn : Int) < (L.length : Int) := by omega
  have hlt := hR.lt
  have HR := hid hr
  have HGN := hid HG.out
  generalize hss : L[vn] = near at *
  have hb1 : Below w.heap.size w (w.alloc (.cells #[.int .u64 ((lw near).toNat : Int), .int .u64 ((hw near).toNat : Int)] 35)) := (Below.refl _ w).alloc (Nat.le_refl _) _
  have hn1 := SetVar.new w near 35
  have hR1 := hR.alloc (.cells #[.int .u64 ((lw near).toNat : Int), .int .u64 ((hw near).toNat : Int)] 35)
  have hT1 := hT.below hT.lt hb1
  clear hss hr
  go_enter Tryd.func49, Tryd.ntmps49
  go_wp2_with fail
  refine (List_c near _ hT1).mono ?_
  rintro e w3 ⟨v3, rfl, hn3, hb3⟩
  have hn3' := hn1.below hb3 (by simp)
  have hR3 := hR1.below hb3 (by simp; omega)
  have hB3 := hb1.trans (hb3.mono hb1.size)
  have hsz3 := hb3.size
  obtain ⟨pm, cm, e4, hm⟩ := hn3.ints
  subst e4
  have hfar : ∀ b n c', Value.slice pm (mems near).length cm = .slice (some b) n c' → b.block ≠ g := fun b n c' e => by
    have := (World.ownsRow.lt hn3.1 b.block (by rw [e]; rfl)).1
    simp at this; omega
  have HFAR := hid hfar
  have HM := hid hm
  have hml := mems_length near
  clear hm hn3 hb3 hn1 hR1 hb1 hT1 q0 q1 f0 f1 hfar
  go_wp2_with fail
  go_loopw [14] (fun i wr => ∃ k : Nat, k ≤ (mems near).length ∧ i = .int .i64 k ∧ ElSt w3 wr g L near (vn : Int) k) (fun i _ => (mems near).length - (intOf i).toNat)
  case atStart => exact ⟨0, Nat.zero_le _, rfl, ⟨hR3, World.grownBy.refl _ _⟩⟩
  case round =>
    obtain ⟨k, hk, rfl, st⟩ := hrel
    have hsw := st.grew.size
    by_cases hkl : k < (mems near).length
    · obtain ⟨bm, om, rfl, hm⟩ := HM.out.resolve_left (by intro e; rw [e] at hkl; simp at hkl)
      have hc := hm k hkl
      rw [List.getElem?_eq_getElem hkl, Option.getD_some] at hc
      have hc2 := (World.cell?_of_block (w := w3) (st.grew.block bm (cell_lt hc) (by simpa using HFAR.out _ _ _ rfl))).trans hc
      have hmem : has near (mems near)[k] = true := (mem_mems _ _).1 (List.getElem_mem hkl)
      have hrg := has_range hmem
      have hru := HR.out _ (by rw [HG.out]; exact hmem)
      obtain ⟨un, hun⟩ : ∃ un : Nat, (mems near)[k] = (un : Int) := ⟨((mems near)[k]).toNat, by omega⟩
      have HT := hid (List.take_succ_eq_append_getElem hkl)
      rw [hun] at hc2 hrg hru hmem HT
      have hlu : un < L.length := by omega
      have zu : (0 : Int) ≤ (un : Int) ∧ (un : Int) < (L.length : Int) := by omega
      have zk : (0 : Int) ≤ (k : Int) ∧ (k : Int) < ((mems near).length : Int) := by omega
      have hlr : (((mems near).take k).foldl (elStep near (vn : Int)) L).length = L.length := elFold_length _ _ _ _
      obtain ⟨t, hgu, r0, r1, s0, s1⟩ := st.row.get un (by rw [hlr]; exact hlu)
      have HGU := hid hgu
      have hn5 : SetVar wr w.heap.size near := by
        have hl := hn3'.lt
        obtain ⟨T, h⟩ := hn3'
        exact ⟨T, (st.grew.block _ hl (by simp; omega)).trans h⟩
      obtain ⟨n0, n1, _, _⟩ := hn5.cells
      have hROW := hid st.row
      have hGREW := hid st.grew
      have hLR := hid hlr
      clear hm hc hrg hru hun hlr hgu
      generalize hML : ((mems near).take k).foldl (elStep near (vn : Int)) L = M at *
      go_wp2_with fail
      refine Go.Proofs.YthgkklahiclcpaaDoor.wp_region_L 14 7 (fun w' => (w'.cell? ⟨g, un * 2, none⟩ = some (.int .u64 ((lw t).toNat : Int)) ∧ w'.cell? ⟨g, un * 2 + 1, none⟩ = some (.int .u64 ((hw t).toNat : Int))) ∧ w'.cell? ⟨w.heap.size, 0, none⟩ = some (.int .u64 ((lw near).toNat : Int)) ∧ w'.cell? ⟨w.heap.size, 1, none⟩ = some (.int .u64 ((hw near).toNat : Int))) (by kernel_rfl) rfl ⟨⟨r0, r1⟩, n0, n1⟩ (fun hS => ?_)
      refine wpAnyL_pure (i := 0) (v := .slice (some ⟨g, 0, none⟩) L.length c) (by simp only [List.getElem?_toArray, List.getElem?_cons_zero] <;> rfl) (by kernel_rfl) (by kernel_rfl) (by kernel_rfl) (by exact fun _ _ _ h => h) (by decide) hS (Or.inl ⟨by rfl, fun w _ => (by simp [execOp, go_sem, Act.eval])⟩) (fun hS => ?_)
      simp only [Act.put, List.setIfInBounds_toArray, List.set_cons_zero, List.set_cons_succ]
      refine wpAnyL_pure (i := 1) (v := .int .i64 (un : Int)) (by simp only [List.getElem?_toArray, List.getElem?_cons_zero, List.getElem?_cons_succ] <;> rfl) (by kernel_rfl) (by kernel_rfl) (by kernel_rfl) (by exact fun _ _ _ h => h) (by decide) hS (Or.inl ⟨by rfl, fun w _ => (by simp [execOp, go_sem, Act.eval])⟩) (fun hS => ?_)
      simp only [Act.put, List.setIfInBounds_toArray, List.set_cons_zero, List.set_cons_succ]
      refine wpAnyL_pure (i := 2) (v := .slice (some ⟨g, 0, none⟩) L.length c) (by simp only [List.getElem?_toArray, List.getElem?_cons_zero, List.getElem?_cons_succ] <;> rfl) (by kernel_rfl) (by kernel_rfl) (by kernel_rfl) (by exact fun _ _ _ h => h) (by decide) hS (Or.inl ⟨by rfl, fun w _ => (by simp [execOp, go_sem, Act.eval])⟩) (fun hS => ?_)
      simp only [Act.put, List.setIfInBounds_toArray, List.set_cons_zero, List.set_cons_succ]
      refine wpAnyL_pure (i := 3) (v := .int .i64 (un : Int)) (by simp only [List.getElem?_toArray, List.getElem?_cons_zero, List.getElem?_cons_succ] <;> rfl) (by kernel_rfl) (by kernel_rfl) (by kernel_rfl) (by exact fun _ _ _ h => h) (by decide) hS (Or.inl ⟨by rfl, fun w _ => (by simp [execOp, go_sem, Act.eval])⟩) (fun hS => ?_)
      simp only [Act.put, List.setIfInBounds_toArray, List.set_cons_zero, List.set_cons_succ]
      refine wpAnyL_pure (i := 4) (v := .pointer (some ⟨g, un * 2, none⟩)) (by simp only [List.getElem?_toArray, List.getElem?_cons_zero, List.getElem?_cons_succ] <;> rfl) (by kernel_rfl) (by kernel_rfl) (by kernel_rfl) (by exact fun _ _ _ h => h) (by decide) hS (Or.inl ⟨by rfl, fun w _ => (by simp [execOp, go_sem, Act.eval, zu])⟩) (fun hS => ?_)
      simp only [Act.put, List.setIfInBounds_toArray, List.set_cons_zero, List.set_cons_succ]
      refine wpAnyL_load (i := 5) (v := encS t) (by simp only [List.getElem?_toArray, List.getElem?_cons_zero, List.getElem?_cons_succ] <;> rfl) (by kernel_rfl) (by kernel_rfl) (by kernel_rfl) (by exact fun _ _ _ h => h) (by decide) ⟨_, rfl, ⟨5, .data⟩, by simp, rfl, rfl⟩ (by kernel_rfl) hS (Or.inl ⟨by rfl, fun w hw => (by obtain ⟨⟨x0, x1⟩, x2, x3⟩ := hw; simp [execOp, go_sem, Act.eval, x0, x1])⟩) (fun hS => ?_)
      simp only [Act.put, List.setIfInBounds_toArray, List.set_cons_zero, List.set_cons_succ]
      refine wpAnyL_load (i := 6) (v := encS near) (by simp only [List.getElem?_toArray, List.getElem?_cons_zero, List.getElem?_cons_succ] <;> rfl) (by kernel_rfl) (by kernel_rfl) (by kernel_rfl) (by exact fun _ _ _ h => h) (by decide) ⟨_, rfl, ⟨6, .data⟩, by simp, rfl, rfl⟩ (by kernel_rfl) hS (Or.inl ⟨by rfl, fun w hw => (by obtain ⟨⟨x0, x1⟩, x2, x3⟩ := hw; simp [execOp, go_sem, Act.eval, x2, x3])⟩) (fun hS => ?_)
      simp only [Act.put, List.setIfInBounds_toArray, List.set_cons_zero, List.set_cons_succ]
      refine wpAnyL_pure (i := 8) (v := .int .i64 (un : Int)) (by simp only [List.getElem?_toArray, List.getElem?_cons_zero, List.getElem?_cons_succ] <;> rfl) (by kernel_rfl) (by kernel_rfl) (by kernel_rfl) (by exact fun _ _ _ h => h) (by decide) hS (Or.inl ⟨by rfl, fun w _ => (by simp [execOp, go_sem, Act.eval])⟩) (fun hS => ?_)
      simp only [Act.put, List.setIfInBounds_toArray, List.set_cons_zero, List.set_cons_succ]
      refine wpAnyL_pure (i := 10) (v := .int .i64 (vn : Int)) (by simp only [List.getElem?_toArray, List.getElem?_cons_zero, List.getElem?_cons_succ] <;> rfl) (by kernel_rfl) (by kernel_rfl) (by kernel_rfl) (by exact fun _ _ _ h => h) (by decide) hS (Or.inl ⟨by rfl, fun w _ => (by simp [execOp, go_sem, Act.eval])⟩) (fun hS => ?_)
      simp only [Act.put, List.setIfInBounds_toArray, List.set_cons_zero, List.set_cons_succ]
      refine wpAnyL_one (i := 7) (by kernel_rfl) (by simp only [List.getElem?_toArray, List.getElem?_cons_zero, List.getElem?_cons_succ] <;> rfl) (by rfl) ?_
      refine opwp_call (f := 59) (args := #[encS t, encS near]) (w' := wr.drew) (by simp [go_sem, Act.eval]) ?_
      refine (Union_c t near wr.drew).mono ?_
      rintro e w6 ⟨rfl, hb6⟩
      refine .inl ⟨_, rfl, .inl (by kernel_rfl), ?_⟩
      simp only [Act.put, List.setIfInBounds_toArray, List.set_cons_zero, List.set_cons_succ]
      refine wpAnyL_one (i := 9) (by kernel_rfl) (by simp only [List.getElem?_toArray, List.getElem?_cons_zero, List.getElem?_cons_succ] <;> rfl) (by rfl) ?_
      refine opwp_call (f := 60) (args := #[encS (t ||| near), .int .i64 (un : Int)]) (w' := w6) (by simp [go_sem, Act.eval]) ?_
      refine (Without_c (t ||| near) (un : Int) w6).mono ?_
      rintro e w7 ⟨rfl, hb7⟩
      refine .inl ⟨_, rfl, .inl (by kernel_rfl), ?_⟩
      simp only [Act.put, List.setIfInBounds_toArray, List.set_cons_zero, List.set_cons_succ]
      refine wpAnyL_one (i := 11) (by kernel_rfl) (by simp only [List.getElem?_toArray, List.getElem?_cons_zero, List.getElem?_cons_succ] <;> rfl) (by rfl) ?_
      refine opwp_call (f := 60) (args := #[encS (withoutV (t ||| near) (un : Int)), .int .i64 (vn : Int)]) (w' := w7) (by simp [go_sem, Act.eval]) ?_
      refine (Without_c (withoutV (t ||| near) (un : Int)) (vn : Int) w7).mono ?_
      rintro e w8 ⟨rfl, hb8⟩
      refine .inl ⟨_, rfl, .inl (by kernel_rfl), ?_⟩
      simp only [Act.put, List.setIfInBounds_toArray, List.set_cons_zero, List.set_cons_succ]
      refine wpAnyL_one (i := 12) (by kernel_rfl) (by simp only [List.getElem?_toArray, List.getElem?_cons_zero, List.getElem?_cons_succ] <;> rfl) (by rfl) ?_
      refine opwp_value (v := .pointer (some ⟨g, un * 2, none⟩)) (w' := w8) (by simp [execOp, go_sem, Act.eval, zu]) ⟨.inl (by kernel_rfl), ?_⟩
      simp only [Act.put, List.setIfInBounds_toArray, List.set_cons_zero, List.set_cons_succ]
      have hbb : Below wr.heap.size wr w8 := (((Below.refl _ wr).drew.trans hb6).trans (hb7.mono hb6.size)).trans (hb8.mono (Nat.le_trans hb6.size hb7.size))
      have hg8 : w8.heap[g]? = wr.heap[g]? := hbb.block g hROW.out.lt
      obtain ⟨t2, ht2, y0, y1, y2, y3⟩ := (hROW.out.same hg8).get un (by rw [hLR.out]; exact hlu)
      refine wpAnyL_one (i := 13) (by kernel_rfl) (by simp only [List.getElem?_toArray, List.getElem?_cons_zero, List.getElem?_cons_succ] <;> rfl) (by rfl) ?_
      refine opwp_skip (w' := (w8.setCell ⟨g, un * 2, none⟩ (.int .u64 ((lw (withoutV (withoutV (t ||| near) (un : Int)) (vn : Int))).toNat : Int))).setCell ⟨g, un * 2 + 1, none⟩ (.int .u64 ((hw (withoutV (withoutV (t ||| near) (un : Int)) (vn : Int))).toNat : Int))) (by simp [execOp, go_sem, Act.eval, y0, y1, y2, y3]) ⟨.inl (by kernel_rfl), ?_⟩
      simp only [Act.put]
      refine wpAnyL_done (by kernel_rfl) ?_ _
      have hst : ElSt w3 ((w8.setCell ⟨g, un * 2, none⟩ (.int .u64 ((lw (withoutV (withoutV (t ||| near) (un : Int)) (vn : Int))).toNat : Int))).setCell ⟨g, un * 2 + 1, none⟩ (.int .u64 ((hw (withoutV (withoutV (t ||| near) (un : Int)) (vn : Int))).toNat : Int))) g L near (vn : Int) (k + 1) := by
        refine ⟨?_, grownBy_then (grownBy_then hGREW.out (grownBy_of_below' hbb _)) (grownBy_set2 w8 g _ _ _ _)⟩
        have := (hROW.out.same hg8).store un (by rw [hLR.out]; exact hlu) (withoutV (withoutV (t ||| near) (un : Int)) (vn : Int))
        rw [HT.out, List.foldl_append, hML]
        show SetRow _ g (elStep near (vn : Int) M (un : Int))
        unfold elStep
        rw [Int.toNat_natCast, HGU.out]
        exact this
      clear hbb hg8 y0 y1 y2 y3 hS r0 r1 s0 s1 n0 n1
      go_wp2_with fail
      go_roundw
      case rel => exact ⟨k + 1, by omega, by go_num, hst⟩
      case measure => simp [intOf]; omega
    · obtain rfl : k = (mems near).length := by omega
      have hlr : (((mems near).take (mems near).length).foldl (elStep near (vn : Int)) L).length = L.length := elFold_length _ _ _ _
      obtain ⟨t2, ht2, y0, y1, y2, y3⟩ := st.row.get vn (by rw [hlr]; exact hv)
      have hfin := st.row.store vn (by rw [hlr]; exact hv) 0
      have hgr := grownBy_then st.grew (grownBy_set2 wr g (vn * 2) (vn * 2 + 1) (.int .u64 ((lw (0 : VS)).toNat : Int)) (.int .u64 ((hw (0 : VS)).toNat : Int)))
      rw [List.take_length] at hfin
      have HF := hid hfin
      have HGR := hid (grownBy_then (grownBy_of_below' hB3 (some g)) hgr)
      have HEL : Hid (elL L (vn : Int) = (((mems near).foldl (elStep near (vn : Int)) L).set vn 0)) := by
        show _ = _
        unfold elL elTo
        rw [HG.out, Int.toNat_natCast]
      clear hfin hgr hlr st ht2
      go_wp2_with fail
      refine bodyPost_ret (results_none rfl _ _ _) rfl ⟨rfl, ?_, HGR.out⟩
      rw [HEL.out]
      exact HF.out
end Go.Proofs.YthgkklahiclcpaaDoor
