/- Walks: a node more in a smooth form; the new places of inputs. -/
import Derived.Test.YtpdbfbjfodckgaaDoorHOwn
import Derived.Test.YtpdbfbjfodckgaaDoorHVars
namespace Go.Proofs.YtpdbfbjfodckgaaDoor
open Go.RowKit Go.Maps

theorem info_node : (Tryd.prog.info? 39).map (fun i => (i.zero, i.size, i.bytes)) = some (some (.agg #[.int .i64 0, .int .i64 0, .slice none 0 0]), 3, 40) := by kernel_rfl
/-- The maker of a smooth form, in memory. -/
structure SmAt (w : World) (B sb mb : Nat) (n : Int) (vL vB vOut vAt : Value) (out : List NodeT) (vs : List Value) (A : List Int) (ch : Int → Option Int) (k : Nat) : Prop where
  box : SmBox w sb n vL vB vOut vAt mb
  outs : OwnNodes w B vOut out vs
  ats : OwnInts w B vAt A
  map : MapAt w mb k ch
  far : ∀ u ∈ vs, ∀ j, u.ownBlock = some j → vAt.ownBlock ≠ some j
  hs : B ≤ sb
  hm : B ≤ mb
section
variable {w : World} {B sb mb : Nat} {n : Int} {vL vB vOut vAt : Value} {out : List NodeT} {vs : List Value} {A : List Int} {ch : Int → Option Int} {k : Nat}
theorem SmAt.keep {w' : World} (h : SmAt w B sb mb n vL vB vOut vAt out vs A ch k) (hf : Fr sb mb w w') {j : Nat} {cs : Array Value} {T : TypeId} {fr : Nat × Nat} (hj : w.heap[j]? = some (.cells cs T fr)) (h1 : T ≠ 57) (h2 : T ≠ 39) : w'.heap[j]? = w.heap[j]? := by
  refine hf.block j (Array.getElem?_eq_some_iff.1 hj).1 (fun e => ?_) (h.map.ne_cells hj) (fun e => ?_)
  · subst e
    have := h.box
    unfold SmBox at this
    rw [hj] at this
    injection this with this
    injection this with _ e _
    exact h1 e
  · rw [h.box.row] at e
    obtain ⟨cs', hc⟩ := own_type h.outs.row e
    rw [hj] at hc
    injection hc with hc
    injection hc with _ e _
    exact h2 e
theorem SmAt.below {w' : World} (h : SmAt w B sb mb n vL vB vOut vAt out vs A ch k) (hb : Below w.heap.size w w') : SmAt w' B sb mb n vL vB vOut vAt out vs A ch k :=
  ⟨h.box.same (hb.block _ h.box.lt), h.outs.below hb, h.ats.below hb, h.map.same (hb.block _ h.map.lt), h.far, h.hs, h.hm⟩
theorem SmAt.fr {w' : World} (h : SmAt w B sb mb n vL vB vOut vAt out vs A ch k) (hb : Below w.heap.size w w') : Fr sb mb w w' := Fr.of_below hb h.box.lt
theorem SmAt.low {w0 w' : World} (h : SmAt w w0.heap.size sb mb n vL vB vOut vAt out vs A ch k) (hf : Fr sb mb w w') (hb : Below w0.heap.size w0 w) : Below w0.heap.size w0 w' :=
  hf.below hb h.hs h.hm fun j e => (own_ge h.outs.row (by rw [← h.box.row]; exact e)).1
end
theorem OwnInts.made (w : World) (n : Nat) (hn : n ≤ 65536) : OwnInts (w.alloc (.cells (madeCells #[.int .i64 0] n) 3)) w.heap.size (.slice (some ⟨w.heap.size, 0, none⟩) n n) (List.replicate n 0) := by
  refine ⟨by simp, .inr ⟨w.heap.size, n, _, by simp, Nat.le_refl _, heap_alloc_new w _, by simp, by unfold maxLen; omega, by simp [size_madeCells], ?_⟩⟩
  apply List.ext_getElem?
  intro i
  by_cases h : i < n
  · simp [madeCells, h, Nat.mod_one]
  · rw [List.getElem?_eq_none (by simp; omega), List.getElem?_eq_none (by simp; omega)]
theorem fill_set {α : Type} (f : Int → α) (z : α) (l : List Int) (k : Nat) (h : k < l.length) : ((l.take k).map f ++ List.replicate (l.length - k) z).set k (f l[k]) = (l.take (k + 1)).map f ++ List.replicate (l.length - (k + 1)) z := by
  have hl : ((l.take k).map f).length = k := by rw [List.length_map, List.length_take]; omega
  obtain ⟨m, hm⟩ : ∃ m, l.length - k = m + 1 := ⟨l.length - k - 1, by omega⟩
  rw [List.set_append_right _ _ (by omega), hl, Nat.sub_self, hm, List.replicate_succ, List.set_cons_zero, List.take_succ_eq_append_getElem h, List.map_append, List.append_assoc]
  congr 2
  rw [show l.length - (k + 1) = m by omega]
  rfl
set_option maxRecDepth 100000 in
set_option maxHeartbeats 4000000 in
theorem moved_c (w : World) (sb mb : Nat) (n : Int) (vL vB vOut vAt vi : Value) (A ins : List Int) (hb : SmBox w sb n vL vB vOut vAt mb) (hA : IntsAt w vAt A) (hI : IntsAt w vi ins) (hin : ∀ x ∈ ins, 0 ≤ x ∧ x < (A.length : Int)) (hl : ins.length ≤ 65536) :
    Calls Tryd.prog 38 #[.pointer (some ⟨sb, 0, none⟩), vi] w (fun e w' => ∃ g, e = .returned (.slice (some ⟨g, 0, none⟩) ins.length ins.length) ∧ w.heap.size ≤ g ∧ OwnInts w' w.heap.size (.slice (some ⟨g, 0, none⟩) ins.length ins.length) (ins.map (iOf A)) ∧ Below w.heap.size w w') := by
  obtain ⟨p, c, rfl, hI⟩ := hI
  obtain ⟨pa, ca, rfl, hA⟩ := hA
  have HI := hid hI
  have HA := hid hA
  have HIN := hid hin
  have HBX := hid hb
  have hsl := hb.lt
  have HB1 := hid ((Below.refl _ w).alloc (Nat.le_refl _) (.cells (madeCells #[.int .i64 0] ins.length) 3))
  have hmk := fun w' => make_ints w' ins.length (by omega) (ins.length : Int) (ins.length : Int) rfl rfl
  have HR := hid (show OwnInts (w.alloc (.cells (madeCells #[.int .i64 0] ins.length) 3)) w.heap.size (.slice (some ⟨w.heap.size, 0, none⟩) ins.length ins.length) ((ins.take 0).map (iOf A) ++ List.replicate (ins.length - 0) 0) from OwnInts.made w ins.length hl)
  clear hI hA hin hb
  go_enter Tryd.func38, Tryd.ntmps38
  go_wp2_with fail
  go_loopw [13] (fun z wr => ∃ (k : Nat), k ≤ ins.length ∧ z = .int .i64 k ∧ Hid (OwnInts wr w.heap.size (.slice (some ⟨w.heap.size, 0, none⟩) ins.length ins.length) ((ins.take k).map (iOf A) ++ List.replicate (ins.length - k) 0)) ∧ Hid (Below w.heap.size w wr)) (fun z _ => ins.length - (intOf z).toNat)
  case atStart => exact ⟨0, Nat.zero_le _, rfl, HR.out, HB1.out⟩
  case round =>
    clear HR HB1 hmk
    obtain ⟨k, hk, rfl, hrow, hbr⟩ := hrel
    by_cases hkl : k < ins.length
    · obtain ⟨p3, c3, e3, h3⟩ := show IntsAt wr (.slice p ins.length c) ins from (show IntsAt w (.slice p ins.length c) ins from ⟨_, _, rfl, HI.out⟩).below hbr.out
      injection e3 with e1 e0 e2
      clear e0
      subst e1; subst e2
      obtain ⟨b2, o2, rfl, hc⟩ := h3.resolve_left (by intro e; rw [e] at hkl; simp at hkl)
      have hcj := hc k hkl
      rw [List.getElem?_eq_getElem hkl, Option.getD_some] at hcj
      have hin := HIN.out _ (List.getElem_mem hkl)
      have hfs := fill_set (iOf A) 0 ins k hkl
      obtain ⟨q, hq⟩ : ∃ q : Nat, ins[k] = (q : Int) := ⟨ins[k].toNat, by omega⟩
      rw [hq] at hcj hin hfs
      have hql : q < A.length := by omega
      rw [iOf_nat A q hql] at hfs
      obtain ⟨p4, c4, e4, h4⟩ := show IntsAt wr (.slice pa A.length ca) A from (show IntsAt w (.slice pa A.length ca) A from ⟨_, _, rfl, HA.out⟩).below hbr.out
      injection e4 with e1 e0 e2
      clear e0
      subst e1; subst e2
      obtain ⟨b5, o5, rfl, hc5⟩ := h4.resolve_left (by intro e; rw [e] at hql; simp at hql)
      have hca := hc5 q hql
      rw [List.getElem?_eq_getElem hql, Option.getD_some] at hca
      obtain ⟨_, s1, s2, _, _, s5, _⟩ := (HBX.out.same (hbr.out.block _ hsl)).get
      have hlr : ((ins.take k).map (iOf A) ++ List.replicate (ins.length - k) 0).length = ins.length := by simp; omega
      obtain ⟨g, cg, eg, _, hgl, hcg⟩ := hrow.out.cells (by rw [hlr]; omega)
      injection eg with eg1 eg2 eg3
      injection eg1 with eg1
      injection eg1 with eg1 _ _
      clear eg2 eg3
      subst eg1
      obtain ⟨yv, y0⟩ : ∃ yv : Int, wr.cell? ⟨w.heap.size, k, none⟩ = some (.int .i64 yv) := ⟨_, (hcg k (by rw [hlr]; exact hkl)).1⟩
      have y1 := (hcg k (by rw [hlr]; exact hkl)).2
      have HST := hid (hrow.out.store k (by rw [hlr]; exact hkl) A[q])
      rw [hfs] at HST
      have zk : (0 : Int) ≤ (k : Int) ∧ (k : Int) < (ins.length : Int) := by omega
      have zq : (0 : Int) ≤ (q : Int) ∧ (q : Int) < (A.length : Int) := by omega
      have HBR := hid (hbr.out.setCell (p := ⟨w.heap.size, k, none⟩) (Nat.le_refl _) (.int .i64 A[q]))
      generalize A[q] = z at *
      clear hc hin hfs hq h3 h4 hc5 hlr hcg hrow hbr
      go_wp2_with fail
      go_roundw
      case rel => exact ⟨k + 1, by omega, by go_num, HST.out, HBR.out⟩
      case measure => simp [intOf]; omega
    · obtain rfl : k = ins.length := by omega
      rw [List.take_length, Nat.sub_self, List.replicate_zero, List.append_nil] at hrow
      have HR := hid hrow.out
      have HBR := hid hbr.out
      clear hrow hbr
      go_wp2_with fail
      go_ret
      exact ⟨_, rfl, Nat.le_refl _, HR.out, HBR.out⟩

theorem fr_step {sb mb gg m c : Nat} {w2 w9 : World} {n : Int} {vL vB vOut vAt : Value} (hbx : SmBox w2 sb n vL vB vOut vAt mb) (hbx9 : SmBox w9 sb n vL vB vOut vAt mb) (hg : w2.grownBy w9 vOut.ownBlock) (hat : vOut.ownBlock = some gg ∨ gg = w2.heap.size) :
    Fr sb mb w2 (w9.setCell ⟨sb, 4, none⟩ (.slice (some ⟨gg, 0, none⟩) m c)) := by
  have hr9 := (hbx9.out (.slice (some ⟨gg, 0, none⟩) m c)).row
  refine ⟨hg.os, hg.tape, hg.output, by simpa [World.setCell] using hg.size, fun k hk h1 _ h3 => ?_, ?_⟩
  · rw [Below.heap_setCell _ _ _ _ (by exact h1)]
    exact hg.block k hk (fun e => h3 (by rw [hbx.row]; exact e.symm))
  · rw [hr9, hbx.row]
    rcases hat with e | e
    · exact .inl e.symm
    · exact .inr ⟨gg, rfl, by omega⟩
set_option maxRecDepth 100000 in
set_option maxHeartbeats 4000000 in
theorem add_c (w : World) (B sb mb : Nat) (n : Int) (vL vB vOut vAt : Value) (out : List NodeT) (vs : List Value) (A : List Int) (ch : Int → Option Int) (k : Nat) (h : SmAt w B sb mb n vL vB vOut vAt out vs A ch k) (hB : B ≤ w.heap.size)
    (xk xl : Int) (xi : List Int) (u : Value) (hu : OwnInts w B u xi) (hx : xi.length ≤ 16777216) (hfar : ∀ j, u.ownBlock = some j → vAt.ownBlock ≠ some j) (hlen : out.length ≤ 16777215) :
    Calls Tryd.prog 40 #[.pointer (some ⟨sb, 0, none⟩), .agg #[.int .i64 xk, .int .i64 xl, u]] w
      (fun e w' => e = .returned (.int .i64 (out.length : Int)) ∧ (∃ vOut', SmAt w' B sb mb n vL vB vOut' vAt (out ++ [⟨xk, xl, xi⟩]) (vs ++ [u]) A ch k) ∧ Fr sb mb w w') := by
  obtain ⟨i0, hi0, hz0, hz1, hz2⟩ := info_parts info_node
  have hb1 : Below w.heap.size w (w.alloc (.cells #[.int .i64 xk, .int .i64 xl, u] 39)) := (Below.refl _ w).alloc (Nat.le_refl _) _
  have HS1 := hid (h.below hb1)
  have HF1 := hid (h.fr hb1)
  have HU1 := hid (hu.below hb1)
  have hxb := Box3.new w 39 (.int .i64 xk) (.int .i64 xl) u
  have HFAR := hid hfar
  have hsb : sb < w.heap.size := h.box.lt
  obtain ⟨pu, cu, rfl, hdrop⟩ := hu.ints
  have C4 : Hid ((w.alloc (.cells #[.int .i64 xk, .int .i64 xl, .slice pu xi.length cu] 39)).drew.cell? ⟨sb, 4, none⟩ = some vOut) := HS1.out.box.get.2.2.2.2.1
  have X0 : Hid ((w.alloc (.cells #[.int .i64 xk, .int .i64 xl, .slice pu xi.length cu] 39)).drew.cell? ⟨w.heap.size, 0, none⟩ = some (.int .i64 xk)) := hxb.cells.1
  have X1 : Hid ((w.alloc (.cells #[.int .i64 xk, .int .i64 xl, .slice pu xi.length cu] 39)).drew.cell? ⟨w.heap.size, 1, none⟩ = some (.int .i64 xl)) := hxb.cells.2.1
  have X2 : Hid ((w.alloc (.cells #[.int .i64 xk, .int .i64 xl, .slice pu xi.length cu] 39)).drew.cell? ⟨w.heap.size, 2, none⟩ = some (.slice pu xi.length cu)) := hxb.cells.2.2
  have HSZ := hid (show B ≤ (w.alloc (.cells #[.int .i64 xk, .int .i64 xl, .slice pu xi.length cu] 39)).heap.size from by rw [World.size_alloc]; omega)
  clear hdrop hu hfar hb1 hxb h
  go_enter Tryd.func40, Tryd.ntmps40
  go_wp2_with fail
  generalize w.alloc (.cells #[.int .i64 xk, .int .i64 xl, .slice pu xi.length cu] 39) = w1 at *
  refine Go.Proofs.YtpdbfbjfodckgaaDoor.wp_region_L 13 8 (fun w' => w'.cell? ⟨sb, 4, none⟩ = some (vOut) ∧ w'.cell? ⟨w.heap.size, 0, none⟩ = some (.int .i64 xk) ∧ w'.cell? ⟨w.heap.size, 1, none⟩ = some (.int .i64 xl) ∧ w'.cell? ⟨w.heap.size, 2, none⟩ = some (.slice pu xi.length cu)) (by kernel_rfl) rfl ⟨C4.out, X0.out, X1.out, X2.out⟩ (fun _ => ?_)
  refine wpAnyL_pure (i := 0) (v := .pointer (some ⟨sb, 0, none⟩)) (by simp only [List.getElem?_toArray, List.getElem?_cons_zero] <;> rfl) (by kernel_rfl) (by kernel_rfl) (by kernel_rfl) (by exact fun _ _ _ h => h) (by decide) (.inr ⟨C4.out, X0.out, X1.out, X2.out⟩) (Or.inl ⟨by rfl, fun w _ => (by simp [execOp, go_sem, Act.eval])⟩) (fun _ => ?_)
  simp only [Act.put, List.setIfInBounds_toArray, List.set_cons_zero, List.set_cons_succ]
  refine wpAnyL_pure (i := 1) (v := .pointer (some ⟨sb, 0, none⟩)) (by simp only [List.getElem?_toArray, List.getElem?_cons_zero, List.getElem?_cons_succ] <;> rfl) (by kernel_rfl) (by kernel_rfl) (by kernel_rfl) (by exact fun _ _ _ h => h) (by decide) (.inr ⟨C4.out, X0.out, X1.out, X2.out⟩) (Or.inl ⟨by rfl, fun w _ => (by simp [execOp, go_sem, Act.eval])⟩) (fun _ => ?_)
  simp only [Act.put, List.setIfInBounds_toArray, List.set_cons_zero, List.set_cons_succ]
  refine wpAnyL_pure (i := 2) (v := .pointer (some ⟨sb, 0, none⟩)) (by simp only [List.getElem?_toArray, List.getElem?_cons_zero, List.getElem?_cons_succ] <;> rfl) (by kernel_rfl) (by kernel_rfl) (by kernel_rfl) (by exact fun _ _ _ h => h) (by decide) (.inr ⟨C4.out, X0.out, X1.out, X2.out⟩) (Or.inl ⟨by rfl, fun w _ => (by simp [execOp, go_sem, Act.eval])⟩) (fun _ => ?_)
  simp only [Act.put, List.setIfInBounds_toArray, List.set_cons_zero, List.set_cons_succ]
  refine wpAnyL_pure (i := 3) (v := .pointer (some ⟨sb, 3, none⟩)) (by simp only [List.getElem?_toArray, List.getElem?_cons_zero, List.getElem?_cons_succ] <;> rfl) (by kernel_rfl) (by kernel_rfl) (by kernel_rfl) (by exact fun _ _ _ h => h) (by decide) (.inr ⟨C4.out, X0.out, X1.out, X2.out⟩) (Or.inl ⟨by rfl, fun w _ => (by simp [execOp, go_sem, Act.eval])⟩) (fun _ => ?_)
  simp only [Act.put, List.setIfInBounds_toArray, List.set_cons_zero, List.set_cons_succ]
  refine wpAnyL_pure (i := 4) (v := .pointer (some ⟨sb, 4, none⟩)) (by simp only [List.getElem?_toArray, List.getElem?_cons_zero, List.getElem?_cons_succ] <;> rfl) (by kernel_rfl) (by kernel_rfl) (by kernel_rfl) (by exact fun _ _ _ h => h) (by decide) (.inr ⟨C4.out, X0.out, X1.out, X2.out⟩) (Or.inl ⟨by rfl, fun w _ => (by simp [execOp, go_sem, Act.eval])⟩) (fun _ => ?_)
  simp only [Act.put, List.setIfInBounds_toArray, List.set_cons_zero, List.set_cons_succ]
  refine wpAnyL_load2 (i := 5) (v := vOut) (by simp only [List.getElem?_toArray, List.getElem?_cons_zero, List.getElem?_cons_succ] <;> rfl) (by kernel_rfl) (by kernel_rfl) (by kernel_rfl) (by exact fun _ _ _ h => h) (by decide) (Waits.one rfl ⟨⟨5, .data⟩, by simp, rfl, rfl⟩) (by kernel_rfl) (by kernel_rfl) (.inr ⟨C4.out, X0.out, X1.out, X2.out⟩) (Or.inl ⟨by rfl, fun w hw => (by obtain ⟨x0, _, _, _⟩ := hw; simp [execOp, go_sem, Act.eval, x0])⟩) (fun _ => ?_)
  simp only [Act.put, List.setIfInBounds_toArray, List.set_cons_zero, List.set_cons_succ]
  refine wpAnyL_load2 (i := 6) (v := .agg #[.int .i64 xk, .int .i64 xl, .slice pu xi.length cu]) (by simp only [List.getElem?_toArray, List.getElem?_cons_zero, List.getElem?_cons_succ] <;> rfl) (by kernel_rfl) (by kernel_rfl) (by kernel_rfl) (by exact fun _ _ _ h => h) (by decide) (Waits.more (j := 7) rfl ⟨⟨7, .data⟩, by simp, rfl, rfl⟩ (Waits.one rfl ⟨⟨6, .data⟩, by simp, rfl, rfl⟩)) (by kernel_rfl) (by kernel_rfl) (.inr ⟨C4.out, X0.out, X1.out, X2.out⟩) (Or.inl ⟨by rfl, fun w hw => (by obtain ⟨_, x1, x2, x3⟩ := hw; simp [execOp, go_sem, Act.eval, x1, x2, x3])⟩) (fun _ => ?_)
  simp only [Act.put, List.setIfInBounds_toArray, List.set_cons_zero, List.set_cons_succ]
  have hbA : Below w1.drew.heap.size w1.drew (w1.drew.alloc (.cells #[.int .i64 xk, .int .i64 xl, .slice pu xi.length cu] 39)) := (Below.refl _ w1.drew).alloc (Nat.le_refl _) _
  have ha_0 := hid ((hbA.cell (cell_lt C4.out)).trans C4.out)
  have ha_1 := hid ((hbA.cell (cell_lt X0.out)).trans X0.out)
  have ha_2 := hid ((hbA.cell (cell_lt X1.out)).trans X1.out)
  have ha_3 := hid ((hbA.cell (cell_lt X2.out)).trans X2.out)
  refine wpAnyL_one (i := 7) (by kernel_rfl) (by simp only [List.getElem?_toArray, List.getElem?_cons_zero, List.getElem?_cons_succ] <;> rfl) (by rfl) ?_
  refine opwp_value (v := .slice (some ⟨w1.heap.size, 0, none⟩) 1 1) (w' := w1.drew.alloc (.cells #[.int .i64 xk, .int .i64 xl, .slice pu xi.length cu] 39)) (by simp [execOp, go_sem, Act.eval]) ⟨.inr ⟨ha_0.out, ha_1.out, ha_2.out, ha_3.out⟩, ?_⟩
  simp only [Act.put, List.setIfInBounds_toArray, List.set_cons_zero, List.set_cons_succ]
  refine wpAnyL_one (i := 8) (by kernel_rfl) (by simp only [List.getElem?_toArray, List.getElem?_cons_zero, List.getElem?_cons_succ] <;> rfl) (by rfl) ?_
  have HS2 := hid (HS1.out.below (w' := w1.drew.alloc (.cells #[.int .i64 xk, .int .i64 xl, .slice pu xi.length cu] 39)) ((Below.refl _ w1).drew.trans hbA))
  refine wp_append_lies _ _ _ 22 rfl B 39 i0 (.agg #[.int .i64 0, .int .i64 0, .slice none 0 0]) 3 40 Tryd.underlying22 hi0 hz0 hz1 hz2 rfl (by decide) vOut out.length (nodeCells out vs) rfl HS2.out.outs.row ⟨w1.heap.size, 0, none⟩ 1 1 [.int .i64 xk, .int .i64 xl, .slice pu xi.length cu] rfl (by simp) (World.news_of_block (heap_alloc_new w1.drew _)) (by simp [Value.oneCell']) (by omega) (by unfold maxLen; omega) (by omega) (by have := HSZ.out; rw [World.size_alloc]; show B ≤ w1.heap.size + 1; omega) _ rfl ?_
  intro gg cap w9 hown9 hgrow9 hat9 hlt9
  refine ⟨.inl (by kernel_rfl), ?_⟩
  simp only [Act.put, List.setIfInBounds_toArray, List.set_cons_zero, List.set_cons_succ]
  have hne9 : vOut.ownBlock ≠ some sb := fun e => by obtain ⟨cs, hc⟩ := own_type HS2.out.outs.row e; have := HS2.out.box; unfold SmBox at this; rw [hc] at this; injection this with this; injection this with _ e _; cases e
  have hbx9 := HS2.out.box.same (hgrow9.block sb HS2.out.box.lt (fun e => hne9 e.symm))
  have y4 := hbx9.get.2.2.2.2.1
  have f4 := hbx9.free 4
  refine wpAnyL_pure (i := 9) (v := .pointer (some ⟨sb, 0, none⟩)) (by simp only [List.getElem?_toArray, List.getElem?_cons_zero, List.getElem?_cons_succ] <;> rfl) (by kernel_rfl) (by kernel_rfl) (by kernel_rfl) (by exact fun _ _ _ h => h) (by decide) (.inl (by kernel_rfl)) (Or.inl ⟨by rfl, fun w _ => (by simp [execOp, go_sem, Act.eval])⟩) (fun _ => ?_)
  simp only [Act.put, List.setIfInBounds_toArray, List.set_cons_zero, List.set_cons_succ]
  refine wpAnyL_pure (i := 10) (v := .pointer (some ⟨sb, 3, none⟩)) (by simp only [List.getElem?_toArray, List.getElem?_cons_zero, List.getElem?_cons_succ] <;> rfl) (by kernel_rfl) (by kernel_rfl) (by kernel_rfl) (by exact fun _ _ _ h => h) (by decide) (.inl (by kernel_rfl)) (Or.inl ⟨by rfl, fun w _ => (by simp [execOp, go_sem, Act.eval])⟩) (fun _ => ?_)
  simp only [Act.put, List.setIfInBounds_toArray, List.set_cons_zero, List.set_cons_succ]
  refine wpAnyL_pure (i := 11) (v := .pointer (some ⟨sb, 4, none⟩)) (by simp only [List.getElem?_toArray, List.getElem?_cons_zero, List.getElem?_cons_succ] <;> rfl) (by kernel_rfl) (by kernel_rfl) (by kernel_rfl) (by exact fun _ _ _ h => h) (by decide) (.inl (by kernel_rfl)) (Or.inl ⟨by rfl, fun w _ => (by simp [execOp, go_sem, Act.eval])⟩) (fun _ => ?_)
  simp only [Act.put, List.setIfInBounds_toArray, List.set_cons_zero, List.set_cons_succ]
  refine wpAnyL_one (i := 12) (by kernel_rfl) (by simp only [List.getElem?_toArray, List.getElem?_cons_zero, List.getElem?_cons_succ] <;> rfl) (by rfl) ?_
  refine opwp_skip (w' := (w9.setCell ⟨sb, 4, none⟩ (.slice (some ⟨gg, 0, none⟩) (out.length + 1) cap))) (by simp [execOp, go_sem, Act.eval, y4, f4]) ⟨.inl (by kernel_rfl), ?_⟩
  simp only [Act.put]
  refine wpAnyL_done (by kernel_rfl) ?_ _
  have hint : ∀ (j : Nat) (cs : Array Value), (w1.drew.alloc (.cells #[.int .i64 xk, .int .i64 xl, .slice pu xi.length cu] 39)).heap[j]? = some (Obj.cells cs 3 (0, 0)) → w9.heap[j]? = (w1.drew.alloc (.cells #[.int .i64 xk, .int .i64 xl, .slice pu xi.length cu] 39)).heap[j]? := fun j cs hj =>
    hgrow9.block j (Array.getElem?_eq_some_iff.1 hj).1 (fun e => by
      obtain ⟨cs', hc⟩ := own_type HS2.out.outs.row e.symm
      rw [hj] at hc
      injection hc with hc
      injection hc with _ e _
      cases e)
  have HF9 := hid (HF1.out.trans ((Fr.of_below (mb := mb) ((Below.refl _ w1).drew.trans hbA) HS1.out.box.lt).trans (fr_step (m := out.length + 1) (c := cap) HS2.out.box hbx9 hgrow9 hat9)))
  have hn9 := HS2.out.outs.snoc (x := ⟨xk, xl, xi⟩) (HU1.out.below (w' := w1.drew.alloc (.cells #[.int .i64 xk, .int .i64 xl, .slice pu xi.length cu] 39)) ((Below.refl _ w1).drew.trans hbA)) hx hown9 hint
  have hsbn : ∀ (j : Nat) (cs : Array Value) (T : TypeId), w9.heap[j]? = some (.cells cs T (0, 0)) → T ≠ 57 → j ≠ sb := fun j cs T hj hT e => by
    subst e
    unfold SmBox at hbx9
    rw [hj] at hbx9
    injection hbx9 with hbx9
    injection hbx9 with _ e _
    exact hT e
  have hmap9 : MapAt (w9.setCell ⟨sb, 4, none⟩ (.slice (some ⟨gg, 0, none⟩) (out.length + 1) cap)) mb k ch := by
    refine HS2.out.map.same ?_
    rw [Below.heap_setCell _ _ _ _ (by exact fun e => HS2.out.map.ne_cells HS2.out.box e.symm)]
    exact hgrow9.block mb HS2.out.map.lt (fun e => by obtain ⟨cs, hc⟩ := own_type HS2.out.outs.row e.symm; exact HS2.out.map.ne_cells hc rfl)
  have HS9 := hid (show SmAt (w9.setCell ⟨sb, 4, none⟩ (.slice (some ⟨gg, 0, none⟩) (out.length + 1) cap)) B sb mb n vL vB (.slice (some ⟨gg, 0, none⟩) (out.length + 1) cap) vAt (out ++ [⟨xk, xl, xi⟩]) (vs ++ [.slice pu xi.length cu]) A ch k from by
    refine ⟨hbx9.out _, ?_, ?_, hmap9, ?_, HS2.out.hs, HS2.out.hm⟩
    · refine hn9.same (fun j hj => ?_) (fun y hy j hj => ?_)
      · obtain ⟨cs, hc⟩ := own_type hn9.row hj
        exact Below.heap_setCell _ _ _ _ (hsbn j cs _ hc (by decide))
      · obtain ⟨_, _, cs, hc⟩ := hn9.in_lt hy hj
        exact Below.heap_setCell _ _ _ _ (hsbn j cs _ hc (by decide))
    · refine own_same HS2.out.ats (fun j hj => ?_)
      obtain ⟨cs, hc⟩ := own_type HS2.out.ats hj
      have h9 := hint j cs hc
      rw [← h9]
      exact Below.heap_setCell _ _ _ _ (hsbn j cs _ (h9.trans hc) (by decide))
    · intro y hy j hj
      rcases List.mem_append.1 hy with h1 | h1
      · exact HS2.out.far y h1 j hj
      · rw [List.mem_singleton] at h1
        subst h1
        exact HFAR.out j hj)
  obtain ⟨_, _, _, _, z4, _, _⟩ := HS9.out.box.get
  generalize w9.setCell ⟨sb, 4, none⟩ (.slice (some ⟨gg, 0, none⟩) (out.length + 1) cap) = w10 at *
  clear hint hn9 hsbn hmap9 hbx9 hown9 hgrow9 hat9 hlt9 hne9 y4 f4 HS2 HS1 hbA HU1 HF1 C4 X0 X1 X2
  go_wp2_with fail
  go_ret
  exact ⟨by go_num, ⟨_, HS9.out⟩, HF9.out⟩
end Go.Proofs.YtpdbfbjfodckgaaDoor
