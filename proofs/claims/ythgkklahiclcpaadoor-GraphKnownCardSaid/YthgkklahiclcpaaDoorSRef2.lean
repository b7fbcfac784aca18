/- Walks: the reference of the layer graph: join and eliminate. -/
import Derived.Test.YthgkklahiclcpaaDoorSRef
namespace Go.Proofs.YthgkklahiclcpaaDoor
open Go.RowKit
attribute [local go_sem ↓] run_eqlS run_neqS run_eqlS0 run_neqS0

/-- A list of sets in new memory. -/
def NewS (L : List VS) (w : World) (e : Ending) (w' : World) : Prop := ∃ g c, e = .returned (.slice (some ⟨g, 0, none⟩) L.length c) ∧ w.heap.size ≤ g ∧ SetRow w' g L ∧ Below w.heap.size w w' ∧ L.length ≤ c ∧ c ≤ maxLen
set_option maxRecDepth 100000 in
set_option maxHeartbeats 4000000 in
theorem rJoin_c (v : Value) (L : List VS) (an bn : Nat) (w : World) (hI : SetsAt w v L) (ha : an < L.length) (hb : bn < L.length) (hl : L.length ≤ 129) :
    Calls Tryd.prog 55 #[v, .int .i64 (an : Int), .int .i64 (bn : Int)] w (NewS (joinL L (an : Int) (bn : Int)) w) := by
  obtain ⟨p, c, rfl, h⟩ := hI
  have hne : L ≠ [] := by rintro rfl; simp at ha
  obtain ⟨b, off, rfl, hc⟩ := h.resolve_left hne
  obtain ⟨i0, hi, hz0, hz1, hz2⟩ := info_parts info_set
  have hb1 : Below w.heap.size w (w.alloc (.cells #[] 35)) := (Below.refl _ w).alloc (Nat.le_refl _) _
  have hpos : 0 < L.length := List.length_pos_iff.2 hne
  have HC := hid (SetsAt.cells (w := w.alloc (.cells #[] 35)) fun i hi => (hc i hi).below hb1)
  have za : (0 : Int) ≤ (an : Int) ∧ (an : Int) < (L.length : Int) := by omega
  have zb : (0 : Int) ≤ (bn : Int) ∧ (bn : Int) < (L.length : Int) := by omega
  have HNE := hid hne
  clear hc h hne
  go_enter Tryd.func55, Tryd.ntmps55
  go_wp2_with (at_builtin; refine wpList_append_grows _ rfl _ _ 22 rfl 35 i0 (encS 0) 2 16 Tryd.underlying22 hi hz0 hz1 hz2 rfl (by decide) (some ⟨w.heap.size, 0, none⟩) 0 0 [] rfl (fun e => by cases e) rfl (fun b hb j u hj => by simp at hj) ⟨b, off, none⟩ L.length c (setCells L) rfl (setCells_length L) HC.out (setCells_one L) (by omega) (by unfold maxLen; omega) (by omega) ?_; intro v' w2 hown hgr; rw [Nat.zero_add, List.nil_append] at hown; obtain ⟨g, c', rfl, hg, hR, h1, h2⟩ := ownsRow_sets hown HNE.out; obtain ⟨t, hgt, r0, r1, f0, f1⟩ := hR.get an ha)
  have hgw : w.heap.size ≤ g := by simp at hg; omega
  have hB2 := hb1.grown hgr (by simp) (fun k e => by cases e)
  have HGT := hid hgt
  clear hown hgr hg hgt
  refine (rWith_c t (bn : Int) w2).mono ?_
  rintro e w3 ⟨rfl, hb3⟩
  have hR3 := hR.below hb3 hR.lt
  have hB3 := hB2.trans (hb3.mono hB2.size)
  clear r0 r1 f0 f1 hR hB2 hb3
  obtain ⟨t', ht', r0, r1, f0, f1⟩ := hR3.get an ha
  have hR4 := hR3.store an ha (withV t (bn : Int))
  obtain ⟨s, hgs, s0, s1, e0, e1⟩ := hR4.get bn (by simpa using hb)
  have hB4 := hB3.grown (grownBy_set2 w3 g (an * 2) (an * 2 + 1) (.int .u64 ((lw (withV t (bn : Int))).toNat : Int)) (.int .u64 ((hw (withV t (bn : Int))).toNat : Int))) hB3.size (fun k e => by injection e with e; omega)
  go_wp2_with fail
  generalize (w3.setCell ⟨g, an * 2, none⟩ (.int .u64 ((lw (withV t (bn : Int))).toNat : Int))).setCell ⟨g, an * 2 + 1, none⟩ (.int .u64 ((hw (withV t (bn : Int))).toNat : Int)) = w4 at *
  refine (rWith_c s (an : Int) w4).mono ?_
  rintro e w5 ⟨rfl, hb5⟩
  have hR5 := hR4.below hb5 hR4.lt
  have hB5 := hB4.trans (hb5.mono hB4.size)
  clear r0 r1 f0 f1 s0 s1 e0 e1 hR3 hB3 hb5
  obtain ⟨t5, ht5, s0, s1, e0, e1⟩ := hR5.get bn (by simpa using hb)
  have hR6 := hR5.store bn (by simpa using hb) (withV s (an : Int))
  have hB6 := hB5.grown (grownBy_set2 w5 g (bn * 2) (bn * 2 + 1) (.int .u64 ((lw (withV s (an : Int))).toNat : Int)) (.int .u64 ((hw (withV s (an : Int))).toNat : Int))) hB5.size (fun k e => by injection e with e; omega)
  have HE : Hid (joinL L (an : Int) (bn : Int) = (L.set an (withV t (bn : Int))).set bn (withV s (an : Int))) := by
    show _ = _
    unfold joinL
    rw [Int.toNat_natCast, Int.toNat_natCast, HGT.out, hgs]
  go_wp2_with fail
  go_ret
  refine ⟨g, c', by rw [joinL_length]; rfl, hgw, by rw [HE.out]; exact hR6, hB6, by rw [joinL_length]; exact h1, h2⟩
/-- A pair's two numbers in the list. -/
theorem flat_get : ∀ (ps : List (Int × Int)) (j : Nat) (h : j < ps.length), (flat ps)[2 * j]? = some ps[j].1 ∧ (flat ps)[2 * j + 1]? = some ps[j].2
  | [], j, h => by simp at h
  | p :: ps, 0, _ => ⟨rfl, rfl⟩
  | p :: ps, j + 1, h => by
    have := flat_get ps j (by simpa using h)
    rw [show 2 * (j + 1) = 2 * j + 1 + 1 by omega, show 2 * j + 1 + 1 + 1 = (2 * j + 1) + 1 + 1 from rfl]
    unfold flat at *
    rw [List.flatMap_cons]
    simpa using this
theorem joinAll_snoc (L : List VS) (ps : List (Int × Int)) (p : Int × Int) : joinAll L (ps ++ [p]) = joinL (joinAll L ps) p.1 p.2 := by
  unfold joinAll; rw [List.foldl_append]; rfl
structure ElrSt (w3 wr : World) (u : Value) (L : List VS) : Prop where
  own : ∃ g c, u = .slice (some ⟨g, 0, none⟩) L.length c ∧ w3.heap.size ≤ g ∧ SetRow wr g L ∧ L.length ≤ c ∧ c ≤ maxLen
  low : Below w3.heap.size w3 wr
set_option maxRecDepth 100000 in
set_option maxHeartbeats 4000000 in
theorem rEliminate_c (v : Value) (L : List VS) (vn : Nat) (w : World) (hI : SetsAt w v L) (hv : vn < L.length) (hV : ValidG L) :
    Calls Tryd.prog 51 #[v, .int .i64 (vn : Int)] w (NewS (elR L (vn : Int)) w) := by
  have hl := hV.le
  have hI0 := hI
  obtain ⟨p, c, rfl, h⟩ := hI
  have hne : L ≠ [] := by rintro rfl; simp at hv
  obtain ⟨b, off, rfl, hc⟩ := h.resolve_left hne
  obtain ⟨i0, hi, hz0, hz1, hz2⟩ := info_parts info_set
  have hb1 : Below w.heap.size w (w.alloc (.cells #[] 35)) := (Below.refl _ w).alloc (Nat.le_refl _) _
  have hpos : 0 < L.length := List.length_pos_iff.2 hne
  have HC := hid (SetsAt.cells (w := w.alloc (.cells #[] 35)) fun i hi => (hc i hi).below hb1)
  have zv : (0 : Int) ≤ (vn : Int) ∧ (vn : Int) < (L.length : Int) := by omega
  have HNE := hid hne
  have HV := hid hV
  clear hc h hne hV
  go_enter Tryd.func51, Tryd.ntmps51
  go_wp2_with (at_builtin; refine wpList_append_grows _ rfl _ _ 22 rfl 35 i0 (encS 0) 2 16 Tryd.underlying22 hi hz0 hz1 hz2 rfl (by decide) (some ⟨w.heap.size, 0, none⟩) 0 0 [] rfl (fun e => by cases e) rfl (fun b hb j u hj => by simp at hj) ⟨b, off, none⟩ L.length c (setCells L) rfl (setCells_length L) HC.out (setCells_one L) (by omega) (by unfold maxLen; omega) (by omega) ?_; intro v' w2 hown hgr; rw [Nat.zero_add, List.nil_append] at hown; obtain ⟨g, c', rfl, hg, hR, h1, h2⟩ := ownsRow_sets hown HNE.out)
  have hgw : w.heap.size ≤ g := by simp at hg; omega
  have hB2 := hb1.grown hgr (by simp) (fun k e => by cases e)
  have hI2 := hI0.below hB2
  clear hown hgr hg hb1 hI0
  have hgl := hR.lt
  refine (rMissing_c _ L vn w2 hI2 hv (fun u hu => by have := HV.out.range hu; omega) hl).mono ?_
  rintro e w3 ⟨v3, rfl, hn3, hb3⟩
  have hR3 := hR.below hb3 hR.lt
  have hB3 := hB2.trans (hb3.mono hB2.size)
  obtain ⟨pm, cm, e4, hm⟩ := hn3.ints
  subst e4
  have HM := hid hm
  have HIP := hid (inP_miss HV.out (vn : Int))
  have hml : (missP (gOf L) (vn : Int)).length ≤ 16384 := by
    have h1 := missTo_length (gOf L) (mems (gOf L (vn : Int))) (mems (gOf L (vn : Int))).length (mems_length _)
    have h2 := mems_length (gOf L (vn : Int))
    unfold missP
    omega
  clear hm hn3 hb3 hR hI2 hB2
  have HFL := hid (flat_length (missP (gOf L) (vn : Int)))
  have HEL : Hid (elR L (vn : Int) = (outTo (vn : Int) (joinAll L (missP (gOf L) (vn : Int))) L.length).set vn 0) := by
    show _ = _
    unfold elR; rw [Int.toNat_natCast]
  generalize missP (gOf L) (vn : Int) = ps at *
  generalize hfl : flat ps = fl at *
  have hs3 := hB3.size
  go_wp2_with fail
  go_loopw [5, 7] (fun u i wr => ∃ (j q : Nat) (M : List VS), j ≤ ps.length ∧ i = .int .i64 (q : Int) ∧ Hid (q = 2 * j) ∧ Hid (M = joinAll L (ps.take j)) ∧ M.length = L.length ∧ (∃ g c, u = .slice (some ⟨g, 0, none⟩) M.length c ∧ w.heap.size ≤ g ∧ SetRow wr g M ∧ M.length ≤ c ∧ c ≤ maxLen) ∧ Below w3.heap.size w3 wr) (fun _ i _ => 2 * ps.length - (intOf i).toNat)
  case atStart => exact ⟨0, 0, L, Nat.zero_le _, rfl, rfl, (by show L = joinAll L (ps.take 0); simp [joinAll]), rfl, ⟨g, c', rfl, hgw, hR3, h1, h2⟩, Below.refl _ _⟩
  case round =>
    clear hR3
    obtain ⟨j, q, M, hj, rfl, HQ, hM, hMl, ⟨g', c'', rfl, hg', hR, hc1, hc2⟩, hB⟩ := hrel
    have hszr := hB.size
    have hfll : fl.length = 2 * ps.length := HFL.out
    have hq : q = 2 * j := HQ.out
    have hqb : q ≤ 32768 := by omega
    have HML := hid hMl
    by_cases hjl : j < ps.length
    · obtain ⟨bm, om, rfl, hm⟩ := HM.out.resolve_left (by intro e; rw [e] at hfll; simp at hfll; omega)
      have hck := hm q (by omega)
      have hck2 := hm (q + 1) (by omega)
      obtain ⟨e1, e2⟩ := flat_get ps j hjl
      rw [hfl, ← hq] at e1 e2
      rw [e1, Option.getD_some] at hck
      rw [e2, Option.getD_some] at hck2
      have hin := HIP.out ps[j] (List.getElem_mem hjl)
      obtain ⟨xn, hxn⟩ : ∃ xn : Nat, ps[j].1 = (xn : Int) := ⟨(ps[j].1).toNat, by omega⟩
      obtain ⟨yn, hyn⟩ : ∃ yn : Nat, ps[j].2 = (yn : Int) := ⟨(ps[j].2).toNat, by omega⟩
      rw [hxn] at hck hin
      rw [hyn] at hck2 hin
      have c1 := (hB.cell (cell_lt hck)).trans hck
      have c2 := (hB.cell (cell_lt hck2)).trans hck2
      have HN : Hid (joinL M (xn : Int) (yn : Int) = joinAll L (ps.take (j + 1))) := by
        show _ = _
        rw [List.take_succ_eq_append_getElem hjl, joinAll_snoc, hM.out, ← hxn, ← hyn]
      have zj : (0 : Int) ≤ (q : Int) ∧ (q : Int) < (fl.length : Int) := by omega
      have zk : (0 : Int) ≤ (q : Int) + 1 ∧ (q : Int) + 1 < (fl.length : Int) := by omega
      have zw : IntKind.i64.wrap ((q : Int) + 1) = (q : Int) + 1 := by
        rw [IntKind.wrap_i64]; omega
      have zt : ((q : Int) + 1).toNat = q + 1 := by omega
      have zl : q < fl.length := by omega
      have hSd : SetsAt wr.drew (.slice (some ⟨g', 0, none⟩) M.length c'') M := (show SetRow wr.drew g' M from hR).sets c''
      have hxl : xn < M.length := by omega
      have hyl : yn < M.length := by omega
      have hmm : M.length ≤ 129 := by omega
      clear hm hck hck2 e1 e2 hxn hyn hfll hq hMl
      go_wp2_with fail
      refine Go.Proofs.YthgkklahiclcpaaDoor.wp_region_L 12 10 (fun w' => w'.cell? ⟨bm, om + q, none⟩ = some (.int .i64 (xn : Int)) ∧ w'.cell? ⟨bm, om + (q + 1), none⟩ = some (.int .i64 (yn : Int))) (by kernel_rfl) rfl ⟨c1, c2⟩ (fun hS => ?_)
      refine wpAnyL_pure (i := 0) (v := .slice (some ⟨g', 0, none⟩) M.length c'') (by simp only [List.getElem?_toArray, List.getElem?_cons_zero] <;> rfl) (by kernel_rfl) (by kernel_rfl) (by kernel_rfl) (by exact fun _ _ _ h => h) (by decide) hS (Or.inl ⟨by rfl, fun w _ => (by simp [execOp, go_sem, Act.eval])⟩) (fun hS => ?_)
      simp only [Act.put, List.setIfInBounds_toArray, List.set_cons_zero, List.set_cons_succ]
      refine wpAnyL_pure (i := 1) (v := .slice (some ⟨bm, om, none⟩) fl.length cm) (by simp only [List.getElem?_toArray, List.getElem?_cons_zero, List.getElem?_cons_succ] <;> rfl) (by kernel_rfl) (by kernel_rfl) (by kernel_rfl) (by exact fun _ _ _ h => h) (by decide) hS (Or.inl ⟨by rfl, fun w _ => (by simp [execOp, go_sem, Act.eval])⟩) (fun hS => ?_)
      simp only [Act.put, List.setIfInBounds_toArray, List.set_cons_zero, List.set_cons_succ]
      refine wpAnyL_pure (i := 2) (v := .int .i64 (q : Int)) (by simp only [List.getElem?_toArray, List.getElem?_cons_zero, List.getElem?_cons_succ] <;> rfl) (by kernel_rfl) (by kernel_rfl) (by kernel_rfl) (by exact fun _ _ _ h => h) (by decide) hS (Or.inl ⟨by rfl, fun w _ => (by simp [execOp, go_sem, Act.eval])⟩) (fun hS => ?_)
      simp only [Act.put, List.setIfInBounds_toArray, List.set_cons_zero, List.set_cons_succ]
      refine wpAnyL_pure (i := 3) (v := .pointer (some ⟨bm, om + q, none⟩)) (by simp only [List.getElem?_toArray, List.getElem?_cons_zero, List.getElem?_cons_succ] <;> rfl) (by kernel_rfl) (by kernel_rfl) (by kernel_rfl) (by exact fun _ _ _ h => h) (by decide) hS (Or.inl ⟨by rfl, fun w _ => (by simp [execOp, go_sem, Act.eval, zj])⟩) (fun hS => ?_)
      simp only [Act.put, List.setIfInBounds_toArray, List.set_cons_zero, List.set_cons_succ]
      refine wpAnyL_load (i := 4) (v := .int .i64 (xn : Int)) (by simp only [List.getElem?_toArray, List.getElem?_cons_zero, List.getElem?_cons_succ] <;> rfl) (by kernel_rfl) (by kernel_rfl) (by kernel_rfl) (by exact fun _ _ _ h => h) (by decide) ⟨_, rfl, ⟨4, .data⟩, by simp, rfl, rfl⟩ (by kernel_rfl) hS (Or.inl ⟨by rfl, fun w hw => (by obtain ⟨x0, x1⟩ := hw; simp [execOp, go_sem, Act.eval, x0])⟩) (fun hS => ?_)
      simp only [Act.put, List.setIfInBounds_toArray, List.set_cons_zero, List.set_cons_succ]
      refine wpAnyL_pure (i := 5) (v := .slice (some ⟨bm, om, none⟩) fl.length cm) (by simp only [List.getElem?_toArray, List.getElem?_cons_zero, List.getElem?_cons_succ] <;> rfl) (by kernel_rfl) (by kernel_rfl) (by kernel_rfl) (by exact fun _ _ _ h => h) (by decide) hS (Or.inl ⟨by rfl, fun w _ => (by simp [execOp, go_sem, Act.eval])⟩) (fun hS => ?_)
      simp only [Act.put, List.setIfInBounds_toArray, List.set_cons_zero, List.set_cons_succ]
      refine wpAnyL_pure (i := 6) (v := .int .i64 (q : Int)) (by simp only [List.getElem?_toArray, List.getElem?_cons_zero, List.getElem?_cons_succ] <;> rfl) (by kernel_rfl) (by kernel_rfl) (by kernel_rfl) (by exact fun _ _ _ h => h) (by decide) hS (Or.inl ⟨by rfl, fun w _ => (by simp [execOp, go_sem, Act.eval])⟩) (fun hS => ?_)
      simp only [Act.put, List.setIfInBounds_toArray, List.set_cons_zero, List.set_cons_succ]
      refine wpAnyL_pure (i := 7) (v := .int .i64 ((q : Int) + 1)) (by simp only [List.getElem?_toArray, List.getElem?_cons_zero, List.getElem?_cons_succ] <;> rfl) (by kernel_rfl) (by kernel_rfl) (by kernel_rfl) (by exact fun _ _ _ h => h) (by decide) hS (Or.inl ⟨by rfl, fun w _ => (by simp [execOp, go_sem, Act.eval, zw])⟩) (fun hS => ?_)
      simp only [Act.put, List.setIfInBounds_toArray, List.set_cons_zero, List.set_cons_succ]
      refine wpAnyL_pure (i := 8) (v := .pointer (some ⟨bm, om + (q + 1), none⟩)) (by simp only [List.getElem?_toArray, List.getElem?_cons_zero, List.getElem?_cons_succ] <;> rfl) (by kernel_rfl) (by kernel_rfl) (by kernel_rfl) (by exact fun _ _ _ h => h) (by decide) hS (Or.inl ⟨by rfl, fun w _ => (by simp [execOp, go_sem, Act.eval, zk, zt])⟩) (fun hS => ?_)
      simp only [Act.put, List.setIfInBounds_toArray, List.set_cons_zero, List.set_cons_succ]
      refine wpAnyL_load (i := 9) (v := .int .i64 (yn : Int)) (by simp only [List.getElem?_toArray, List.getElem?_cons_zero, List.getElem?_cons_succ] <;> rfl) (by kernel_rfl) (by kernel_rfl) (by kernel_rfl) (by exact fun _ _ _ h => h) (by decide) ⟨_, rfl, ⟨9, .data⟩, by simp, rfl, rfl⟩ (by kernel_rfl) hS (Or.inl ⟨by rfl, fun w hw => (by obtain ⟨x0, x1⟩ := hw; simp [execOp, go_sem, Act.eval, x1])⟩) (fun hS => ?_)
      simp only [Act.put, List.setIfInBounds_toArray, List.set_cons_zero, List.set_cons_succ]
      refine wpAnyL_one (i := 10) (by kernel_rfl) (by simp only [List.getElem?_toArray, List.getElem?_cons_zero, List.getElem?_cons_succ] <;> rfl) (by rfl) ?_
      refine opwp_call (f := 55) (args := #[.slice (some ⟨g', 0, none⟩) M.length c'', .int .i64 (xn : Int), .int .i64 (yn : Int)]) (w' := wr.drew) (by simp [go_sem, Act.eval]) ?_
      refine (rJoin_c _ M xn yn wr.drew hSd hxl hyl hmm).mono ?_
      rintro e w5 ⟨g5, c5, rfl, hg5, hR5, hb5, hc5, hm5⟩
      refine .inl ⟨_, rfl, .inl (by kernel_rfl), ?_⟩
      simp only [Act.put, List.setIfInBounds_toArray, List.set_cons_zero, List.set_cons_succ]
      refine wpAnyL_one (i := 11) (by kernel_rfl) (by simp only [List.getElem?_toArray, List.getElem?_cons_zero, List.getElem?_cons_succ] <;> rfl) (by rfl) ?_
      refine opwp_value (v := .slice (some ⟨g5, 0, none⟩) (joinL M (xn : Int) (yn : Int)).length c5) (w' := w5) (by simp [execOp, go_sem, Act.eval]) ⟨.inl (by kernel_rfl), ?_⟩
      simp only [Act.put, List.setIfInBounds_toArray, List.set_cons_zero, List.set_cons_succ]
      refine wpAnyL_done (by kernel_rfl) ?_ _
      have hB5 := hB.drew.trans (hb5.mono hszr)
      have hw := Nat.le_trans hs3 hszr
      have hwd : wr.drew.heap.size = wr.heap.size := rfl
      clear hS c1 c2 hSd hR hb5
      go_wp2_with fail
      go_roundw
      case rel => exact ⟨j + 1, q + 2, _, by omega, by go_num, by show q + 2 = 2 * (j + 1); have := HQ.out; omega, HN.out, (joinL_length M _ _).trans HML.out, ⟨g5, c5, rfl, by omega, hR5, hc5, hm5⟩, hB5⟩
      case measure => simp [intOf]; have := HQ.out; omega
    · obtain rfl : j = ps.length := by omega
      have zl : ¬ q < fl.length := by omega
      have zl2 : decide ((q : Int) < (fl.length : Int)) = false := decide_eq_false (by omega)
      have HMA : Hid (joinAll L ps = M) := by
        show _ = _
        rw [hM.out, List.take_length]
      have hB0 := hB3.trans (hB.mono hB3.size)
      have HO := hid (outTo_length (vn : Int) M)
      have HOG := hid (outTo_get (vn : Int) M)
      have hvl : vn < M.length := by omega
      have hml2 : M.length ≤ 129 := by omega
      clear hM hfll hq hMl
      go_wp2_with fail
      obtain ⟨wo, hwo⟩ : ∃ wo : World, wo = wr := ⟨_, rfl⟩
      rw [← hwo] at hB0 hszr
      go_loopw [8] (fun i wq => ∃ k : Nat, k ≤ M.length ∧ i = .int .i64 k ∧ SetRow wq g' (outTo (vn : Int) M k) ∧ wo.grownBy wq (some g')) (fun i _ => M.length - (intOf i).toNat)
      case atStart => exact ⟨0, Nat.zero_le _, rfl, hR, by rw [hwo]; exact World.grownBy.refl _ _⟩
      case round =>
        clear hR hwo
        obtain ⟨k, hk, rfl, hR, hgr⟩ := hrel
        by_cases hkl : k < M.length
        · obtain ⟨t, hgt, r0, r1, f0, f1⟩ := hR.get k (by rw [HO.out]; exact hkl)
          have zk : (0 : Int) ≤ (k : Int) ∧ (k : Int) < (M.length : Int) := by omega
          have HGT := hid hgt
          clear hgt
          go_wp2_with fail
          refine (rWithout_c t (vn : Int) wr).mono ?_
          rintro e w5 ⟨rfl, hb5⟩
          have hR5 := hR.below hb5 hR.lt
          clear r0 r1 f0 f1
          obtain ⟨t5, _, r0, r1, f0, f1⟩ := hR5.get k (by rw [HO.out]; exact hkl)
          have hR6 := hR5.store k (by rw [HO.out]; exact hkl) (withoutV t (vn : Int))
          have hg6 := grownBy_then (grownBy_then hgr (grownBy_of_below' hb5 (some g'))) (grownBy_set2 w5 g' (k * 2) (k * 2 + 1) (.int .u64 ((lw (withoutV t (vn : Int))).toNat : Int)) (.int .u64 ((hw (withoutV t (vn : Int))).toNat : Int)))
          have HR6 : Hid (SetRow ((w5.setCell ⟨g', k * 2, none⟩ (.int .u64 ((lw (withoutV t (vn : Int))).toNat : Int))).setCell ⟨g', k * 2 + 1, none⟩ (.int .u64 ((hw (withoutV t (vn : Int))).toNat : Int))) g' (outTo (vn : Int) M (k + 1))) := by
            show SetRow _ _ _
            rw [outTo, HGT.out]; exact hR6
          clear hR hR5 hR6 hgr hb5
          go_wp2_with fail
          go_roundw
          case rel => exact ⟨k + 1, by omega, by go_num, HR6.out, hg6⟩
          case measure => simp [intOf]; omega
        · obtain rfl : k = M.length := by omega
          obtain ⟨t, hgt, r0, r1, f0, f1⟩ := hR.get vn (by rw [HO.out]; exact hvl)
          have zv2 : (0 : Int) ≤ (vn : Int) ∧ (vn : Int) < (M.length : Int) := by omega
          have hfin := hR.store vn (by rw [HO.out]; exact hvl) 0
          have HF := hid hfin
          have hBw : Below w.heap.size w wr := hB0.grown hgr hB0.size (fun k e => by injection e with e; omega)
          have HBF := hid (hBw.grown (grownBy_set2 wr g' (vn * 2) (vn * 2 + 1) (.int .u64 ((lw (0 : VS)).toNat : Int)) (.int .u64 ((hw (0 : VS)).toNat : Int))) hBw.size (fun k e => by injection e with e; omega))
          clear hfin hgr hgt hBw
          go_wp2_with fail
          go_ret
          have hel : elR L (vn : Int) = (outTo (vn : Int) M M.length).set vn 0 := by rw [HEL.out, HMA.out, HML.out]
          exact ⟨g', c'', by rw [elR_length, ← HML.out]; rfl, hg', by rw [hel]; exact HF.out, HBF.out, by rw [elR_length, ← HML.out]; exact hc1, hc2⟩
end Go.Proofs.YthgkklahiclcpaaDoor
