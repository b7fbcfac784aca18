/- Walks: the reference's reader of nodes. -/
import Derived.Test.YtkfmblpcfgdgpaaGNum2
import Derived.Deep.AppendLies
import Derived.Deep.RegionHeld3
namespace Go.Proofs.Ytkfmblpcfgdgpaa
open Go.RowKit

/-- What stands in a round. -/
structure RnSt (w wr : World) (pz B i m px : Nat) (vb : Value) (l : List UInt8) (kk : Int) (a2 j a1 : Nat) (v : Value) (ins : List Int) (bad : Bool) : Prop where
  box : wr.heap[pz]? = some (.cells #[.int .i64 kk, .int .i64 0, v] 46 (0, 0))
  res : wr.heap[w.heap.size]? = some (.cells #[.int .i64 0, .int .i64 0, .slice none 0 0] 46 (0, 0))
  own : OwnInts wr B v ins
  len : ins.length = j
  rdr : RRdr w.heap.size wr px vb l a1 bad
  at_ : RSt w wr px vb a1 bad
  says : (bad = false → a2 ≤ a1 ∧ rdIns i m (l.drop a2) = prep ins (rdIns i (m - j) (l.drop a1))) ∧ (bad = true → rdIns i m (l.drop a2) = none)
def RnodePost (i a : Nat) (l : List UInt8) (px : Nat) (v : Value) (w : World) (e : Ending) (w' : World) : Prop :=
  match rdNode i (l.drop a) with
  | some (x, r) => ∃ a' u, r = l.drop a' ∧ a ≤ a' ∧ a' ≤ l.length ∧ e = .returned (encN x u) ∧ RSt w w' px v a' false ∧ OwnInts w' w.heap.size u x.ins
  | none => ∃ a' x u, a' ≤ l.length ∧ e = .returned (encN x u) ∧ RSt w w' px v a' true ∧ OwnInts w' w.heap.size u x.ins ∧ x.ins.length ≤ 16777216
theorem rnode_no {i a : Nat} {l : List UInt8} {px : Nat} {v : Value} {w w' : World} {a' : Nat} {x : NodeT} {u : Value} (h : rdNode i (l.drop a) = none) (h2 : a' ≤ l.length) (hat : RSt w w' px v a' true) (ho : OwnInts w' w.heap.size u x.ins) (hx : x.ins.length ≤ 16777216) : RnodePost i a l px v w (.returned (encN x u)) w' := by
  unfold RnodePost; rw [h]; exact ⟨a', x, u, h2, rfl, hat, ho, hx⟩
theorem rnode_yes {i a : Nat} {x : NodeT} {l : List UInt8} {px : Nat} {v : Value} {w w' : World} {a' : Nat} {u : Value} (h : rdNode i (l.drop a) = some (x, l.drop a')) (h1 : a ≤ a') (h2 : a' ≤ l.length) (hat : RSt w w' px v a' false) (ho : OwnInts w' w.heap.size u x.ins) : RnodePost i a l px v w (.returned (encN x u)) w' := by
  unfold RnodePost; rw [h]; exact ⟨a', u, rfl, h1, h2, rfl, hat, ho⟩
theorem rone_close {w w2 : World} {px a1 b : Nat} {bad : Bool} {x0 y0 z0 v vb : Value} {ins : List Int} (hat : RSt w w2 px vb a1 bad) (hbb : w.heap.size ≤ b) (hb : w2.heap[b]? = some (.cells #[x0, y0, z0] 46 (0, 0))) (ho : OwnInts w2 w.heap.size v ins) (hp : px < w.heap.size) (x y : Value) :
    RSt w (((w2.setCell ⟨b, 0, none⟩ x).setCell ⟨b, 1, none⟩ y).setCell ⟨b, 2, none⟩ v) px vb a1 bad ∧ OwnInts (((w2.setCell ⟨b, 0, none⟩ x).setCell ⟨b, 1, none⟩ y).setCell ⟨b, 2, none⟩ v) w.heap.size v ins ∧ (((w2.setCell ⟨b, 0, none⟩ x).setCell ⟨b, 1, none⟩ y).setCell ⟨b, 2, none⟩ v).heap[b]? = some (.cells #[x, y, v] 46 (0, 0)) :=
  ⟨hat.low (below_set3 hbb x y v) hp, ho.kept (grownBy_set3 w2 b x y v) (.inr (own_ne_box ho hb (by decide))), read3 hb x y v⟩
theorem rone_close' {w w2 : World} {px a1 b : Nat} {bad : Bool} {x0 y0 z0 v vb : Value} {ins : List Int} (hat : RSt w w2 px vb a1 bad) (hbb : w.heap.size ≤ b) (hb : w2.heap[b]? = some (.cells #[x0, y0, z0] 46 (0, 0))) (ho : OwnInts w2 w.heap.size v ins) (hp : px < w.heap.size) (x y : Value) (o : Obj) :
    RSt w ((((w2.setCell ⟨b, 0, none⟩ x).setCell ⟨b, 1, none⟩ y).setCell ⟨b, 2, none⟩ v).alloc o) px vb a1 bad ∧ OwnInts ((((w2.setCell ⟨b, 0, none⟩ x).setCell ⟨b, 1, none⟩ y).setCell ⟨b, 2, none⟩ v).alloc o) w.heap.size v ins ∧ ((((w2.setCell ⟨b, 0, none⟩ x).setCell ⟨b, 1, none⟩ y).setCell ⟨b, 2, none⟩ v).alloc o).heap[b]? = some (.cells #[x, y, v] 46 (0, 0)) := by
  obtain ⟨h1, h2, h3⟩ := rone_close hat hbb hb ho hp x y
  generalize ((w2.setCell ⟨b, 0, none⟩ x).setCell ⟨b, 1, none⟩ y).setCell ⟨b, 2, none⟩ v = w3 at *
  refine ⟨h1.low ((Below.refl _ w3).alloc h1.grew.size o) hp, h2.alloc o, ?_⟩
  rw [show (w3.alloc o).heap[b]? = w3.heap[b]? from heap_alloc_old w3 _ (box_lt h3)]; exact h3
theorem lit_ref0 {c : Nat} (h0 : c % 2 = 0) : litOf c = (c : Int) / 2 := by
  unfold litOf; rw [h0]; simp
theorem lit_ref1 {c : Nat} (h0 : c % 2 = 1) : litOf c = -((c : Int) / 2) := by
  unfold litOf; rw [h0]; simp
set_option maxRecDepth 100000 in
set_option maxHeartbeats 4000000 in
theorem rnode_c (i : Nat) (hi : i ≤ 65536) (a px : Nat) (v : Value) (l : List UInt8) (w : World) (hr : RRdr w.heap.size w px v l a false) :
    Calls Try.prog 43 #[.pointer (some ⟨px, 0, none⟩), .int .i64 i] w (RnodePost i a l px v w) := by
  have hla := hr.lx
  have hB1 : Below w.heap.size w (w.alloc (.cells #[.int .i64 0, .int .i64 0, .slice none 0 0] 46)) := (Below.refl _ w).alloc (Nat.le_refl _) _
  have hr1 := hr.below hB1
  have hbx := heap_alloc_new w (.cells #[.int .i64 0, .int .i64 0, .slice none 0 0] 46)
  have HB1 := hid hB1
  have HBX := hid hbx
  clear hB1 hbx
  go_enter Try.func43, Try.ntmps43
  go_wp2_with fail
  generalize w.alloc (.cells #[.int .i64 0, .int .i64 0, .slice none 0 0] 46) = w1 at *
  cases hk : rd 4 0 0 (l.drop a) with
  | none =>
    have HN := hid (rdNode_none (i := i) hk)
    refine (rnum_none (by omega) hr1 hk).mono ?_
    rintro e w2 ⟨rfl, a', hal, hat⟩
    have HAT := hid (hat.after HB1.out)
    have hbx2 : w2.heap[w.heap.size]? = some (.cells #[.int .i64 0, .int .i64 0, .slice none 0 0] 46 (0, 0)) := by
      rw [hat.grew.block w.heap.size (box_lt HBX.out) (by simp; omega)]; exact HBX.out
    have hlt2 : w.heap.size < w2.heap.size := box_lt hbx2
    obtain ⟨⟨r0, r1, r2⟩, f0, f1, f2⟩ := box3 hbx2
    have HBX2 := hid hbx2
    clear hk hat hbx2
    go_wp2_with fail
    obtain ⟨e1, e2, e3⟩ := rone_close' HAT.out (Nat.le_refl _) HBX2.out (own_nil _ _) hla (.int .i64 0) (.int .i64 0) (.cells #[.int .i64 0, .int .i64 0, .slice none 0 0] 46)
    exact bodyPost_ret (results_node rfl rfl e3) rfl (rnode_no (x := ⟨0, 0, []⟩) HN.out hal e1 e2 (by simp))
  | some q =>
    obtain ⟨kk, r⟩ := q
    refine (rnum_some (by omega) hr1 hk).mono ?_
    rintro e w2 ⟨rfl, a1, rfl, ha1, hal, hat⟩
    have hr2 := hr1.next hat hal
    have HAT := hid (hat.after HB1.out)
    have hbx2 : w2.heap[w.heap.size]? = some (.cells #[.int .i64 0, .int .i64 0, .slice none 0 0] 46 (0, 0)) := by
      rw [hat.grew.block w.heap.size (box_lt HBX.out) (by simp; omega)]; exact HBX.out
    have hlt2 : w.heap.size < w2.heap.size := box_lt hbx2
    obtain ⟨kz, hkz⟩ : ∃ kz : Int, kz = (kk : Int) := ⟨_, rfl⟩
    have hlo : Below w.heap.size w2 (w2.alloc (.cells #[.int .i64 kz, .int .i64 0, .slice none 0 0] 46)) := (Below.refl _ w2).alloc (by omega) _
    have hlo2 : Below w2.heap.size w2 (w2.alloc (.cells #[.int .i64 kz, .int .i64 0, .slice none 0 0] 46)) := (Below.refl _ w2).alloc (Nat.le_refl _) _
    have hr3 := hr2.below hlo2
    have HA3 := hid (HAT.out.low hlo hla)
    have hx3 := heap_alloc_new w2 (.cells #[.int .i64 kz, .int .i64 0, .slice none 0 0] 46)
    have hbx3 : (w2.alloc (.cells #[.int .i64 kz, .int .i64 0, .slice none 0 0] 46)).heap[w.heap.size]? = some (.cells #[.int .i64 0, .int .i64 0, .slice none 0 0] 46 (0, 0)) := by
      rw [show (w2.alloc _).heap[w.heap.size]? = w2.heap[w.heap.size]? from heap_alloc_old w2 _ hlt2]; exact hbx2
    obtain ⟨⟨r0, r1, r2⟩, f0, f1, f2⟩ := box3 hbx3
    obtain ⟨⟨x0, x1, x2⟩, g0, g1, g2⟩ := box3 hx3
    have hlt3 : w2.heap.size < (w2.alloc (.cells #[.int .i64 kz, .int .i64 0, .slice none 0 0] 46)).heap.size := box_lt hx3
    have HX3 := hid hx3
    have HBX3 := hid hbx3
    have HAT2 := hid HAT.out
    have HBX2 := hid hbx2
    clear hbx2 hbx3 hx3 hlo hlo2 hat HBX HAT HB1
    rw [← hkz]
    by_cases hk2 : kk = 2
    · subst hk2
      have hkz2 : kz = 2 := hkz
      subst hkz2
      clear hkz
      cases hc : rd 257 0 0 (l.drop a1) with
      | none =>
        have HN : Hid (rdNode i (l.drop a) = none) := by
          show _ = _
          unfold rdNode
          rw [hk]
          simp only [if_true]
          rw [hc]
        clear hk
        go_wp2_with fail
        generalize w2.alloc (.cells #[.int .i64 2, .int .i64 0, .slice none 0 0] 46) = w3 at *
        refine (rnum_none (by omega) hr3 hc).mono ?_
        rintro e w4 ⟨rfl, a', hal4, hat4⟩
        have hb4 : w4.heap[w.heap.size]? = some (.cells #[.int .i64 0, .int .i64 0, .slice none 0 0] 46 (0, 0)) := (hat4.grew.block _ (box_lt HBX3.out) (by simp; omega)).trans HBX3.out
        have hz4 : w4.heap[w2.heap.size]? = some (.cells #[.int .i64 2, .int .i64 0, .slice none 0 0] 46 (0, 0)) := (hat4.grew.block _ (box_lt HX3.out) (by simp; omega)).trans HX3.out
        clear r0 r1 r2 f0 f1 f2 x0 x1 x2 g0 g1 g2
        obtain ⟨⟨r0, r1, r2⟩, f0, f1, f2⟩ := box3 hb4
        obtain ⟨⟨x0, x1, x2⟩, g0, g1, g2⟩ := box3 hz4
        have HB4 := hid hb4
        have HA4 := hid (HA3.out.trans hat4)
        clear hat4 hb4 hz4 hc
        go_wp2_with fail
        have hlow := (Below.refl w.heap.size w4).setCell (p := ⟨w2.heap.size, 1, none⟩) (by show w.heap.size ≤ w2.heap.size; omega) (.int .i64 0)
        have hb5 : (w4.setCell ⟨w2.heap.size, 1, none⟩ (.int .i64 0)).heap[w.heap.size]? = some (.cells #[.int .i64 0, .int .i64 0, .slice none 0 0] 46 (0, 0)) := by
          rw [Below.heap_setCell _ _ _ _ (by show w.heap.size ≠ w2.heap.size; omega)]; exact HB4.out
        obtain ⟨e1, e2, e3⟩ := rone_close (HA4.out.low hlow hla) (Nat.le_refl _) hb5 (own_nil _ _) hla (.int .i64 2) (.int .i64 0)
        exact bodyPost_ret (results_node rfl rfl e3) rfl (rnode_no (x := ⟨2, 0, []⟩) HN.out hal4 e1 e2 (by simp))
      | some q2 =>
        obtain ⟨cc, r'⟩ := q2
        have hcc := (num_rd hc).2
        go_wp2_with fail
        generalize w2.alloc (.cells #[.int .i64 2, .int .i64 0, .slice none 0 0] 46) = w3 at *
        refine (rnum_some (by omega) hr3 hc).mono ?_
        rintro e w4 ⟨rfl, a2, rfl, ha2, hal2, hat4⟩
        have HN : Hid (rdNode i (l.drop a) = some (⟨2, litOf cc, []⟩, l.drop a2)) := by
          show _ = _
          unfold rdNode
          rw [hk]
          simp only [if_true]
          rw [hc]
        have ha02 : a ≤ a2 := by omega
        have hb4 : w4.heap[w.heap.size]? = some (.cells #[.int .i64 0, .int .i64 0, .slice none 0 0] 46 (0, 0)) := (hat4.grew.block _ (box_lt HBX3.out) (by simp; omega)).trans HBX3.out
        have hz4 : w4.heap[w2.heap.size]? = some (.cells #[.int .i64 2, .int .i64 0, .slice none 0 0] 46 (0, 0)) := (hat4.grew.block _ (box_lt HX3.out) (by simp; omega)).trans HX3.out
        clear r0 r1 r2 f0 f1 f2 x0 x1 x2 g0 g1 g2
        obtain ⟨⟨r0, r1, r2⟩, f0, f1, f2⟩ := box3 hb4
        obtain ⟨⟨x0, x1, x2⟩, g0, g1, g2⟩ := box3 hz4
        have HB4 := hid hb4
        have HA4 := hid (HA3.out.trans hat4)
        clear hat4 hb4 hz4 hc hk
        have hcd : (0 : Int) ≤ (cc : Int) / 2 := by omega
        rcases Nat.mod_two_eq_zero_or_one cc with hm | hm
        · have q2 : ((cc : Int) % 2 == 1) = false := by simp; omega
          have HL := hid (lit_ref0 hm)
          clear hm
          go_wp2_with fail
          have hlow := (Below.refl w.heap.size w4).setCell (p := ⟨w2.heap.size, 1, none⟩) (by show w.heap.size ≤ w2.heap.size; omega) (.int .i64 ((cc : Int) / 2))
          have hb5 : (w4.setCell ⟨w2.heap.size, 1, none⟩ (.int .i64 ((cc : Int) / 2))).heap[w.heap.size]? = some (.cells #[.int .i64 0, .int .i64 0, .slice none 0 0] 46 (0, 0)) := by
            rw [Below.heap_setCell _ _ _ _ (by show w.heap.size ≠ w2.heap.size; omega)]; exact HB4.out
          obtain ⟨e1, e2, e3⟩ := rone_close (HA4.out.low hlow hla) (Nat.le_refl _) hb5 (own_nil _ _) hla (.int .i64 2) (.int .i64 ((cc : Int) / 2))
          refine bodyPost_ret (results_node rfl rfl e3) rfl ?_
          rw [← HL.out]
          rw [← HL.out] at e1 e2
          exact rnode_yes (x := ⟨2, litOf cc, []⟩) HN.out ha02 hal2 e1 e2
        · have q2 : ((cc : Int) % 2 == 1) = true := by simp; omega
          have HL := hid (lit_ref1 hm)
          clear hm
          go_wp2_with fail
          have hlow := ((Below.refl w.heap.size w4).setCell (p := ⟨w2.heap.size, 1, none⟩) (by show w.heap.size ≤ w2.heap.size; omega) (.int .i64 ((cc : Int) / 2))).setCell (p := ⟨w2.heap.size, 1, none⟩) (by show w.heap.size ≤ w2.heap.size; omega) (.int .i64 (-((cc : Int) / 2)))
          have hb5 : ((w4.setCell ⟨w2.heap.size, 1, none⟩ (.int .i64 ((cc : Int) / 2))).setCell ⟨w2.heap.size, 1, none⟩ (.int .i64 (-((cc : Int) / 2)))).heap[w.heap.size]? = some (.cells #[.int .i64 0, .int .i64 0, .slice none 0 0] 46 (0, 0)) := by
            rw [Below.heap_setCell _ _ _ _ (by show w.heap.size ≠ w2.heap.size; omega), Below.heap_setCell _ _ _ _ (by show w.heap.size ≠ w2.heap.size; omega)]; exact HB4.out
          obtain ⟨e1, e2, e3⟩ := rone_close (HA4.out.low hlow hla) (Nat.le_refl _) hb5 (own_nil _ _) hla (.int .i64 2) (.int .i64 (-((cc : Int) / 2)))
          refine bodyPost_ret (results_node rfl rfl e3) rfl ?_
          rw [← HL.out]
          rw [← HL.out] at e1 e2
          exact rnode_yes (x := ⟨2, litOf cc, []⟩) HN.out ha02 hal2 e1 e2
    · by_cases hk34 : kk = 3 ∨ kk = 4
      · cases hc : rd 16777216 0 0 (l.drop a1) with
        | none =>
          have HN : Hid (rdNode i (l.drop a) = none) := by
            show _ = _
            unfold rdNode
            rw [hk]
            simp only [hk2, hk34, if_false, if_true]
            rw [hc]
          have hkz34 : kz = 3 ∨ kz = 4 := by omega
          clear hk hk34 hk2 hkz
          obtain rfl | rfl := hkz34
          all_goals
            go_wp2_with fail
            generalize hw3 : w2.alloc _ = w3 at *
            refine (rnum_none (by omega) hr3 hc).mono ?_
            rintro e w4 ⟨rfl, a', hal4, hat4⟩
            have hb4 : w4.heap[w.heap.size]? = some (.cells #[.int .i64 0, .int .i64 0, .slice none 0 0] 46 (0, 0)) := (hat4.grew.block _ (box_lt HBX3.out) (by simp; omega)).trans HBX3.out
            have hz4 := (hat4.grew.block _ (box_lt HX3.out) (by simp; omega)).trans HX3.out
            clear r0 r1 r2 f0 f1 f2 x0 x1 x2 g0 g1 g2 hw3
            obtain ⟨⟨r0, r1, r2⟩, f0, f1, f2⟩ := box3 hb4
            obtain ⟨⟨x0, x1, x2⟩, g0, g1, g2⟩ := box3 hz4
            have HB4 := hid hb4
            have HA4 := hid (HA3.out.trans hat4)
            clear hat4 hb4 hz4 hc
            go_wp2_with fail
            refine wp_loop_rounds 1 ?_
            rw [rounds_succ]
            go_wp2_with fail
            obtain ⟨e1, e2, e3⟩ := rone_close HA4.out (Nat.le_refl _) HB4.out (own_nil _ _) hla (.int .i64 _) (.int .i64 0)
            exact bodyPost_ret (results_node rfl rfl e3) rfl (rnode_no (x := ⟨_, 0, []⟩) HN.out hal4 e1 e2 (by simp))
        | some q2 =>
          obtain ⟨m, r'⟩ := q2
          have hmm := (num_rd hc).2
          have hq := rdNode_34 (i := i) hk34 hk hc
          rw [← hkz] at hq
          have hkz34 : kz = 3 ∨ kz = 4 := by omega
          clear hk34 hk2 hk hkz
          obtain ⟨kw, hkw⟩ : ∃ kw : Int, kw = kz := ⟨_, rfl⟩
          rw [← hkw] at hq
          obtain rfl | rfl := hkz34
          all_goals
            go_wp2_with fail
            generalize hw3 : w2.alloc _ = w3 at *
            refine (rnum_some (by omega) hr3 hc).mono ?_
            rintro e w4 ⟨rfl, a2, rfl, ha2, hal2, hat4⟩
            have HN := hid hq
            have hst : RnSt w w4 w2.heap.size (w2.heap.size + 1) i m px v l kw a2 0 a2 (.slice none 0 0) [] false := by
              refine ⟨?_, ?_, own_nil _ _, rfl, hr3.next hat4 hal2, HA3.out.trans hat4, fun _ => ⟨Nat.le_refl _, ?_⟩, fun e => by cases e⟩
              · rw [hat4.grew.block w2.heap.size (box_lt HX3.out) (by simp; omega), HX3.out, hkw]
              · rw [hat4.grew.block w.heap.size (box_lt HBX3.out) (by simp; omega), HBX3.out]
              · rw [Nat.sub_zero]
                cases rdIns i m (l.drop a2) with
                | none => rfl
                | some q => rfl
            clear hc hq r0 r1 r2 f0 f1 f2 x0 x1 x2 g0 g1 g2
            go_wp2_with fail
            have ha02 : a ≤ a2 := by omega
            generalize hpz : w2.heap.size = pz at *
            have HKZ := hid hkw
            clear hkw hpz hw3 hr1 hr2 hr3 HA3 HX3 HBX3 hat4 hlt3
            generalize kw = kz at *
            go_loopw [8] (fun jj wr => ∃ (j a1 : Nat) (u : Value) (ins : List Int) (bad : Bool), j ≤ m ∧ jj = .int .i64 j ∧ RnSt w wr pz (pz + 1) i m px v l kz a2 j a1 u ins bad) (fun jj _ => m - (intOf jj).toNat)
            case atStart => exact ⟨0, a2, _, [], false, by omega, rfl, hst⟩
            case round =>
              clear hst
              obtain ⟨j, aj, u, ins, bad, hj, rfl, st⟩ := hrel
              obtain ⟨⟨y0, y1, y2⟩, t0, t1, t2⟩ := box3 st.rdr.box
              by_cases hgo : j < m ∧ bad = false
              · obtain ⟨hlt3, rfl⟩ := hgo
                obtain ⟨j2, hj2⟩ : ∃ j2, m - j = j2 + 1 := ⟨m - j - 1, by omega⟩
                have hbel : Below wr.heap.size wr wr.drew := (Below.refl _ wr).drew
                have hrd := st.rdr.below hbel
                have hatd := st.at_.low (Below.refl _ wr).drew hla
                obtain ⟨⟨x0, x1, x2⟩, f0, f1, f2⟩ := box3 st.box
                have z1 : wr.drew.cell? ⟨pz, 2, none⟩ = some u := x2
                have dlt : decide ((j : Int) < (m : Int)) = true := decide_eq_true (by omega)
                obtain ⟨i0, hi0, hz0, hz1, hz2⟩ := info_parts info_int
                go_wp2_with fail
                refine Go.Proofs.Ytkfmblpcfgdgpaa.wp_region_L 11 8 (fun w' => w'.cell? ⟨pz, 2, none⟩ = some u) (by kernel_rfl) rfl z1 (fun hS => ?_)
                refine wpAnyL_pure (i := 0) (v := .pointer (some ⟨pz, 2, none⟩)) (by simp only [List.getElem?_toArray, List.getElem?_cons_zero] <;> rfl) (by kernel_rfl) (by kernel_rfl) (by kernel_rfl) (by exact fun _ _ _ h => h) (by decide) hS (Or.inl ⟨by rfl, fun w _ => (by simp [execOp, go_sem, Act.eval])⟩) (fun hS => ?_)
                simp only [Act.put, List.setIfInBounds_toArray, List.set_cons_zero, List.set_cons_succ]
                refine wpAnyL_load (i := 1) (v := u) (by simp only [List.getElem?_toArray, List.getElem?_cons_zero, List.getElem?_cons_succ] <;> rfl) (by kernel_rfl) (by kernel_rfl) (by kernel_rfl) (by exact fun _ _ _ h => h) (by decide) ⟨_, rfl, ⟨1, .data⟩, by simp, rfl, rfl⟩ (by kernel_rfl) hS (Or.inl ⟨by rfl, fun w hw => (by have hw : w.cell? ⟨pz, 2, none⟩ = some u := hw; simp [execOp, go_sem, Act.eval, hw])⟩) (fun hS => ?_)
                simp only [Act.put, List.setIfInBounds_toArray, List.set_cons_zero, List.set_cons_succ]
                refine wpAnyL_pure (i := 2) (v := .int .i64 (i : Int)) (by simp only [List.getElem?_toArray, List.getElem?_cons_zero, List.getElem?_cons_succ] <;> rfl) (by kernel_rfl) (by kernel_rfl) (by kernel_rfl) (by exact fun _ _ _ h => h) (by decide) hS (Or.inl ⟨by rfl, fun w _ => (by simp [execOp, go_sem, Act.eval])⟩) (fun hS => ?_)
                simp only [Act.put, List.setIfInBounds_toArray, List.set_cons_zero, List.set_cons_succ]
                refine wpAnyL_pure (i := 3) (v := .pointer (some ⟨px, 0, none⟩)) (by simp only [List.getElem?_toArray, List.getElem?_cons_zero, List.getElem?_cons_succ] <;> rfl) (by kernel_rfl) (by kernel_rfl) (by kernel_rfl) (by exact fun _ _ _ h => h) (by decide) hS (Or.inl ⟨by rfl, fun w _ => (by simp [execOp, go_sem, Act.eval])⟩) (fun hS => ?_)
                simp only [Act.put, List.setIfInBounds_toArray, List.set_cons_zero, List.set_cons_succ]
                refine wpAnyL_pure (i := 4) (v := .int .i64 (i : Int)) (by simp only [List.getElem?_toArray, List.getElem?_cons_zero, List.getElem?_cons_succ] <;> rfl) (by kernel_rfl) (by kernel_rfl) (by kernel_rfl) (by exact fun _ _ _ h => h) (by decide) hS (Or.inl ⟨by rfl, fun w _ => (by simp [execOp, go_sem, Act.eval])⟩) (fun hS => ?_)
                simp only [Act.put, List.setIfInBounds_toArray, List.set_cons_zero, List.set_cons_succ]
                refine wpAnyL_one (i := 5) (by kernel_rfl) (by simp only [List.getElem?_toArray, List.getElem?_cons_zero, List.getElem?_cons_succ] <;> rfl) (by rfl) ?_
                refine opwp_call (f := 42) (args := #[.pointer (some ⟨px, 0, none⟩), .int .i64 (i : Int)]) (w' := wr.drew) (by simp [go_sem, Act.eval]) ?_
                cases hd : rd i 0 0 (l.drop aj) with
                | none =>
                  have hsy := (st.says.1 rfl).2
                  rw [hj2, rdIns_stop hd] at hsy
                  have HSY := hid hsy
                  clear hsy
                  refine (rnum_none (by omega) hrd hd).mono ?_
                  rintro e w5 ⟨rfl, a3, hal3, hat5⟩
                  obtain ⟨d, hd0⟩ : ∃ d : Nat, d = 0 := ⟨0, rfl⟩
                  have hdi : d ≤ i := by omega
                  have z4 : IntKind.i64.wrap (i : Int) = (i : Int) := IntWalk.i64_in _ (by omega)
                  have hbox5 : w5.heap[pz]? = some (.cells #[.int .i64 kz, .int .i64 0, u] 46 (0, 0)) := (hat5.grew.block pz (box_lt (w := wr) st.box) (by simp; omega)).trans st.box
                  have own5 : OwnInts w5 (pz + 1) u ins := by
                    refine World.ownsRow.kept (w := wr.drew) st.own hat5.grew (.inr fun e => ?_)
                    have := (World.ownsRow.lt st.own px e).1
                    omega
                  have c5 : w5.cell? ⟨pz, 2, none⟩ = some u := (box3 hbox5).1.2.2
                  have hlt5 : pz < w5.heap.size := box_lt hbox5
                  have c6 : (w5.alloc (.cells #[.int .i64 ((i : Int) - (d : Int))] 3)).cell? ⟨pz, 2, none⟩ = some u := by
                    rw [World.cell?_alloc_lt w5 _ ⟨pz, 2, none⟩ hlt5]; exact c5
                  have hil : ins.length = j := st.len
                  have z2 : 0 ≤ (i : Int) - (d : Int) := by omega
                  have z3 : IntKind.i64.wrap ((i : Int) - (d : Int)) = (i : Int) - (d : Int) := IntWalk.i64_in _ (by omega)
                  refine .inl ⟨_, rfl, .inr c5, ?_⟩
                  simp only [Act.put, List.setIfInBounds_toArray, List.set_cons_zero, List.set_cons_succ]
                  refine wpAnyL_one (i := 6) (by kernel_rfl) (by simp only [List.getElem?_toArray, List.getElem?_cons_zero, List.getElem?_cons_succ] <;> rfl) (by rfl) ?_
                  refine opwp_value (v := .int .i64 ((i : Int) - (d : Int))) (w' := w5) (by simp [execOp, go_sem, Act.eval, hd0, z4]) ⟨.inr c5, ?_⟩
                  simp only [Act.put, List.setIfInBounds_toArray, List.set_cons_zero, List.set_cons_succ]
                  refine wpAnyL_one (i := 7) (by kernel_rfl) (by simp only [List.getElem?_toArray, List.getElem?_cons_zero, List.getElem?_cons_succ] <;> rfl) (by rfl) ?_
                  refine opwp_value (v := .slice (some ⟨w5.heap.size, 0, none⟩) 1 1) (w' := w5.alloc (.cells #[.int .i64 ((i : Int) - (d : Int))] 3)) (by simp [execOp, go_sem, Act.eval]) ⟨.inr c6, ?_⟩
                  simp only [Act.put, List.setIfInBounds_toArray, List.set_cons_zero, List.set_cons_succ]
                  refine wpAnyL_one (i := 8) (by kernel_rfl) (by simp only [List.getElem?_toArray, List.getElem?_cons_zero, List.getElem?_cons_succ] <;> rfl) (by rfl) ?_
                  refine wp_append_lies _ _ _ 44 rfl (pz + 1) 3 i0 (.int .i64 0) 1 8 Try.underlying44 hi0 hz0 hz1 hz2 rfl (by decide) u ins.length (ins.map (Value.int .i64)) rfl (own5.alloc _) ⟨w5.heap.size, 0, none⟩ 1 1 [.int .i64 ((i : Int) - (d : Int))] rfl (by simp) (World.news_of_block (heap_alloc_new _ _)) (by simp [Value.oneCell']) (by omega) (by unfold maxLen; omega) (by omega) (by simp; omega) _ rfl ?_
                  intro gg cap w6 hown6 hgrow6 hat6 hlt6
                  have huo : ∀ k, u.ownBlock = some k → pz + 1 ≤ k := fun k e => (World.ownsRow.lt own5 k e).1
                  have hbox6 : w6.heap[pz]? = some (.cells #[.int .i64 kz, .int .i64 0, u] 46 (0, 0)) := by
                    rw [hgrow6.block pz (by simp; omega) (fun e => by have := huo _ e.symm; omega), heap_alloc_old w5 _ hlt5]; exact hbox5
                  have f6 := (box3 hbox6).2.2.2
                  have c7 := (box3 hbox6).1.2.2
                  refine ⟨.inl (by kernel_rfl), ?_⟩
                  simp only [Act.put, List.setIfInBounds_toArray, List.set_cons_zero, List.set_cons_succ]
                  refine wpAnyL_one (i := 9) (by kernel_rfl) (by simp only [List.getElem?_toArray, List.getElem?_cons_zero, List.getElem?_cons_succ] <;> rfl) (by rfl) ?_
                  refine opwp_value (v := .pointer (some ⟨pz, 2, none⟩)) (w' := w6) (by simp [execOp, go_sem, Act.eval]) ⟨.inl (by kernel_rfl), ?_⟩
                  simp only [Act.put, List.setIfInBounds_toArray, List.set_cons_zero, List.set_cons_succ]
                  refine wpAnyL_one (i := 10) (by kernel_rfl) (by simp only [List.getElem?_toArray, List.getElem?_cons_zero, List.getElem?_cons_succ] <;> rfl) (by rfl) ?_
                  refine opwp_skip (w' := w6.setCell ⟨pz, 2, none⟩ (.slice (some ⟨gg, 0, none⟩) (ins.length + 1) cap)) (by simp [execOp, go_sem, Act.eval, c7, f6]) ⟨.inl (by kernel_rfl), ?_⟩
                  simp only [Act.put]
                  refine wpAnyL_done (by kernel_rfl) ?_ _
                  have hlow : Below w.heap.size w5 (w6.setCell ⟨pz, 2, none⟩ (.slice (some ⟨gg, 0, none⟩) (ins.length + 1) cap)) :=
                    (((Below.refl w.heap.size w5).alloc (by omega) _).grown hgrow6 (by simp; omega) (fun k e => by have := huo _ e; omega)).setCell (p := ⟨pz, 2, none⟩) (by show w.heap.size ≤ pz; omega) _
                  have hbox7 := block_set hbox6 (.slice (some ⟨gg, 0, none⟩) (ins.length + 1) cap) 2
                  have hres7 : (w6.setCell ⟨pz, 2, none⟩ (.slice (some ⟨gg, 0, none⟩) (ins.length + 1) cap)).heap[w.heap.size]? = some (.cells #[.int .i64 0, .int .i64 0, .slice none 0 0] 46 (0, 0)) := by
                    rw [Below.heap_setCell _ _ _ _ (by show w.heap.size ≠ pz; omega), hgrow6.block w.heap.size (by simp; omega) (fun e => by have := huo _ e.symm; omega), heap_alloc_old w5 _ (by omega), hat5.grew.block w.heap.size (box_lt (w := wr) st.res) (by simp; omega)]
                    exact st.res
                  have hown7 : OwnInts (w6.setCell ⟨pz, 2, none⟩ (.slice (some ⟨gg, 0, none⟩) (ins.length + 1) cap)) (pz + 1) (.slice (some ⟨gg, 0, none⟩) (ins.length + 1) cap) (ins ++ [(i : Int) - (d : Int)]) := by
                    have := World.ownsRow.kept hown6 (grownBy_set w6 pz 2 (.slice (some ⟨gg, 0, none⟩) (ins.length + 1) cap)) (.inr (own_ne_box hown6 hbox6 (by decide)))
                    unfold OwnInts
                    rw [List.map_append, List.length_append]
                    exact this
                  have hst7 : RnSt w (w6.setCell ⟨pz, 2, none⟩ (.slice (some ⟨gg, 0, none⟩) (ins.length + 1) cap)) pz (pz + 1) i m px v l kz a2 (j + 1) a3 (.slice (some ⟨gg, 0, none⟩) (ins.length + 1) cap) (ins ++ [(i : Int) - (d : Int)]) true :=
                    ⟨by simpa using hbox7, hres7, hown7, by simp [hil], (hrd.next hat5 hal3).low hlow, (hatd.trans hat5).low hlow hla, ⟨fun e => (by cases e), fun _ => HSY.out⟩⟩
                  clear hil hlow hbox7 hres7 hown7 hown6 hgrow6 hat6 hbox6 hbox5 own5 c5 c6 c7 f6 huo
                  go_wp2_with fail
                  go_roundw
                  case rel => exact ⟨j + 1, a3, _, _, true, by omega, by go_num, hst7⟩
                  case measure => simp [intOf]; omega
                | some qd =>
                  obtain ⟨d, rr⟩ := qd
                  have hdi := (num_rd hd).2
                  have hsy := (st.says.1 rfl).2
                  rw [hj2, rdIns_next hd] at hsy
                  have hjm : m - (j + 1) = j2 := by omega
                  rw [← hjm] at hsy
                  have HSY := hid hsy
                  clear hsy hjm
                  refine (rnum_some (by omega) hrd hd).mono ?_
                  rintro e w5 ⟨rfl, a3, rfl, ha3, hal3, hat5⟩
                  have haj2 := (st.says.1 rfl).1
                  have hbox5 : w5.heap[pz]? = some (.cells #[.int .i64 kz, .int .i64 0, u] 46 (0, 0)) := (hat5.grew.block pz (box_lt (w := wr) st.box) (by simp; omega)).trans st.box
                  have own5 : OwnInts w5 (pz + 1) u ins := by
                    refine World.ownsRow.kept (w := wr.drew) st.own hat5.grew (.inr fun e => ?_)
                    have := (World.ownsRow.lt st.own px e).1
                    omega
                  have c5 : w5.cell? ⟨pz, 2, none⟩ = some u := (box3 hbox5).1.2.2
                  have hlt5 : pz < w5.heap.size := box_lt hbox5
                  have c6 : (w5.alloc (.cells #[.int .i64 ((i : Int) - (d : Int))] 3)).cell? ⟨pz, 2, none⟩ = some u := by
                    rw [World.cell?_alloc_lt w5 _ ⟨pz, 2, none⟩ hlt5]; exact c5
                  have hil : ins.length = j := st.len
                  have z2 : 0 ≤ (i : Int) - (d : Int) := by omega
                  have z3 : IntKind.i64.wrap ((i : Int) - (d : Int)) = (i : Int) - (d : Int) := IntWalk.i64_in _ (by omega)
                  refine .inl ⟨_, rfl, .inr c5, ?_⟩
                  simp only [Act.put, List.setIfInBounds_toArray, List.set_cons_zero, List.set_cons_succ]
                  refine wpAnyL_one (i := 6) (by kernel_rfl) (by simp only [List.getElem?_toArray, List.getElem?_cons_zero, List.getElem?_cons_succ] <;> rfl) (by rfl) ?_
                  refine opwp_value (v := .int .i64 ((i : Int) - (d : Int))) (w' := w5) (by simp [execOp, go_sem, Act.eval, z3]) ⟨.inr c5, ?_⟩
                  simp only [Act.put, List.setIfInBounds_toArray, List.set_cons_zero, List.set_cons_succ]
                  refine wpAnyL_one (i := 7) (by kernel_rfl) (by simp only [List.getElem?_toArray, List.getElem?_cons_zero, List.getElem?_cons_succ] <;> rfl) (by rfl) ?_
                  refine opwp_value (v := .slice (some ⟨w5.heap.size, 0, none⟩) 1 1) (w' := w5.alloc (.cells #[.int .i64 ((i : Int) - (d : Int))] 3)) (by simp [execOp, go_sem, Act.eval]) ⟨.inr c6, ?_⟩
                  simp only [Act.put, List.setIfInBounds_toArray, List.set_cons_zero, List.set_cons_succ]
                  refine wpAnyL_one (i := 8) (by kernel_rfl) (by simp only [List.getElem?_toArray, List.getElem?_cons_zero, List.getElem?_cons_succ] <;> rfl) (by rfl) ?_
                  refine wp_append_lies _ _ _ 44 rfl (pz + 1) 3 i0 (.int .i64 0) 1 8 Try.underlying44 hi0 hz0 hz1 hz2 rfl (by decide) u ins.length (ins.map (Value.int .i64)) rfl (own5.alloc _) ⟨w5.heap.size, 0, none⟩ 1 1 [.int .i64 ((i : Int) - (d : Int))] rfl (by simp) (World.news_of_block (heap_alloc_new _ _)) (by simp [Value.oneCell']) (by omega) (by unfold maxLen; omega) (by omega) (by simp; omega) _ rfl ?_
                  intro gg cap w6 hown6 hgrow6 hat6 hlt6
                  have huo : ∀ k, u.ownBlock = some k → pz + 1 ≤ k := fun k e => (World.ownsRow.lt own5 k e).1
                  have hbox6 : w6.heap[pz]? = some (.cells #[.int .i64 kz, .int .i64 0, u] 46 (0, 0)) := by
                    rw [hgrow6.block pz (by simp; omega) (fun e => by have := huo _ e.symm; omega), heap_alloc_old w5 _ hlt5]; exact hbox5
                  have f6 := (box3 hbox6).2.2.2
                  have c7 := (box3 hbox6).1.2.2
                  refine ⟨.inl (by kernel_rfl), ?_⟩
                  simp only [Act.put, List.setIfInBounds_toArray, List.set_cons_zero, List.set_cons_succ]
                  refine wpAnyL_one (i := 9) (by kernel_rfl) (by simp only [List.getElem?_toArray, List.getElem?_cons_zero, List.getElem?_cons_succ] <;> rfl) (by rfl) ?_
                  refine opwp_value (v := .pointer (some ⟨pz, 2, none⟩)) (w' := w6) (by simp [execOp, go_sem, Act.eval]) ⟨.inl (by kernel_rfl), ?_⟩
                  simp only [Act.put, List.setIfInBounds_toArray, List.set_cons_zero, List.set_cons_succ]
                  refine wpAnyL_one (i := 10) (by kernel_rfl) (by simp only [List.getElem?_toArray, List.getElem?_cons_zero, List.getElem?_cons_succ] <;> rfl) (by rfl) ?_
                  refine opwp_skip (w' := w6.setCell ⟨pz, 2, none⟩ (.slice (some ⟨gg, 0, none⟩) (ins.length + 1) cap)) (by simp [execOp, go_sem, Act.eval, c7, f6]) ⟨.inl (by kernel_rfl), ?_⟩
                  simp only [Act.put]
                  refine wpAnyL_done (by kernel_rfl) ?_ _
                  have hlow : Below w.heap.size w5 (w6.setCell ⟨pz, 2, none⟩ (.slice (some ⟨gg, 0, none⟩) (ins.length + 1) cap)) :=
                    (((Below.refl w.heap.size w5).alloc (by omega) _).grown hgrow6 (by simp; omega) (fun k e => by have := huo _ e; omega)).setCell (p := ⟨pz, 2, none⟩) (by show w.heap.size ≤ pz; omega) _
                  have hbox7 := block_set hbox6 (.slice (some ⟨gg, 0, none⟩) (ins.length + 1) cap) 2
                  have hres7 : (w6.setCell ⟨pz, 2, none⟩ (.slice (some ⟨gg, 0, none⟩) (ins.length + 1) cap)).heap[w.heap.size]? = some (.cells #[.int .i64 0, .int .i64 0, .slice none 0 0] 46 (0, 0)) := by
                    rw [Below.heap_setCell _ _ _ _ (by show w.heap.size ≠ pz; omega), hgrow6.block w.heap.size (by simp; omega) (fun e => by have := huo _ e.symm; omega), heap_alloc_old w5 _ (by omega), hat5.grew.block w.heap.size (box_lt (w := wr) st.res) (by simp; omega)]
                    exact st.res
                  have hown7 : OwnInts (w6.setCell ⟨pz, 2, none⟩ (.slice (some ⟨gg, 0, none⟩) (ins.length + 1) cap)) (pz + 1) (.slice (some ⟨gg, 0, none⟩) (ins.length + 1) cap) (ins ++ [(i : Int) - (d : Int)]) := by
                    have := World.ownsRow.kept hown6 (grownBy_set w6 pz 2 (.slice (some ⟨gg, 0, none⟩) (ins.length + 1) cap)) (.inr (own_ne_box hown6 hbox6 (by decide)))
                    unfold OwnInts
                    rw [List.map_append, List.length_append]
                    exact this
                  have hst7 : RnSt w (w6.setCell ⟨pz, 2, none⟩ (.slice (some ⟨gg, 0, none⟩) (ins.length + 1) cap)) pz (pz + 1) i m px v l kz a2 (j + 1) a3 (.slice (some ⟨gg, 0, none⟩) (ins.length + 1) cap) (ins ++ [(i : Int) - (d : Int)]) false :=
                    ⟨by simpa using hbox7, hres7, hown7, by simp [hil], (hrd.next hat5 hal3).low hlow, (hatd.trans hat5).low hlow hla, ⟨fun _ => ⟨by omega, HSY.out⟩, fun e => by cases e⟩⟩
                  clear hil hlow hbox7 hres7 hown7 hown6 hgrow6 hat6 hbox6 hbox5 own5 c5 c6 c7 f6 huo
                  go_wp2_with fail
                  go_roundw
                  case rel => exact ⟨j + 1, a3, _, _, false, by omega, by go_num, hst7⟩
                  case measure => simp [intOf]; omega
              · have hil : ins.length ≤ 16777216 := by have := st.len; omega
                obtain ⟨p, c, rfl, hdrop⟩ := st.own.ints
                clear hdrop
                obtain ⟨⟨x0, x1, x2⟩, f0, f1, f2⟩ := box3 st.box
                obtain ⟨⟨v0, v1, v2⟩, h0, h1, h2⟩ := box3 st.res
                have hrl := st.rdr.le
                rcases (by omega : j = m ∨ j < m) with hjm | hlt3
                · have dlt : decide ((j : Int) < (m : Int)) = false := decide_eq_false (by omega)
                  have dlt2 : decide (j < m) = false := decide_eq_false (by omega)
                  cases bad
                  · obtain ⟨hs1, hs⟩ := st.says.1 rfl
                    rw [hjm, Nat.sub_self] at hs
                    have HR : Hid (rdNode i (l.drop a) = some (⟨kz, 0, ins⟩, l.drop aj)) := by
                      show _ = _
                      rw [HN.out, hs]
                      show nodeOf kz (some (ins ++ [], _)) = _
                      rw [List.append_nil]; rfl
                    have haa : a ≤ aj := by omega
                    clear hs hgo hjm
                    go_wp2_with fail
                    obtain ⟨e1, e2, e3⟩ := rone_close st.at_ (Nat.le_refl _) st.res (ownsRow_base st.own (by omega)) hla (.int .i64 kz) (.int .i64 0)
                    exact bodyPost_ret (results_node rfl rfl e3) rfl (rnode_yes (x := ⟨kz, 0, ins⟩) HR.out haa hrl e1 e2)
                  · have HR : Hid (rdNode i (l.drop a) = none) := by
                      show _ = _
                      rw [HN.out, st.says.2 rfl]; rfl
                    clear hgo hjm
                    go_wp2_with fail
                    obtain ⟨e1, e2, e3⟩ := rone_close st.at_ (Nat.le_refl _) st.res (ownsRow_base st.own (by omega)) hla (.int .i64 kz) (.int .i64 0)
                    exact bodyPost_ret (results_node rfl rfl e3) rfl (rnode_no (x := ⟨kz, 0, ins⟩) HR.out hrl e1 e2 hil)
                · have hb : bad = true := by
                    cases bad
                    · exact absurd ⟨hlt3, rfl⟩ hgo
                    · rfl
                  subst hb
                  have dlt : decide ((j : Int) < (m : Int)) = true := decide_eq_true (by omega)
                  have dlt2 : decide (j < m) = true := decide_eq_true (by omega)
                  have HR : Hid (rdNode i (l.drop a) = none) := by
                    show _ = _
                    rw [HN.out, st.says.2 rfl]; rfl
                  clear hgo
                  go_wp2_with fail
                  obtain ⟨e1, e2, e3⟩ := rone_close st.at_ (Nat.le_refl _) st.res (ownsRow_base st.own (by omega)) hla (.int .i64 kz) (.int .i64 0)
                  exact bodyPost_ret (results_node rfl rfl e3) rfl (rnode_no (x := ⟨kz, 0, ins⟩) HR.out hrl e1 e2 hil)
      · have q2 : (kz == 2) = false := by simp; omega
        have q3 : (kz == 3) = false := by simp; omega
        have q4 : (kz == 4) = false := by simp; omega
        have HN : Hid (rdNode i (l.drop a) = some (⟨kz, 0, []⟩, l.drop a1)) := by
          show _ = _
          unfold rdNode
          rw [hk]
          simp only [hk2, hk34, if_false, hkz]
        clear hk hk34 hk2 hkz r0 r1 r2 f0 f1 f2
        obtain ⟨⟨r0, r1, r2⟩, f0, f1, f2⟩ := box3 HBX2.out
        go_wp2_with fail
        obtain ⟨e1, e2, e3⟩ := rone_close' HAT2.out (Nat.le_refl _) HBX2.out (own_nil _ _) hla (.int .i64 kz) (.int .i64 0) (.cells #[.int .i64 kz, .int .i64 0, .slice none 0 0] 46)
        exact bodyPost_ret (results_node rfl rfl e3) rfl (rnode_yes (x := ⟨kz, 0, []⟩) HN.out ha1 hal e1 e2)
end Go.Proofs.Ytkfmblpcfgdgpaa
