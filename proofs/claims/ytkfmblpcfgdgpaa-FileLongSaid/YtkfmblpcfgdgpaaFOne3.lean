/- Walks: the reader of nodes with inputs. -/
import Derived.Test.YtkfmblpcfgdgpaaFOne2
import Derived.Test.YtkfmblpcfgdgpaaTake
namespace Go.Proofs.Ytkfmblpcfgdgpaa
open Go.RowKit

/-- What is read, behind some inputs. -/
def prep (ins : List Int) : Option (List Int × List UInt8) → Option (List Int × List UInt8)
  | none => none
  | some (l, r) => some (ins ++ l, r)
theorem rdIns_next {i m d : Nat} {b r : List UInt8} (h : rd i 0 0 b = some (d, r)) (ins : List Int) : prep ins (rdIns i (m + 1) b) = prep (ins ++ [(i : Int) - d]) (rdIns i m r) := by
  rw [rdIns, h]
  simp only []
  cases rdIns i m r with
  | none => rfl
  | some q => obtain ⟨l, r2⟩ := q; simp [prep]
theorem rdIns_stop {i m : Nat} {b : List UInt8} (h : rd i 0 0 b = none) (ins : List Int) : prep ins (rdIns i (m + 1) b) = none := by
  rw [rdIns, h]; rfl
/-- What stands in a round. -/
structure OneSt (w wr : World) (px B i m pa pb : Nat) (vb : Value) (l : List UInt8) (kk : Int) (a2 j a1 : Nat) (v : Value) (ins : List Int) : Prop where
  box : wr.heap[px]? = some (.cells #[.int .i64 kk, .int .i64 0, v] 46 (0, 0))
  res : wr.heap[w.heap.size]? = some (.cells #[.int .i64 0, .int .i64 0, .slice none 0 0] 46 (0, 0))
  own : OwnInts wr B v ins
  len : ins.length = j
  rdr : Rdr w.heap.size wr pa pb vb l a1
  at_ : AtSet w wr pa a1
  le : a2 ≤ a1
  says : rdIns i m (l.drop a2) = prep ins (rdIns i (m - j) (l.drop a1))
theorem grownBy_set (w : World) (b off : Nat) (v : Value) : w.grownBy (w.setCell ⟨b, off, none⟩ v) (some b) :=
  ⟨rfl, rfl, rfl, by simp [World.setCell], fun k _ hne => Below.heap_setCell _ _ _ k (fun e => hne (by rw [e]))⟩
def nodeOf (k : Int) : Option (List Int × List UInt8) → Option (NodeT × List UInt8)
  | none => none
  | some (l, r) => some (⟨k, 0, l⟩, r)
theorem rdNode_34 {i kn m : Nat} {b b1 b2 : List UInt8} (hk34 : kn = 3 ∨ kn = 4) (h1 : rd 4 0 0 b = some (kn, b1)) (h2 : rd 16777216 0 0 b1 = some (m, b2)) : rdNode i b = nodeOf (kn : Int) (rdIns i m b2) := by
  unfold rdNode
  rw [h1]
  simp only [show ¬ kn = 2 by omega, hk34, if_false, if_true]
  rw [h2]
  simp only []
  cases rdIns i m b2 with
  | none => rfl
  | some q => rfl
set_option maxRecDepth 100000 in
set_option maxHeartbeats 2000000 in
theorem one34_c (i : Nat) (hi : i ≤ 65536) (a pa pb : Nat) (v : Value) (l : List UInt8) (w : World) (hr : Rdr w.heap.size w pa pb v l a) (kn : Nat) (hk34 : kn = 3 ∨ kn = 4) (r0 : List UInt8) (hk : rd 4 0 0 (l.drop a) = some (kn, r0)) :
    Calls Try.prog 40 #[.func (.func 49) #[] #[.pointer (some ⟨pa, 0, none⟩), .pointer (some ⟨pb, 0, none⟩)], .int .i64 i] w (OnePost i a l pa w) := by
  have hB1 : Below w.heap.size w (w.alloc (.cells #[.int .i64 0, .int .i64 0, .slice none 0 0] 46)) := (Below.refl _ w).alloc (Nat.le_refl _) _
  have hr1 := hr.below hB1
  have hbx := heap_alloc_new w (.cells #[.int .i64 0, .int .i64 0, .slice none 0 0] 46)
  have HB1 := hid hB1
  have HBX := hid hbx
  clear hB1 hbx
  go_enter Try.func40, Try.ntmps40
  go_wp2_with fail
  generalize w.alloc (.cells #[.int .i64 0, .int .i64 0, .slice none 0 0] 46) = w1 at *
  refine (next_some (by omega) hr1 hk).mono ?_
  rintro e w2 ⟨rfl, a1, rfl, ha1, hal, hat⟩
  have hr2 := hr1.next hat hal
  have HAT := hid (hat.after HB1.out)
  have hbx2 : w2.heap[w.heap.size]? = some (.cells #[.int .i64 0, .int .i64 0, .slice none 0 0] 46 (0, 0)) := by
    rw [hat.2.block w.heap.size (box_lt HBX.out) (by have := hr.la; simp; omega)]; exact HBX.out
  have hlt2 : w.heap.size < w2.heap.size := box_lt hbx2
  have hlo : Below w.heap.size w2 (w2.alloc (.cells #[.int .i64 (kn : Int), .int .i64 0, .slice none 0 0] 46)) := (Below.refl _ w2).alloc (by omega) _
  have hlo2 : Below w2.heap.size w2 (w2.alloc (.cells #[.int .i64 (kn : Int), .int .i64 0, .slice none 0 0] 46)) := (Below.refl _ w2).alloc (Nat.le_refl _) _
  have hr3 := hr2.below hlo2
  have HA3 := hid (HAT.out.low hlo hr.la)
  have hx3 := heap_alloc_new w2 (.cells #[.int .i64 (kn : Int), .int .i64 0, .slice none 0 0] 46)
  have hbx3 : (w2.alloc (.cells #[.int .i64 (kn : Int), .int .i64 0, .slice none 0 0] 46)).heap[w.heap.size]? = some (.cells #[.int .i64 0, .int .i64 0, .slice none 0 0] 46 (0, 0)) := by
    rw [show (w2.alloc _).heap[w.heap.size]? = w2.heap[w.heap.size]? from heap_alloc_old w2 _ hlt2]; exact hbx2
  have HX3 := hid hx3
  have HBX3 := hid hbx3
  clear hbx2 hbx3 hx3 hlo hlo2 hat
  cases hc : rd 16777216 0 0 (l.drop a1) with
  | none =>
    have HN : Hid (rdNode i (l.drop a) = none) := by
      show _ = _
      unfold rdNode
      rw [hk]
      simp only [show ¬ kn = 2 by omega, hk34, if_false, if_true]
      rw [hc]
    clear hk
    obtain rfl | rfl := hk34
    all_goals
      go_wp2_with fail
      refine (next_none (by omega) hr3 hc).mono ?_
      rintro e w3 ⟨rfl, a', hat3⟩
      exact bodyPost_panic rfl (onePost_no HN.out (HA3.out.trans hat3))
  | some q2 =>
    obtain ⟨m, r'⟩ := q2
    have hmm := (num_rd hc).2
    have hq := rdNode_34 (i := i) hk34 hk hc
    obtain ⟨kz, hkz⟩ : ∃ kz : Int, kz = (kn : Int) := ⟨_, rfl⟩
    rw [← hkz] at hq
    obtain rfl | rfl := hk34
    all_goals
      go_wp2_with fail
      generalize hw3 : w2.alloc _ = w3 at *
      refine (next_some (by omega) hr3 hc).mono ?_
      rintro e w4 ⟨rfl, a2, rfl, ha2, hal2, hat4⟩
      have HN := hid hq
      have hst : OneSt w w4 w2.heap.size (w2.heap.size + 1) i m pa pb v l kz a2 0 a2 (.slice none 0 0) [] := by
        refine ⟨?_, ?_, own_nil _ _, rfl, hr3.next hat4 hal2, HA3.out.trans hat4, Nat.le_refl _, ?_⟩
        · rw [hat4.2.block w2.heap.size (box_lt HX3.out) (by have := hr.la; simp; omega), HX3.out, hkz]
        · rw [hat4.2.block w.heap.size (box_lt HBX3.out) (by have := hr.la; simp; omega), HBX3.out]
        · show _ = prep [] _
          rw [Nat.sub_zero]
          cases rdIns i m (l.drop a2) with
          | none => rfl
          | some q => rfl
      clear hk hc hq
      go_wp2_with fail
      have hla := hr.la
      have ha02 : a ≤ a2 := by omega
      generalize hpx : w2.heap.size = px at *
      have HKZ := hid hkz
      clear hkz hpx hw3 hr1 hr2 hr3 HA3 HX3 HBX3 HAT HBX HB1 hat4
      go_loopw [31] (fun jj wr => ∃ (j a1 : Nat) (u : Value) (ins : List Int), j ≤ m ∧ jj = .int .i64 j ∧ OneSt w wr px (px + 1) i m pa pb v l kz a2 j a1 u ins) (fun jj _ => m - (intOf jj).toNat)
      case atStart => exact ⟨0, a2, _, [], by omega, rfl, hst⟩
      case round =>
        clear hst
        obtain ⟨j, aj, u, ins, hj, rfl, st⟩ := hrel
        by_cases hlt3 : j < m
        · obtain ⟨j2, hj2⟩ : ∃ j2, m - j = j2 + 1 := ⟨m - j - 1, by omega⟩
          have hbel : Below wr.heap.size wr wr.drew := (Below.refl _ wr).drew
          have hrd := st.rdr.below hbel
          have hatd := st.at_.low (Below.refl _ wr).drew hla
          obtain ⟨⟨x0, x1, x2⟩, f0, f1, f2⟩ := box3 st.box
          have z1 : wr.drew.cell? ⟨px, 2, none⟩ = some u := x2
          obtain ⟨i0, hi0, hz0, hz1, hz2⟩ := info_parts info_int
          go_wp2_with fail
          refine Go.Proofs.Ytkfmblpcfgdgpaa.wp_region_L 11 8 (fun w' => w'.cell? ⟨px, 2, none⟩ = some u) (by kernel_rfl) rfl z1 (fun hS => ?_)
          refine wpAnyL_pure (i := 0) (v := .pointer (some ⟨px, 2, none⟩)) (by simp only [List.getElem?_toArray, List.getElem?_cons_zero] <;> rfl) (by kernel_rfl) (by kernel_rfl) (by kernel_rfl) (by exact fun _ _ _ h => h) (by decide) hS (Or.inl ⟨by rfl, fun w _ => (by simp [execOp, go_sem, Act.eval])⟩) (fun hS => ?_)
          simp only [Act.put, List.setIfInBounds_toArray, List.set_cons_zero, List.set_cons_succ]
          refine wpAnyL_load (i := 1) (v := u) (by simp only [List.getElem?_toArray, List.getElem?_cons_zero, List.getElem?_cons_succ] <;> rfl) (by kernel_rfl) (by kernel_rfl) (by kernel_rfl) (by exact fun _ _ _ h => h) (by decide) ⟨_, rfl, ⟨1, .data⟩, by simp, rfl, rfl⟩ (by kernel_rfl) hS (Or.inl ⟨by rfl, fun w hw => (by have hw : w.cell? ⟨px, 2, none⟩ = some u := hw; simp [execOp, go_sem, Act.eval, hw])⟩) (fun hS => ?_)
          simp only [Act.put, List.setIfInBounds_toArray, List.set_cons_zero, List.set_cons_succ]
          refine wpAnyL_pure (i := 2) (v := .int .i64 (i : Int)) (by simp only [List.getElem?_toArray, List.getElem?_cons_zero, List.getElem?_cons_succ] <;> rfl) (by kernel_rfl) (by kernel_rfl) (by kernel_rfl) (by exact fun _ _ _ h => h) (by decide) hS (Or.inl ⟨by rfl, fun w _ => (by simp [execOp, go_sem, Act.eval])⟩) (fun hS => ?_)
          simp only [Act.put, List.setIfInBounds_toArray, List.set_cons_zero, List.set_cons_succ]
          refine wpAnyL_pure (i := 3) (v := .func (.func 49) #[] #[.pointer (some ⟨pa, 0, none⟩), .pointer (some ⟨pb, 0, none⟩)]) (by simp only [List.getElem?_toArray, List.getElem?_cons_zero, List.getElem?_cons_succ] <;> rfl) (by kernel_rfl) (by kernel_rfl) (by kernel_rfl) (by exact fun _ _ _ h => h) (by decide) hS (Or.inl ⟨by rfl, fun w _ => (by simp [execOp, go_sem, Act.eval])⟩) (fun hS => ?_)
          simp only [Act.put, List.setIfInBounds_toArray, List.set_cons_zero, List.set_cons_succ]
          refine wpAnyL_pure (i := 4) (v := .int .i64 (i : Int)) (by simp only [List.getElem?_toArray, List.getElem?_cons_zero, List.getElem?_cons_succ] <;> rfl) (by kernel_rfl) (by kernel_rfl) (by kernel_rfl) (by exact fun _ _ _ h => h) (by decide) hS (Or.inl ⟨by rfl, fun w _ => (by simp [execOp, go_sem, Act.eval])⟩) (fun hS => ?_)
          simp only [Act.put, List.setIfInBounds_toArray, List.set_cons_zero, List.set_cons_succ]
          refine wpAnyL_one (i := 5) (by kernel_rfl) (by simp only [List.getElem?_toArray, List.getElem?_cons_zero, List.getElem?_cons_succ] <;> rfl) (by rfl) ?_
          refine opwp_call (f := 49) (args := #[.int .i64 (i : Int), .pointer (some ⟨pa, 0, none⟩), .pointer (some ⟨pb, 0, none⟩)]) (w' := wr.drew) (by simp [execOp, go_sem, Act.eval]) ?_
          cases hd : rd i 0 0 (l.drop aj) with
          | none =>
            have hsy := st.says
            rw [hj2, rdIns_stop hd] at hsy
            refine (next_none (by omega) hrd hd).mono ?_
            rintro e w5 ⟨rfl, a', hat5⟩
            exact .inr ⟨_, rfl, bodyPost_panic (P := Try.prog) (fn := Try.f40) rfl (onePost_no (by rw [HN.out, hsy]; rfl) (hatd.trans hat5))⟩
          | some qd =>
            obtain ⟨d, rr⟩ := qd
            have hdi := (num_rd hd).2
            have hsy := st.says
            rw [hj2, rdIns_next hd] at hsy
            have hjm : m - (j + 1) = j2 := by omega
            rw [← hjm] at hsy
            have HSY := hid hsy
            clear hsy hjm
            refine (next_some (by omega) hrd hd).mono ?_
            rintro e w5 ⟨rfl, a3, rfl, ha3, hal3, hat5⟩
            have hbox5 : w5.heap[px]? = some (.cells #[.int .i64 kz, .int .i64 0, u] 46 (0, 0)) := (hat5.2.block px (box_lt (w := wr) st.box) (by simp; omega)).trans st.box
            have own5 : OwnInts w5 (px + 1) u ins := by
              refine World.ownsRow.kept (w := wr.drew) st.own hat5.2 (.inr fun e => ?_)
              have := (World.ownsRow.lt st.own pa e).1
              omega
            have c5 : w5.cell? ⟨px, 2, none⟩ = some u := (box3 hbox5).1.2.2
            have hlt5 : px < w5.heap.size := box_lt hbox5
            have c6 : (w5.alloc (.cells #[.int .i64 ((i : Int) - (d : Int))] 3)).cell? ⟨px, 2, none⟩ = some u := by
              rw [World.cell?_alloc_lt w5 _ ⟨px, 2, none⟩ hlt5]; exact c5
            have hil : ins.length = j := st.len
            have z2 : 0 ≤ (i : Int) - (d : Int) := by omega
            have z3 : IntKind.i64.wrap ((i : Int) - (d : Int)) = (i : Int) - (d : Int) := IntWalk.i64_in _ (by omega)
            refine .inl ⟨_, rfl, .inr c5, ?_⟩
            simp only [Act.put, List.setIfInBounds_toArray, List.set_cons_zero, List.set_cons_succ]
            refine wpAnyL_one (i := 6) (by kernel_rfl) (by simp only [List.getElem?_toArray, List.getElem?_cons_zero, List.getElem?_cons_succ] <;> rfl) (by rfl) ?_
            refine opwp_value (v := .int .i64 ((i : Int) - (d : Int))) (w' := w5) (by simp [execOp, go_sem, Act.eval, z3]) ⟨.inr c5, ?_⟩
            simp only [Act.put, List.setIfInBounds_toArray, List.set_cons_zero, List.set_cons_succ]
            refine wpAnyL_one (i := 7) (by kernel_rfl) (by simp only [List.getElem?_toArray, List.getElem?_cons_zero, List.getElem?_cons_succ] <;> rfl) (by rfl) ?_
            refine opwp_value (v := .slice (some ⟨w5.heap.size, 0, none⟩) 1 1) (w' := w5.alloc (.cells #[.int .i64 ((i : Int) - (d : Int))] 3)) (by simp [execOp, go_sem, Act.eval]) ⟨.inr c6, ?_⟩
            simp only [Act.put, List.setIfInBounds_toArray, List.set_cons_zero, List.set_cons_succ]
            refine wpAnyL_one (i := 8) (by kernel_rfl) (by simp only [List.getElem?_toArray, List.getElem?_cons_zero, List.getElem?_cons_succ] <;> rfl) (by rfl) ?_
            refine wp_append_lies _ _ _ 44 rfl (px + 1) 3 i0 (.int .i64 0) 1 8 Try.underlying44 hi0 hz0 hz1 hz2 rfl (by decide) u ins.length (ins.map (Value.int .i64)) rfl (own5.alloc _) ⟨w5.heap.size, 0, none⟩ 1 1 [.int .i64 ((i : Int) - (d : Int))] rfl (by simp) (World.news_of_block (heap_alloc_new _ _)) (by simp [Value.oneCell']) (by omega) (by unfold maxLen; omega) (by omega) (by simp; omega) _ rfl ?_
            intro gg cap w6 hown6 hgrow6 hat6 hlt6
            have huo : ∀ k, u.ownBlock = some k → px + 1 ≤ k := fun k e => (World.ownsRow.lt own5 k e).1
            have hbox6 : w6.heap[px]? = some (.cells #[.int .i64 kz, .int .i64 0, u] 46 (0, 0)) := by
              rw [hgrow6.block px (by simp; omega) (fun e => by have := huo _ e.symm; omega), heap_alloc_old w5 _ hlt5]; exact hbox5
            have f6 := (box3 hbox6).2.2.2
            have c7 := (box3 hbox6).1.2.2
            refine ⟨.inl (by kernel_rfl), ?_⟩
            simp only [Act.put, List.setIfInBounds_toArray, List.set_cons_zero, List.set_cons_succ]
            refine wpAnyL_one (i := 9) (by kernel_rfl) (by simp only [List.getElem?_toArray, List.getElem?_cons_zero, List.getElem?_cons_succ] <;> rfl) (by rfl) ?_
            refine opwp_value (v := .pointer (some ⟨px, 2, none⟩)) (w' := w6) (by simp [execOp, go_sem, Act.eval]) ⟨.inl (by kernel_rfl), ?_⟩
            simp only [Act.put, List.setIfInBounds_toArray, List.set_cons_zero, List.set_cons_succ]
            refine wpAnyL_one (i := 10) (by kernel_rfl) (by simp only [List.getElem?_toArray, List.getElem?_cons_zero, List.getElem?_cons_succ] <;> rfl) (by rfl) ?_
            refine opwp_skip (w' := w6.setCell ⟨px, 2, none⟩ (.slice (some ⟨gg, 0, none⟩) (ins.length + 1) cap)) (by simp [execOp, go_sem, Act.eval, c7, f6]) ⟨.inl (by kernel_rfl), ?_⟩
            simp only [Act.put]
            refine wpAnyL_done (by kernel_rfl) ?_ _
            have hlow : Below w.heap.size w5 (w6.setCell ⟨px, 2, none⟩ (.slice (some ⟨gg, 0, none⟩) (ins.length + 1) cap)) :=
              (((Below.refl w.heap.size w5).alloc (by omega) _).grown hgrow6 (by simp; omega) (fun k e => by have := huo _ e; omega)).setCell (p := ⟨px, 2, none⟩) (by show w.heap.size ≤ px; omega) _
            have hbox7 := block_set hbox6 (.slice (some ⟨gg, 0, none⟩) (ins.length + 1) cap) 2
            have hres7 : (w6.setCell ⟨px, 2, none⟩ (.slice (some ⟨gg, 0, none⟩) (ins.length + 1) cap)).heap[w.heap.size]? = some (.cells #[.int .i64 0, .int .i64 0, .slice none 0 0] 46 (0, 0)) := by
              rw [Below.heap_setCell _ _ _ _ (by show w.heap.size ≠ px; omega), hgrow6.block w.heap.size (by simp; omega) (fun e => by have := huo _ e.symm; omega), heap_alloc_old w5 _ (by omega), hat5.2.block w.heap.size (box_lt (w := wr) st.res) (by simp; omega)]
              exact st.res
            have hown7 : OwnInts (w6.setCell ⟨px, 2, none⟩ (.slice (some ⟨gg, 0, none⟩) (ins.length + 1) cap)) (px + 1) (.slice (some ⟨gg, 0, none⟩) (ins.length + 1) cap) (ins ++ [(i : Int) - (d : Int)]) := by
              have := World.ownsRow.kept hown6 (grownBy_set w6 px 2 (.slice (some ⟨gg, 0, none⟩) (ins.length + 1) cap)) (.inr (own_ne_box hown6 hbox6 (by decide)))
              unfold OwnInts
              rw [List.map_append, List.length_append]
              exact this
            have hst7 : OneSt w (w6.setCell ⟨px, 2, none⟩ (.slice (some ⟨gg, 0, none⟩) (ins.length + 1) cap)) px (px + 1) i m pa pb v l kz a2 (j + 1) a3 (.slice (some ⟨gg, 0, none⟩) (ins.length + 1) cap) (ins ++ [(i : Int) - (d : Int)]) :=
              ⟨by simpa using hbox7, hres7, hown7, by simp [hil], (hrd.next hat5 hal3).low hlow, (hatd.trans hat5).low hlow hla, by have := st.le; omega, HSY.out⟩
            clear hil hlow hbox7 hres7 hown7 hown6 hgrow6 hat6 hbox6 hbox5 own5 c5 c6 c7 f6 huo
            go_wp2_with fail
            go_roundw
            case rel => exact ⟨j + 1, a3, _, _, by omega, by go_num, hst7⟩
            case measure => simp [intOf]; omega
        · obtain rfl : j = m := by omega
          have hs := st.says
          rw [Nat.sub_self] at hs
          have HR : Hid (rdNode i (l.drop a) = some (⟨kz, 0, ins⟩, l.drop aj)) := by
            show _ = _
            rw [HN.out, hs]
            show nodeOf kz (some (ins ++ [], _)) = _
            rw [List.append_nil]; rfl
          obtain ⟨p, c, rfl, hdrop⟩ := st.own.ints
          clear hdrop hs
          obtain ⟨⟨x0, x1, x2⟩, f0, f1, f2⟩ := box3 st.box
          obtain ⟨⟨y0, y1, y2⟩, g0, g1, g2⟩ := box3 st.res
          go_wp2_with fail
          obtain ⟨e1, e2, e3⟩ := one_close st.at_ (Nat.le_refl _) st.res (ownsRow_base st.own (by omega)) hla (.int .i64 kz) (.int .i64 0)
          exact bodyPost_ret (results_node rfl rfl e3) rfl (onePost_yes HR.out (by have := st.le; omega) st.rdr.le e1 e2)
theorem one_c (i : Nat) (hi : i ≤ 65536) (a pa pb : Nat) (v : Value) (l : List UInt8) (w : World) (hr : Rdr w.heap.size w pa pb v l a) :
    Calls Try.prog 40 #[.func (.func 49) #[] #[.pointer (some ⟨pa, 0, none⟩), .pointer (some ⟨pb, 0, none⟩)], .int .i64 i] w (OnePost i a l pa w) := by
  by_cases h : ∃ q, rd 4 0 0 (l.drop a) = some q ∧ (q.1 = 3 ∨ q.1 = 4)
  · obtain ⟨⟨kn, r0⟩, h1, h2⟩ := h
    exact one34_c i hi a pa pb v l w hr kn h2 r0 h1
  · exact one012_c i a pa pb v l w hr (fun q h1 h2 => h ⟨q, h1, h2⟩)
end Go.Proofs.Ytkfmblpcfgdgpaa
