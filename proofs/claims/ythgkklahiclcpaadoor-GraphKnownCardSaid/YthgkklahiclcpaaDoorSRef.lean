/- Walks: the reference of the layer graph: missing pairs. -/
import Derived.Test.YthgkklahiclcpaaDoorSWalk6
import Derived.Test.YthgkklahiclcpaaDoorSRefP
namespace Go.Proofs.YthgkklahiclcpaaDoor
open Go.RowKit
attribute [local go_sem ↓] run_eqlS run_neqS run_eqlS0 run_neqS0

def flat (ps : List (Int × Int)) : List Int := ps.flatMap fun p => [p.1, p.2]
theorem flat_append (a b : List (Int × Int)) : flat (a ++ b) = flat a ++ flat b := by unfold flat; exact List.flatMap_append
theorem flat_length : ∀ ps : List (Int × Int), (flat ps).length = 2 * ps.length
  | [] => rfl
  | p :: ps => by
    have := flat_length ps
    unfold flat at *
    rw [List.flatMap_cons, List.length_append, this]; simp; omega
theorem rowTo_length (g : Gr) (l : List Int) (a : Int) (k : Nat) : (rowTo g l a k).length ≤ k := by
  have h : ∀ m : List Int, (m.flatMap (cellP g a)).length ≤ m.length := by
    intro m
    induction m with
    | nil => simp
    | cons b m ih =>
      rw [List.flatMap_cons, List.length_append, List.length_cons]
      have : (cellP g a b).length ≤ 1 := by unfold cellP; split <;> simp
      omega
  have := h (l.take k)
  unfold rowTo
  rw [List.length_take] at this
  omega
theorem missTo_length (g : Gr) (l : List Int) : ∀ i, i ≤ 128 → (missTo g l i).length ≤ 128 * i
  | 0, _ => by simp [missTo]
  | i + 1, h => by
    have h1 := missTo_length g l i (by omega)
    have h2 := rowTo_length g l (l.getD i 0) i
    rw [missTo, List.length_append]; omega
def MissPost (g : Gr) (v : Int) (w : World) (e : Ending) (w' : World) : Prop := ∃ u, e = .returned u ∧ NewInts w' w.heap.size u (flat (missP g v)) ∧ Below w.heap.size w w'
structure MiSt (w3 wr : World) (g : Gr) (l : List Int) (i k : Nat) (u : Value) : Prop where
  own : NewInts wr w3.heap.size u (flat (missTo g l i ++ rowTo g l (l.getD i 0) k))
  low : Below w3.heap.size w3 wr
set_option maxRecDepth 100000 in
set_option maxHeartbeats 4000000 in
theorem rMissing_c (v : Value) (L : List VS) (vn : Nat) (w : World) (hI : SetsAt w v L) (hv : vn < L.length) (hr : ∀ u, has (gOf L (vn : Int)) u = true → u < (L.length : Int)) (hl : L.length ≤ 129) :
    Calls Tryd.prog 54 #[v, .int .i64 (vn : Int)] w (MissPost (gOf L) (vn : Int) w) := by
  obtain ⟨i0, hi, hz0, hz1, hz2⟩ := info_parts info_int
  obtain ⟨p, c, rfl, h⟩ := hI
  obtain ⟨b, off, rfl, hc⟩ := h.resolve_left (by rintro rfl; simp at hv)
  have HC := hid hc
  obtain ⟨q0, q1⟩ := hc vn hv
  have HG := hid (gOf_nat L vn hv)
  have z1 : (0 : Int) ≤ (vn : Int) ∧ (vn : Int) < (L.length : Int) := by omega
  have HR := hid hr
  have lb : b < w.heap.size := cell_lt q0
  generalize hss : L[vn] = s at *
  clear hc h hr hss
  go_enter Tryd.func54, Tryd.ntmps54
  go_wp2_with fail
  refine (rList_c s w).mono ?_
  rintro e w3 ⟨v3, rfl, hn3, hb3⟩
  obtain ⟨pm, cm, e4, hm⟩ := hn3.ints
  subst e4
  have HM := hid hm
  have hml := mems_length s
  have hlb3 := hb3.size
  clear hm hn3 q0 q1
  go_wp2_with fail
  go_loopw [5, 7] (fun u i wr => ∃ k : Nat, k ≤ (mems s).length ∧ i = .int .i64 k ∧ MiSt w3 wr (gOf L) (mems s) k 0 u) (fun _ i _ => (mems s).length - (intOf i).toNat)
  case atStart => exact ⟨0, Nat.zero_le _, rfl, ⟨⟨World.ownsRow_nil _ _ _ _, by simp [missTo, rowTo, flat]⟩, Below.refl _ _⟩⟩
  case round =>
    obtain ⟨i, hi1, rfl, st⟩ := hrel
    by_cases hil : i < (mems s).length
    · obtain ⟨bm, om, rfl, hm⟩ := HM.out.resolve_left (by intro e; rw [e] at hil; simp at hil)
      have HMM := hid hm
      have hci := hm i hil
      rw [List.getElem?_eq_getElem hil, Option.getD_some] at hci
      have hmem : has s (mems s)[i] = true := (mem_mems _ _).1 (List.getElem_mem hil)
      have hrg := has_range hmem
      have hru := HR.out _ (by rw [HG.out]; exact hmem)
      obtain ⟨an, han⟩ : ∃ an : Nat, (mems s)[i] = (an : Int) := ⟨((mems s)[i]).toNat, by omega⟩
      have HAN := hid (show (mems s).getD i 0 = (an : Int) by rw [List.getD_eq_getElem?_getD, List.getElem?_eq_getElem hil]; exact han)
      rw [han] at hci hrg hru
      have hla : an < L.length := by omega
      have lbm : bm < w3.heap.size := cell_lt hci
      have HCI := hid hci
      have zi : (0 : Int) ≤ (i : Int) ∧ (i : Int) < ((mems s).length : Int) := by omega
      have za : (0 : Int) ≤ (an : Int) ∧ (an : Int) < (L.length : Int) := by omega
      have HGA := hid (gOf_nat L an hla)
      have hsa := HC.out an hla
      generalize L[an] = t at *
      have HSA := hid hsa
      have HIL := hid hil
      have hsz0 := st.low.size
      clear hm hci hmem hrg hru han hil hsa
      obtain ⟨wo, hwo⟩ : ∃ wo : World, wo = w3 := ⟨_, rfl⟩
      go_wp2_with fail
      go_loopw [5, 8] (fun u j wq => ∃ k : Nat, k ≤ i ∧ j = .int .i64 k ∧ MiSt w3 wq (gOf L) (mems s) i k u) (fun _ j _ => i - (intOf j).toNat)
      case atStart => exact ⟨0, Nat.zero_le _, rfl, st⟩
      case round =>
        clear st
        obtain ⟨k, hk, rfl, st⟩ := hrel
        have hszr := st.low.size
        by_cases hki : k < i
        · have hkl : k < (mems s).length := by have := HIL.out; omega
          have hck := HMM.out k hkl
          rw [List.getElem?_eq_getElem hkl, Option.getD_some] at hck
          have ci := (st.low.cell (cell_lt HCI.out)).trans HCI.out
          have ck := (st.low.cell (cell_lt hck)).trans hck
          have hsr := (HSA.out.below hb3).below st.low
          obtain ⟨r0, r1⟩ := hsr
          have lbr : b < wr.heap.size := by omega
          have lbmr : bm < wr.heap.size := by omega
          have zk : (0 : Int) ≤ (k : Int) ∧ (k : Int) < ((mems s).length : Int) := by omega
          have HRS := hid (rowTo_succ (gOf L) (mems s) (an : Int) k hkl)
          have HCE : Hid (cellP (gOf L) (an : Int) (mems s)[k] = if has t (mems s)[k] = true then [] else [((an : Int), (mems s)[k])]) := by
            show _ = _
            unfold cellP; rw [HGA.out]
          generalize (mems s)[k] = y at *
          have p1 := fun x => rHas_c t y (ext wr x)
          have HST := hid st
          clear hck st
          cases hh : has t y
          · rw [hh] at p1
            rw [hh] at HCE
            clear hh
            go_wp2_with fail
            refine wp_region_pure (by kernel_rfl) (by kernel_rfl) ?_
            repeat (go_big_quiet_step ((first | (go_at_call 35; exact Calls.ext_of (p1 _)))))
            refine wpQuiet_nil ?_
            intro w5 hb5
            have c5i := (hb5.cell (cell_lt ci)).trans ci
            have c5k := (hb5.cell (cell_lt ck)).trans ck
            have hO5 := HST.out.own.below hb5 (Nat.le_refl _)
            have hB5 := HST.out.low.trans (hb5.mono hszr)
            have hsz5 := hB5.size
            have hfl : (flat (missTo (gOf L) (mems s) i ++ rowTo (gOf L) (mems s) ((mems s).getD i 0) k)).length ≤ 33280 := by
              rw [flat_length, List.length_append]
              have h1 := missTo_length (gOf L) (mems s) i (by omega)
              have h2 := rowTo_length (gOf L) (mems s) ((mems s).getD i 0) k
              omega
            obtain ⟨pu, cu, eu, hdrop⟩ := hO5.ints
            clear hdrop ci ck r0 r1 p1 hb5
            go_wp2_with fail
            refine Go.Proofs.YthgkklahiclcpaaDoor.wp_region_L 12 9 (fun w' => w'.cell? ⟨bm, om + i, none⟩ = some (.int .i64 (an : Int)) ∧ w'.cell? ⟨bm, om + k, none⟩ = some (.int .i64 y)) (by kernel_rfl) rfl ⟨c5i, c5k⟩ (fun hS => ?_)
            refine wpAnyL_pure (i := 0) (v := u5) (by simp only [List.getElem?_toArray, List.getElem?_cons_zero] <;> rfl) (by kernel_rfl) (by kernel_rfl) (by kernel_rfl) (by exact fun _ _ _ h => h) (by decide) hS (Or.inl ⟨by rfl, fun w _ => (by simp [execOp, go_sem, Act.eval])⟩) (fun hS => ?_)
            simp only [Act.put, List.setIfInBounds_toArray, List.set_cons_zero, List.set_cons_succ]
            refine wpAnyL_pure (i := 1) (v := .slice (some ⟨bm, om, none⟩) (mems s).length cm) (by simp only [List.getElem?_toArray, List.getElem?_cons_zero, List.getElem?_cons_succ] <;> rfl) (by kernel_rfl) (by kernel_rfl) (by kernel_rfl) (by exact fun _ _ _ h => h) (by decide) hS (Or.inl ⟨by rfl, fun w _ => (by simp [execOp, go_sem, Act.eval])⟩) (fun hS => ?_)
            simp only [Act.put, List.setIfInBounds_toArray, List.set_cons_zero, List.set_cons_succ]
            refine wpAnyL_pure (i := 2) (v := .int .i64 (i : Int)) (by simp only [List.getElem?_toArray, List.getElem?_cons_zero, List.getElem?_cons_succ] <;> rfl) (by kernel_rfl) (by kernel_rfl) (by kernel_rfl) (by exact fun _ _ _ h => h) (by decide) hS (Or.inl ⟨by rfl, fun w _ => (by simp [execOp, go_sem, Act.eval])⟩) (fun hS => ?_)
            simp only [Act.put, List.setIfInBounds_toArray, List.set_cons_zero, List.set_cons_succ]
            refine wpAnyL_pure (i := 3) (v := .pointer (some ⟨bm, om + i, none⟩)) (by simp only [List.getElem?_toArray, List.getElem?_cons_zero, List.getElem?_cons_succ] <;> rfl) (by kernel_rfl) (by kernel_rfl) (by kernel_rfl) (by exact fun _ _ _ h => h) (by decide) hS (Or.inl ⟨by rfl, fun w _ => (by simp [execOp, go_sem, Act.eval, zi])⟩) (fun hS => ?_)
            simp only [Act.put, List.setIfInBounds_toArray, List.set_cons_zero, List.set_cons_succ]
            refine wpAnyL_load (i := 4) (v := .int .i64 (an : Int)) (by simp only [List.getElem?_toArray, List.getElem?_cons_zero, List.getElem?_cons_succ] <;> rfl) (by kernel_rfl) (by kernel_rfl) (by kernel_rfl) (by exact fun _ _ _ h => h) (by decide) ⟨_, rfl, ⟨4, .data⟩, by simp, rfl, rfl⟩ (by kernel_rfl) hS (Or.inl ⟨by rfl, fun w hw => (by obtain ⟨x0, x1⟩ := hw; simp [execOp, go_sem, Act.eval, x0])⟩) (fun hS => ?_)
            simp only [Act.put, List.setIfInBounds_toArray, List.set_cons_zero, List.set_cons_succ]
            refine wpAnyL_pure (i := 5) (v := .slice (some ⟨bm, om, none⟩) (mems s).length cm) (by simp only [List.getElem?_toArray, List.getElem?_cons_zero, List.getElem?_cons_succ] <;> rfl) (by kernel_rfl) (by kernel_rfl) (by kernel_rfl) (by exact fun _ _ _ h => h) (by decide) hS (Or.inl ⟨by rfl, fun w _ => (by simp [execOp, go_sem, Act.eval])⟩) (fun hS => ?_)
            simp only [Act.put, List.setIfInBounds_toArray, List.set_cons_zero, List.set_cons_succ]
            refine wpAnyL_pure (i := 6) (v := .int .i64 (k : Int)) (by simp only [List.getElem?_toArray, List.getElem?_cons_zero, List.getElem?_cons_succ] <;> rfl) (by kernel_rfl) (by kernel_rfl) (by kernel_rfl) (by exact fun _ _ _ h => h) (by decide) hS (Or.inl ⟨by rfl, fun w _ => (by simp [execOp, go_sem, Act.eval])⟩) (fun hS => ?_)
            simp only [Act.put, List.setIfInBounds_toArray, List.set_cons_zero, List.set_cons_succ]
            refine wpAnyL_pure (i := 7) (v := .pointer (some ⟨bm, om + k, none⟩)) (by simp only [List.getElem?_toArray, List.getElem?_cons_zero, List.getElem?_cons_succ] <;> rfl) (by kernel_rfl) (by kernel_rfl) (by kernel_rfl) (by exact fun _ _ _ h => h) (by decide) hS (Or.inl ⟨by rfl, fun w _ => (by simp [execOp, go_sem, Act.eval, zk])⟩) (fun hS => ?_)
            simp only [Act.put, List.setIfInBounds_toArray, List.set_cons_zero, List.set_cons_succ]
            refine wpAnyL_load (i := 8) (v := .int .i64 y) (by simp only [List.getElem?_toArray, List.getElem?_cons_zero, List.getElem?_cons_succ] <;> rfl) (by kernel_rfl) (by kernel_rfl) (by kernel_rfl) (by exact fun _ _ _ h => h) (by decide) ⟨_, rfl, ⟨8, .data⟩, by simp, rfl, rfl⟩ (by kernel_rfl) hS (Or.inl ⟨by rfl, fun w hw => (by obtain ⟨x0, x1⟩ := hw; simp [execOp, go_sem, Act.eval, x1])⟩) (fun hS => ?_)
            simp only [Act.put, List.setIfInBounds_toArray, List.set_cons_zero, List.set_cons_succ]
            refine wpAnyL_one (i := 9) (by kernel_rfl) (by simp only [List.getElem?_toArray, List.getElem?_cons_zero, List.getElem?_cons_succ] <;> rfl) (by rfl) ?_
            refine opwp_value (v := .slice (some ⟨w5.heap.size, 0, none⟩) 2 2) (w' := w5.drew.alloc (.cells #[.int .i64 (an : Int), .int .i64 y] 3)) (by simp [execOp, go_sem, Act.eval]) ⟨.inl (by kernel_rfl), ?_⟩
            simp only [Act.put, List.setIfInBounds_toArray, List.set_cons_zero, List.set_cons_succ]
            refine wpAnyL_one (i := 10) (by kernel_rfl) (by simp only [List.getElem?_toArray, List.getElem?_cons_zero, List.getElem?_cons_succ] <;> rfl) (by rfl) ?_
            have hO5d : NewInts w5.drew w3.heap.size u5 (flat (missTo (gOf L) (mems s) i ++ rowTo (gOf L) (mems s) ((mems s).getD i 0) k)) := hO5
            refine wp_append_lies _ _ _ 25 rfl w3.heap.size 3 i0 (.int .i64 0) 1 8 Tryd.underlying25 hi hz0 hz1 hz2 rfl (by decide) u5 _ _ rfl (hO5d.1.alloc _) ⟨w5.heap.size, 0, none⟩ 2 2 [.int .i64 (an : Int), .int .i64 y] rfl (by simp) (World.news_of_block (heap_alloc_new w5.drew _)) (by simp [Value.oneCell']) (by omega) (by unfold maxLen; omega) (by omega) (by simp; omega) _ rfl ?_
            intro gg cap w6 hown6 hgrow6 hat6 hlt6
            refine ⟨.inl (by kernel_rfl), ?_⟩
            simp only [Act.put, List.setIfInBounds_toArray, List.set_cons_zero, List.set_cons_succ]
            refine wpAnyL_one (i := 11) (by kernel_rfl) (by simp only [List.getElem?_toArray, List.getElem?_cons_zero, List.getElem?_cons_succ] <;> rfl) (by rfl) ?_
            refine opwp_value (v := .slice (some ⟨gg, 0, none⟩) ((flat (missTo (gOf L) (mems s) i ++ rowTo (gOf L) (mems s) ((mems s).getD i 0) k)).length + 2) cap) (w' := w6) (by simp [execOp, go_sem, Act.eval]) ⟨.inl (by kernel_rfl), ?_⟩
            simp only [Act.put, List.setIfInBounds_toArray, List.set_cons_zero, List.set_cons_succ]
            refine wpAnyL_done (by kernel_rfl) ?_ _
            have hlt5 := hO5.1.lt
            have hB6 : Below w3.heap.size w3 w6 := (hB5.drew.alloc hsz5 (.cells #[.int .i64 (an : Int), .int .i64 y] 3)).grown hgrow6 (by simp; omega) (fun j e => by have := hlt5 j e; omega)
            have hN6 : NewInts w6 w3.heap.size (.slice (some ⟨gg, 0, none⟩) ((flat (missTo (gOf L) (mems s) i ++ rowTo (gOf L) (mems s) ((mems s).getD i 0) k)).length + 2) cap) (flat (missTo (gOf L) (mems s) i ++ rowTo (gOf L) (mems s) ((mems s).getD i 0) (k + 1))) := by
              have e : flat (missTo (gOf L) (mems s) i ++ rowTo (gOf L) (mems s) ((mems s).getD i 0) (k + 1)) = flat (missTo (gOf L) (mems s) i ++ rowTo (gOf L) (mems s) ((mems s).getD i 0) k) ++ [(an : Int), y] := by
                rw [HAN.out, HRS.out, HCE.out, ← List.append_assoc, flat_append]
                rfl
              rw [e]
              refine ⟨?_, by simp⟩
              rw [List.map_append, List.length_append]
              exact hown6
            clear hown6 hgrow6 hat6 hlt6 hO5 hO5d hB5 hlt5 hfl c5i c5k hS
            go_wp2_with fail
            go_roundw
            case rel => exact ⟨k + 1, by omega, by go_num, ⟨hN6, hB6⟩⟩
            case measure => simp [intOf]; omega
          · rw [hh] at p1
            rw [hh] at HCE
            have HRK : Hid (rowTo (gOf L) (mems s) (an : Int) (k + 1) = rowTo (gOf L) (mems s) (an : Int) k) := by
              show _ = _
              rw [HRS.out, HCE.out]; simp
            clear hh
            go_wp2_with fail
            refine wp_region_pure (by kernel_rfl) (by kernel_rfl) ?_
            repeat (go_big_quiet_step ((first | (go_at_call 35; exact Calls.ext_of (p1 _)))))
            refine wpQuiet_nil ?_
            intro w5 hb5
            go_wp2_with fail
            go_roundw
            case rel => exact ⟨k + 1, by omega, by go_num, ⟨by rw [HAN.out, HRK.out, ← HAN.out]; exact HST.out.own.below hb5 (Nat.le_refl _), HST.out.low.trans (hb5.mono hszr)⟩⟩
            case measure => simp [intOf]; omega
        · obtain rfl : k = i := by omega
          have hO := st.own
          have hB := st.low
          clear st
          go_wp2_with fail
          go_roundw
          case rel => exact ⟨k + 1, by have := HIL.out; omega, by go_num, ⟨by rw [missTo]; simpa [rowTo] using hO, hB⟩⟩
          case measure => simp [intOf]; have := HIL.out; omega
    · obtain rfl : i = (mems s).length := by omega
      have hO := st.own
      have hB := st.low
      clear st
      go_wp2_with fail
      go_ret
      refine ⟨_, rfl, ?_, hb3.trans (hB.mono hb3.size)⟩
      have e : missTo (gOf L) (mems s) (mems s).length ++ rowTo (gOf L) (mems s) ((mems s).getD (mems s).length 0) 0 = missP (gOf L) (vn : Int) := by
        unfold missP; rw [HG.out]; simp [rowTo]
      rw [e] at hO
      exact hO.mono hlb3
end Go.Proofs.YthgkklahiclcpaaDoor
