/- Walks: the laws' example. -/
import Derived.Test.YtkfmblpcfgdgpaaFLaw
namespace Go.Proofs.Ytkfmblpcfgdgpaa
open Go.RowKit

theorem results_net {fn : Func} {tmps : Array Value} {w : World} {t pn : Nat} {n : Int} {v : Value} (hr : fn.results = #[.cell t 24]) (ht : tmps.getD t undef = .pointer (some ⟨pn, 0, none⟩)) (h : w.heap[pn]? = some (.cells #[.int .i64 n, v] 24 (0, 0))) :
    (results fn tmps).run Try.prog w = .ok (.agg #[.int .i64 n, v]) w := by
  obtain ⟨⟨c0, c1⟩, _⟩ := box2 h
  simp only [Array.getD_eq_getD_getElem?] at ht
  simp [results, hr, ht, go_sem, c0, c1]
theorem small_own (w : World) : OwnNodes (((w.alloc (.cells #[.int .i64 2, .slice (some ⟨w.heap.size + 1 + 1, 0, none⟩) 3 3] 24)).alloc (.cells #[.int .i64 0, .int .i64 1] 3)).alloc (.cells #[.int .i64 2, .int .i64 1, .slice none 0 0, .int .i64 2, .int .i64 (-2), .slice none 0 0, .int .i64 3, .int .i64 0, .slice (some ⟨w.heap.size + 1, 0, none⟩) 2 2] 46))
    w.heap.size (.slice (some ⟨w.heap.size + 1 + 1, 0, none⟩) 3 3) smallL [.slice none 0 0, .slice none 0 0, .slice (some ⟨w.heap.size + 1, 0, none⟩) 2 2] := by
  have h2 : (((w.alloc (.cells #[.int .i64 2, .slice (some ⟨w.heap.size + 1 + 1, 0, none⟩) 3 3] 24)).alloc (.cells #[.int .i64 0, .int .i64 1] 3)).alloc (.cells #[.int .i64 2, .int .i64 1, .slice none 0 0, .int .i64 2, .int .i64 (-2), .slice none 0 0, .int .i64 3, .int .i64 0, .slice (some ⟨w.heap.size + 1, 0, none⟩) 2 2] 46)).heap[w.heap.size + 1 + 1]? = some (.cells #[.int .i64 2, .int .i64 1, .slice none 0 0, .int .i64 2, .int .i64 (-2), .slice none 0 0, .int .i64 3, .int .i64 0, .slice (some ⟨w.heap.size + 1, 0, none⟩) 2 2] 46 (0, 0)) := by
    have := heap_alloc_new ((w.alloc (.cells #[.int .i64 2, .slice (some ⟨w.heap.size + 1 + 1, 0, none⟩) 3 3] 24)).alloc (.cells #[.int .i64 0, .int .i64 1] 3)) (.cells #[.int .i64 2, .int .i64 1, .slice none 0 0, .int .i64 2, .int .i64 (-2), .slice none 0 0, .int .i64 3, .int .i64 0, .slice (some ⟨w.heap.size + 1, 0, none⟩) 2 2] 46)
    simp only [World.size_alloc] at this; exact this
  have h1 : (((w.alloc (.cells #[.int .i64 2, .slice (some ⟨w.heap.size + 1 + 1, 0, none⟩) 3 3] 24)).alloc (.cells #[.int .i64 0, .int .i64 1] 3)).alloc (.cells #[.int .i64 2, .int .i64 1, .slice none 0 0, .int .i64 2, .int .i64 (-2), .slice none 0 0, .int .i64 3, .int .i64 0, .slice (some ⟨w.heap.size + 1, 0, none⟩) 2 2] 46)).heap[w.heap.size + 1]? = some (.cells #[.int .i64 0, .int .i64 1] 3 (0, 0)) := by
    rw [heap_alloc_old _ _ (by simp)]
    have := heap_alloc_new (w.alloc (.cells #[.int .i64 2, .slice (some ⟨w.heap.size + 1 + 1, 0, none⟩) 3 3] 24)) (.cells #[.int .i64 0, .int .i64 1] 3)
    rw [World.size_alloc] at this; exact this
  refine ⟨⟨rfl, .inr ⟨_, 3, _, rfl, by omega, h2, by decide, by decide, rfl, rfl⟩⟩, rfl, fun i hi => ?_⟩
  have hi3 : i < 3 := hi
  obtain rfl | rfl | rfl : i = 0 ∨ i = 1 ∨ i = 2 := by omega
  · exact ⟨_, rfl, own_nil _ _, show 0 ≤ 16777216 by decide⟩
  · exact ⟨_, rfl, own_nil _ _, show 0 ≤ 16777216 by decide⟩
  · exact ⟨_, rfl, ⟨rfl, .inr ⟨_, 2, _, rfl, by omega, h1, Nat.le_refl 2, by decide, rfl, rfl⟩⟩, show 2 ≤ 16777216 by decide⟩
set_option maxRecDepth 100000 in
set_option maxHeartbeats 1000000 in
theorem small_c (w : World) : Calls Try.prog 27 #[] w fun e w' => ∃ v, e = .returned (.agg #[.int .i64 2, v]) ∧ NodesAt w' v smallL ∧ Below w.heap.size w w' := by
  have hso := hid (small_own w)
  have hB : Below w.heap.size w (((w.alloc (.cells #[.int .i64 2, .slice (some ⟨w.heap.size + 1 + 1, 0, none⟩) 3 3] 24)).alloc (.cells #[.int .i64 0, .int .i64 1] 3)).alloc (.cells #[.int .i64 2, .int .i64 1, .slice none 0 0, .int .i64 2, .int .i64 (-2), .slice none 0 0, .int .i64 3, .int .i64 0, .slice (some ⟨w.heap.size + 1, 0, none⟩) 2 2] 46)) :=
    (((Below.refl _ w).alloc (Nat.le_refl _) _).alloc (by simp) _).alloc (by simp; omega) _
  go_enter Try.func27, Try.ntmps27
  go_wp2_with fail
  refine bodyPost_ret (results_net (pn := w.heap.size) rfl rfl ?_) rfl ⟨_, rfl, hso.out.nodes, hB⟩
  rw [heap_alloc_old _ _ (by simp; omega), heap_alloc_old _ _ (by simp)]
  exact heap_alloc_new w _
set_option maxRecDepth 100000 in
set_option maxHeartbeats 2000000 in
theorem works_c (w : World) : Calls Try.prog 15 #[] w fun e w' => e = .returned (.bool true) ∧ Below w.heap.size w w' := by
  have hcv := conv_bytes
  have HSE := hid small_enc
  go_enter Try.func15, Try.ntmps15
  go_wp2_with fail
  refine (small_c w).mono ?_
  rintro e w1 ⟨v1, rfl, hN1, hb1⟩
  go_wp2_with fail
  refine (Encode_c 2 smallL v1 w1 hN1).mono ?_
  rintro e w2 ⟨vb, rfl, ho2, hb2⟩
  rw [show encNo ⟨2, smallL⟩ = 0 from HSE.out.1]
  rw [show encBytes ⟨2, smallL⟩ = sealOf plainB from HSE.out.2] at ho2
  have hB2 := hb1.trans (hb2.mono hb1.size)
  rcases ho2 with ⟨_, h⟩ | ⟨g, cur, rfl, hg1, hg2, hg3, hg4, hg5⟩
  · exact absurd h (by simp [sealOf, plainB])
  have hby : BytesAt w2 (.slice (some ⟨g, 0, none⟩) 18 18) (sealOf plainB) := bytes_of_take (l := sealOf plainB) hg2 hg4
  rw [show (sealOf plainB).length = 18 from rfl]
  have hcs := conv_str (hby.take 14 18 (by omega))
  rw [show (sealOf plainB).take 14 = plainB from rfl] at hcs
  have hbe : ((strB plainB).toList == [67, 78, 69, 84, 2, 3, 2, 2, 2, 5, 3, 2, 2, 1]) = true := by unfold strB; rw [ByteArray.toList_mk]; rfl
  clear hg1 hg2 hg3 hg4 hg5 hN1 hb1 hb2
  go_wp2_with fail
  have hb3 : Below w2.heap.size w2 (w2.alloc (.cells #[.int .u8 49, .int .u8 50, .int .u8 51, .int .u8 52, .int .u8 53, .int .u8 54, .int .u8 55, .int .u8 56, .int .u8 57] 5 (9, 10))) := (Below.refl _ w2).alloc (Nat.le_refl _) _
  have hd3 : BytesAt (w2.alloc (.cells #[.int .u8 49, .int .u8 50, .int .u8 51, .int .u8 52, .int .u8 53, .int .u8 54, .int .u8 55, .int .u8 56, .int .u8 57] 5 (9, 10))) (.slice (some ⟨w2.heap.size, 0, none⟩) 9 9) [49, 50, 51, 52, 53, 54, 55, 56, 57] := bytes_of_take (l := [49, 50, 51, 52, 53, 54, 55, 56, 57]) (heap_alloc_new w2 _) rfl
  refine (Sum_c _ [49, 50, 51, 52, 53, 54, 55, 56, 57] _ hd3 (by decide)).mono ?_
  rintro e w3 ⟨rfl, rfl⟩
  rw [crc_digits]
  have hB3 := hB2.trans (hb3.mono hB2.size)
  have hby3 := hby.below hb3
  clear hd3 hcs hbe hby hb3 hB2
  go_wp2_with fail
  generalize w2.alloc (.cells #[.int .u8 49, .int .u8 50, .int .u8 51, .int .u8 52, .int .u8 53, .int .u8 54, .int .u8 55, .int .u8 56, .int .u8 57] 5 (9, 10)) = w3 at *
  refine (Decode_c _ 18 (sealOf plainB) w3 hby3 (by decide) (by decide) (by decide)).mono ?_
  rintro e w4 ⟨v4, vs4, rfl, ho4, hb4⟩
  rw [small_dec.2] at ho4
  rw [small_dec.1, small_dec.2]
  have hB4 := hB3.trans (hb4.mono hB3.size)
  have hN4 := ho4.nodes
  clear ho4 hb4 hby3 hB3
  change NodesAt w4 v4 smallL at hN4
  rw [show smallN.n = 2 from rfl]
  obtain ⟨p4, c4, e4, hdrop⟩ := id hN4
  clear hdrop
  subst e4
  have hbox := heap_alloc_new w4 (.cells #[.int .i64 2, .slice p4 smallL.length c4] 24)
  have hbe : Below w4.heap.size w4 (w4.alloc (.cells #[.int .i64 2, .slice p4 smallL.length c4] 24)).drew := ((Below.refl _ w4).alloc (Nat.le_refl _) _).drew
  have hB5 := hB4.trans (hbe.mono hB4.size)
  have hN5 := hN4.below hbe
  have hb5 : (w4.alloc (.cells #[.int .i64 2, .slice p4 smallL.length c4] 24)).drew.cell? ⟨w4.heap.size, 0, none⟩ = some (.int .i64 2) ∧ (w4.alloc (.cells #[.int .i64 2, .slice p4 smallL.length c4] 24)).drew.cell? ⟨w4.heap.size, 1, none⟩ = some (.slice p4 smallL.length c4) := (box2 hbox).1
  clear hbe hN4 hB4 hbox
  go_wp2_with fail
  refine Go.Proofs.Ytkfmblpcfgdgpaa.wp_region_L 8 5 (fun w' => w'.cell? ⟨w4.heap.size, 0, none⟩ = some (.int .i64 2) ∧ w'.cell? ⟨w4.heap.size, 1, none⟩ = some (.slice p4 smallL.length c4)) (by kernel_rfl) rfl hb5 (fun hS => ?_)
  refine wpAnyL_pure (i := 0) (v := .int .i64 0) (by simp only [List.getElem?_toArray, List.getElem?_cons_zero] <;> rfl) (by kernel_rfl) (by kernel_rfl) (by kernel_rfl) (by exact fun _ _ _ h => h) (by decide) hS (Or.inl ⟨by rfl, fun w _ => (by simp [execOp, go_sem, Act.eval])⟩) (fun hS => ?_)
  simp only [Act.put, List.setIfInBounds_toArray, List.set_cons_zero, List.set_cons_succ]
  refine wpAnyL_pure (i := 1) (v := .bool true) (by simp only [List.getElem?_toArray, List.getElem?_cons_zero, List.getElem?_cons_succ] <;> rfl) (by kernel_rfl) (by kernel_rfl) (by kernel_rfl) (by exact fun _ _ _ h => h) (by decide) hS (Or.inl ⟨by rfl, fun w _ => (by simp [execOp, go_sem, Act.eval])⟩) (fun hS => ?_)
  simp only [Act.put, List.setIfInBounds_toArray, List.set_cons_zero, List.set_cons_succ]
  refine wpAnyL_pure (i := 2) (v := .bool true) (by simp only [List.getElem?_toArray, List.getElem?_cons_zero, List.getElem?_cons_succ] <;> rfl) (by kernel_rfl) (by kernel_rfl) (by kernel_rfl) (by exact fun _ _ _ h => h) (by decide) hS (Or.inl ⟨by rfl, fun w _ => (by simp [execOp, go_sem, Act.eval])⟩) (fun hS => ?_)
  simp only [Act.put, List.setIfInBounds_toArray, List.set_cons_zero, List.set_cons_succ]
  refine wpAnyL_load (i := 3) (v := .agg #[.int .i64 2, .slice p4 smallL.length c4]) (by simp only [List.getElem?_toArray, List.getElem?_cons_zero, List.getElem?_cons_succ] <;> rfl) (by kernel_rfl) (by kernel_rfl) (by kernel_rfl) (by exact fun _ _ _ h => h) (by decide) ⟨_, rfl, ⟨3, .data⟩, by simp, rfl, rfl⟩ (by kernel_rfl) hS (Or.inl ⟨by rfl, fun w hw => (by obtain ⟨hw1, hw2⟩ := hw; simp [execOp, go_sem, Act.eval, hw1, hw2])⟩) (fun hS => ?_)
  simp only [Act.put, List.setIfInBounds_toArray, List.set_cons_zero, List.set_cons_succ]
  refine wpAnyL_one (i := 4) (by kernel_rfl) (by simp only [List.getElem?_toArray, List.getElem?_cons_zero, List.getElem?_cons_succ] <;> rfl) (by rfl) ?_
  refine opwp_call (f := 27) (args := #[]) (w' := (w4.alloc (.cells #[.int .i64 2, .slice p4 smallL.length c4] 24)).drew) (by simp [go_sem]) ?_
  generalize (w4.alloc (.cells #[.int .i64 2, .slice p4 smallL.length c4] 24)).drew = w5 at *
  refine (small_c w5).mono ?_
  rintro e w6 ⟨v6, rfl, hN6, hb6⟩
  refine .inl ⟨_, rfl, .inr ⟨(hb6.cell (cell_lt hb5.1)).trans hb5.1, (hb6.cell (cell_lt hb5.2)).trans hb5.2⟩, ?_⟩
  simp only [Act.put, List.setIfInBounds_toArray, List.set_cons_zero, List.set_cons_succ]
  refine wpAnyL_one (i := 5) (by kernel_rfl) (by simp only [List.getElem?_toArray, List.getElem?_cons_zero, List.getElem?_cons_succ] <;> rfl) (by rfl) ?_
  refine opwp_call (f := 19) (args := #[.agg #[.int .i64 2, .slice p4 smallL.length c4], .agg #[.int .i64 2, v6]]) (w' := w6) (by simp [go_sem, Act.eval]) ?_
  refine (rSameNet_c 2 2 smallL smallL _ v6 w6 (hN5.below hb6) hN6 (by decide) (by decide)).mono ?_
  rintro e w7 ⟨rfl, hb7⟩
  rw [decide_eq_true (rfl : (⟨2, smallL⟩ : NetT) = ⟨2, smallL⟩)]
  refine .inl ⟨_, rfl, .inl (by kernel_rfl), ?_⟩
  simp only [Act.put, List.setIfInBounds_toArray, List.set_cons_zero, List.set_cons_succ]
  refine wpAnyL_one (i := 6) (by kernel_rfl) (by simp only [List.getElem?_toArray, List.getElem?_cons_zero, List.getElem?_cons_succ] <;> rfl) (by rfl) ?_
  refine opwp_value (v := .bool true) (w' := w7) (by simp [execOp, go_sem, Act.eval]) ⟨.inl (by kernel_rfl), ?_⟩
  simp only [Act.put, List.setIfInBounds_toArray, List.set_cons_zero, List.set_cons_succ]
  refine wpAnyL_one (i := 7) (by kernel_rfl) (by simp only [List.getElem?_toArray, List.getElem?_cons_zero, List.getElem?_cons_succ] <;> rfl) (by rfl) ?_
  refine opwp_value (v := .bool true) (w' := w7) (by simp [execOp, go_sem, Act.eval]) ⟨.inl (by kernel_rfl), ?_⟩
  simp only [Act.put, List.setIfInBounds_toArray, List.set_cons_zero]
  refine wpAnyL_done (by kernel_rfl) ?_ _
  have hB7 := (hB5.trans (hb6.mono hB5.size))
  have hB8 := hB7.trans (hb7.mono hB7.size)
  clear hS hb5 hN5 hN6 hb6 hb7
  go_wp2_with fail
  go_ret
  exact ⟨rfl, hB8⟩
end Go.Proofs.Ytkfmblpcfgdgpaa
