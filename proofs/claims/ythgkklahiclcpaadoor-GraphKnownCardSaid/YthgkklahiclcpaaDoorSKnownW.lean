/- The walk of the law GraphKnown. -/
import Derived.Test.YthgkklahiclcpaaDoorTEdges
namespace Go.Proofs.YthgkklahiclcpaaDoor
open Go.RowKit
attribute [local go_sem ↓] run_eqlS run_neqS run_eqlS0 run_neqS0

def starL : List VS := [0#128, 14#128, 1#128, 1#128, 1#128]
def fiveL : List VS := [0#128, 10#128, 5#128, 10#128, 21#128, 8#128]
def thL : List (List Int) := [[1, 2], [2, -3, 2], [3]]
def edL : List VS := [0#128, 2#128, 5#128, 2#128, 0#128]
def wantL : List (List Int) := [[2, 3, 1, 4], [2, 3, 1, 4], [5, 1, 2, 3, 4], [5, 1, 2, 3, 4], [1, 2], [], [], []]
theorem k_f1 : orderP fillC starL = [2, 3, 1, 4] := by decide +kernel
theorem k_d1 : orderP degC starL = [2, 3, 1, 4] := by decide +kernel
theorem k_f2 : orderP fillC fiveL = [5, 1, 2, 3, 4] := by decide +kernel
theorem k_d2 : orderP degC fiveL = [5, 1, 2, 3, 4] := by decide +kernel
theorem k_f3 : orderP fillC [0#128, 0#128, 0#128] = [1, 2] := by decide +kernel
theorem k_f4 : orderP fillC [0#128, 2#128, 0#128] = [] := by decide +kernel
theorem k_f5 : orderP fillC [] = [] := by decide +kernel
theorem k_d3 : orderP degC [1#128] = [] := by decide +kernel
theorem k_w1 : widthP starL [1, 2, 3, 4] = 3 := by decide +kernel
theorem k_w2 : widthP starL [2, 3, 4, 1] = 1 := by decide +kernel
theorem k_w3 : widthP [0#128] [] = 0 := by decide +kernel
theorem k_w4 : widthP [] [] = -1 := by decide +kernel
theorem k_w5 : widthP starL [1, 2, 3, 3] = -1 := by decide +kernel
theorem k_w6 : widthP [0#128, 1#128] [1] = -1 := by decide +kernel
theorem k_w7 : widthP [0#128, 2#128, 1#128] [2, 1] = 1 := by decide +kernel
theorem k_chk : checkP 4 thL = 0 := by decide +kernel
theorem k_long : checkP 1 [List.replicate 129 0] = 2 := by decide +kernel
theorem has_of {s : VS} {l : List Int} (h : mems s = l) (x : Int) : has s x = true ↔ x ∈ l := by rw [← h, mem_mems]
theorem ed_says : Says edL (RE thL) := fun u x => by
  have a1 : ∀ y, has (allC [1, 2]) y = true ↔ y ∈ [1, 2] := has_of (by decide +kernel)
  have a2 : ∀ y, has (allC [2, -3, 2]) y = true ↔ y ∈ [2, 3] := has_of (by decide +kernel)
  have a3 : ∀ y, has (allC [3]) y = true ↔ y ∈ [3] := has_of (by decide +kernel)
  have h2 : ∀ y, has (2#128 : VS) y = true ↔ y ∈ [2] := has_of (by decide +kernel)
  have h5 : ∀ y, has (5#128 : VS) y = true ↔ y ∈ [1, 3] := has_of (by decide +kernel)
  have key : RE thL u x ↔ u ≠ x ∧ ((u ∈ [1, 2] ∧ x ∈ [1, 2]) ∨ (u ∈ [2, 3] ∧ x ∈ [2, 3]) ∨ (u ∈ [3] ∧ x ∈ ([3] : List Int))) := by
    unfold RE thL
    constructor
    · rintro ⟨hne, c, hc, p, q⟩
      simp only [List.mem_cons, List.not_mem_nil, or_false] at hc
      rcases hc with rfl | rfl | rfl
      · exact ⟨hne, .inl ⟨(a1 _).1 p, (a1 _).1 q⟩⟩
      · exact ⟨hne, .inr (.inl ⟨(a2 _).1 p, (a2 _).1 q⟩)⟩
      · exact ⟨hne, .inr (.inr ⟨(a3 _).1 p, (a3 _).1 q⟩)⟩
    · rintro ⟨hne, ⟨p, q⟩ | ⟨p, q⟩ | ⟨p, q⟩⟩
      · exact ⟨hne, [1, 2], by simp, (a1 _).2 p, (a1 _).2 q⟩
      · exact ⟨hne, [2, -3, 2], by simp, (a2 _).2 p, (a2 _).2 q⟩
      · exact ⟨hne, [3], by simp, (a3 _).2 p, (a3 _).2 q⟩
  rw [key]
  by_cases e1 : u = 1
  · subst e1
    rw [show gOf edL 1 = 2#128 from rfl, h2]
    simp; omega
  · by_cases e2 : u = 2
    · subst e2
      rw [show gOf edL 2 = 5#128 from rfl, h5]
      simp; omega
    · by_cases e3 : u = 3
      · subst e3
        rw [show gOf edL 3 = 2#128 from rfl, h2]
        simp; omega
      · have h0 : gOf edL u = 0 := by
          by_cases e0 : u = 0
          · subst e0; rfl
          · by_cases e4 : u = 4
            · subst e4; rfl
            · exact gOf_out edL u (by show u < 0 ∨ (5 : Int) ≤ u; omega)
        rw [h0, has_zero]
        simp; omega
theorem ed_eq {M : List VS} (hl : (M.length : Int) = 4 + 1) (h : Says M (RE thL)) : M = edL := by
  apply List.ext_getElem (by show M.length = 5; omega)
  intro i a b
  rw [← gOf_nat M i a, ← gOf_nat edL i b]
  apply ext_has
  intro x _ _
  rw [Bool.eq_iff_iff, h _ x, ed_says _ x]
theorem lits_get {w : World} {b off c : Nat} {L : List (List Int)} (h : LitsAt w (.slice (some ⟨b, off, none⟩) L.length c) L) (i : Nat) (hi : i < L.length) : ∃ p c', w.cell? ⟨b, off + i, none⟩ = some (.slice p L[i].length c') ∧ IntsAt w (.slice p L[i].length c') L[i] := by
  obtain ⟨q, d, e, h⟩ := h
  injection e with e1 _ _
  subst e1
  obtain ⟨b', off', e, hc⟩ := h.resolve_left (by rintro rfl; simp at hi)
  injection e with e; injection e with e1 e2 _
  subst e1; subst e2
  obtain ⟨u, h1, h2⟩ := hc i hi
  obtain ⟨p, c', e, h3⟩ := h2
  subst e
  exact ⟨p, c', h1, ⟨p, c', rfl, h3⟩⟩
theorem lit_lits (w : World) (C : List Value) (L : List (List Int)) (T : TypeId) (hl : C.length = L.length) (hi : ∀ i (h : i < L.length), IntsAt (w.alloc (.cells C.toArray T)) (C[i]'(by omega)) L[i]) :
    LitsAt (w.alloc (.cells C.toArray T)) (.slice (some ⟨w.heap.size, 0, none⟩) L.length L.length) L := by
  refine ⟨_, _, rfl, .inr ⟨w.heap.size, 0, rfl, fun i h => ⟨_, ?_, hi i h⟩⟩⟩
  rw [World.cell?, show (w.alloc (.cells C.toArray T)).heap[w.heap.size]? = _ from heap_alloc_new w _]
  simp [show i < C.length by omega]
theorem nil_sets (w : World) : SetsAt w (.slice none 0 0) [] := ⟨none, 0, rfl, .inl rfl⟩
theorem nil_ints (w : World) : IntsAt w (.slice none 0 0) [] := ⟨none, 0, rfl, .inl rfl⟩
theorem make_ints (w : World) (n : Nat) (hn : n ≤ 1000) (x y : Int) (hx : x = (n : Int)) (hy : y = (n : Int)) :
    (Instr.makeSlice 25 (.int .i64 x) (.int .i64 y)).run Tryd.prog w = .ok (.slice (some ⟨w.heap.size, 0, none⟩) n n) (w.alloc (.cells (madeCells (Value.int .i64 0).cells n) 3)) := by
  subst hx; subst hy
  obtain ⟨i0, hi, hz0, hz1, hz2⟩ := info_parts info_int
  have := run_makeSlice (P := Tryd.prog) w 25 3 i0 (.int .i64 0) Tryd.underlying25 hi hz0 .i64 .i64 (n : Int) (n : Int) (by omega) (Int.le_refl _) (by rw [hz1, Int.toNat_natCast]; omega) (by rw [hz2]; omega) (by omega)
  rw [hz1, Int.toNat_natCast, Nat.mul_one] at this
  exact this
theorem made_ints (w : World) (n : Nat) : IntsAt (w.alloc (.cells (madeCells #[.int .i64 0] n) 3)) (.slice (some ⟨w.heap.size, 0, none⟩) (List.replicate n (0 : Int)).length n) (List.replicate n 0) := by
  refine ⟨_, _, rfl, .inr ⟨w.heap.size, 0, rfl, fun i hi => ?_⟩⟩
  have hi2 : i < n := by simpa using hi
  rw [World.cell?, show (w.alloc (.cells (madeCells #[.int .i64 0] n) 3)).heap[w.heap.size]? = _ from heap_alloc_new w _]
  simp [madeCells, hi2, Nat.mod_one]
set_option maxRecDepth 100000 in
set_option maxHeartbeats 16000000 in
theorem graphKnown_walk (w : World) (hT : TabAt w) : Calls Tryd.prog 12 #[] w (LawPost w) := by
  have HW := hid (fun w' (h : Below w.heap.size w w') => works_c w' (hT.below hT.lt h))
  have HTT := hid (fun w' (h : Below w.heap.size w w') => hT.below hT.lt h)
  have B0 := hid (Below.refl w.heap.size w)
  go_enter Tryd.func12, Tryd.ntmps12
  have hb1 := (Below.refl w.heap.size w).alloc (Nat.le_refl _) (.cells #[.int .u64 0, .int .u64 0, .int .u64 14, .int .u64 0, .int .u64 1, .int .u64 0, .int .u64 1, .int .u64 0, .int .u64 1, .int .u64 0] 35)
  have B1 := hid (B0.out.trans (hb1.mono B0.out.size))
  clear B0
  have f1_star : Hid (SetsAt (w.alloc (.cells #[.int .u64 0, .int .u64 0, .int .u64 14, .int .u64 0, .int .u64 1, .int .u64 0, .int .u64 1, .int .u64 0, .int .u64 1, .int .u64 0] 35)) (.slice (some ⟨w.heap.size, 0, none⟩) 5 5) [0#128, 14#128, 1#128, 1#128, 1#128]) := by have h := (lit_sets w [0#128, 14#128, 1#128, 1#128, 1#128] #[.int .u64 0, .int .u64 0, .int .u64 14, .int .u64 0, .int .u64 1, .int .u64 0, .int .u64 1, .int .u64 0, .int .u64 1, .int .u64 0] (by kernel_rfl)).sets 5; exact h
  clear hb1
  have hb2 := (Below.refl (w.alloc (.cells #[.int .u64 0, .int .u64 0, .int .u64 14, .int .u64 0, .int .u64 1, .int .u64 0, .int .u64 1, .int .u64 0, .int .u64 1, .int .u64 0] 35)).heap.size (w.alloc (.cells #[.int .u64 0, .int .u64 0, .int .u64 14, .int .u64 0, .int .u64 1, .int .u64 0, .int .u64 1, .int .u64 0, .int .u64 1, .int .u64 0] 35))).alloc (Nat.le_refl _) (.cells #[.int .u64 0, .int .u64 0, .int .u64 10, .int .u64 0, .int .u64 5, .int .u64 0, .int .u64 10, .int .u64 0, .int .u64 21, .int .u64 0, .int .u64 8, .int .u64 0] 35)
  have f2_star : Hid (SetsAt ((w.alloc (.cells #[.int .u64 0, .int .u64 0, .int .u64 14, .int .u64 0, .int .u64 1, .int .u64 0, .int .u64 1, .int .u64 0, .int .u64 1, .int .u64 0] 35)).alloc (.cells #[.int .u64 0, .int .u64 0, .int .u64 10, .int .u64 0, .int .u64 5, .int .u64 0, .int .u64 10, .int .u64 0, .int .u64 21, .int .u64 0, .int .u64 8, .int .u64 0] 35)) (.slice (some ⟨w.heap.size, 0, none⟩) 5 5) [0#128, 14#128, 1#128, 1#128, 1#128]) := f1_star.out.below hb2
  clear f1_star
  have B2 := hid (B1.out.trans (hb2.mono B1.out.size))
  clear B1
  have f2_five : Hid (SetsAt ((w.alloc (.cells #[.int .u64 0, .int .u64 0, .int .u64 14, .int .u64 0, .int .u64 1, .int .u64 0, .int .u64 1, .int .u64 0, .int .u64 1, .int .u64 0] 35)).alloc (.cells #[.int .u64 0, .int .u64 0, .int .u64 10, .int .u64 0, .int .u64 5, .int .u64 0, .int .u64 10, .int .u64 0, .int .u64 21, .int .u64 0, .int .u64 8, .int .u64 0] 35)) (.slice (some ⟨w.heap.size + 1, 0, none⟩) 6 6) [0#128, 10#128, 5#128, 10#128, 21#128, 8#128]) := by have h := (lit_sets (w.alloc (.cells #[.int .u64 0, .int .u64 0, .int .u64 14, .int .u64 0, .int .u64 1, .int .u64 0, .int .u64 1, .int .u64 0, .int .u64 1, .int .u64 0] 35)) [0#128, 10#128, 5#128, 10#128, 21#128, 8#128] #[.int .u64 0, .int .u64 0, .int .u64 10, .int .u64 0, .int .u64 5, .int .u64 0, .int .u64 10, .int .u64 0, .int .u64 21, .int .u64 0, .int .u64 8, .int .u64 0] (by kernel_rfl)).sets 6; simp only [World.size_alloc] at h; exact h
  clear hb2
  have hb3 := (Below.refl ((w.alloc (.cells #[.int .u64 0, .int .u64 0, .int .u64 14, .int .u64 0, .int .u64 1, .int .u64 0, .int .u64 1, .int .u64 0, .int .u64 1, .int .u64 0] 35)).alloc (.cells #[.int .u64 0, .int .u64 0, .int .u64 10, .int .u64 0, .int .u64 5, .int .u64 0, .int .u64 10, .int .u64 0, .int .u64 21, .int .u64 0, .int .u64 8, .int .u64 0] 35)).heap.size ((w.alloc (.cells #[.int .u64 0, .int .u64 0, .int .u64 14, .int .u64 0, .int .u64 1, .int .u64 0, .int .u64 1, .int .u64 0, .int .u64 1, .int .u64 0] 35)).alloc (.cells #[.int .u64 0, .int .u64 0, .int .u64 10, .int .u64 0, .int .u64 5, .int .u64 0, .int .u64 10, .int .u64 0, .int .u64 21, .int .u64 0, .int .u64 8, .int .u64 0] 35))).alloc (Nat.le_refl _) (.cells #[.int .i64 1, .int .i64 2] 3)
  have f3_star : Hid (SetsAt (((w.alloc (.cells #[.int .u64 0, .int .u64 0, .int .u64 14, .int .u64 0, .int .u64 1, .int .u64 0, .int .u64 1, .int .u64 0, .int .u64 1, .int .u64 0] 35)).alloc (.cells #[.int .u64 0, .int .u64 0, .int .u64 10, .int .u64 0, .int .u64 5, .int .u64 0, .int .u64 10, .int .u64 0, .int .u64 21, .int .u64 0, .int .u64 8, .int .u64 0] 35)).alloc (.cells #[.int .i64 1, .int .i64 2] 3)) (.slice (some ⟨w.heap.size, 0, none⟩) 5 5) [0#128, 14#128, 1#128, 1#128, 1#128]) := f2_star.out.below hb3
  clear f2_star
  have f3_five : Hid (SetsAt (((w.alloc (.cells #[.int .u64 0, .int .u64 0, .int .u64 14, .int .u64 0, .int .u64 1, .int .u64 0, .int .u64 1, .int .u64 0, .int .u64 1, .int .u64 0] 35)).alloc (.cells #[.int .u64 0, .int .u64 0, .int .u64 10, .int .u64 0, .int .u64 5, .int .u64 0, .int .u64 10, .int .u64 0, .int .u64 21, .int .u64 0, .int .u64 8, .int .u64 0] 35)).alloc (.cells #[.int .i64 1, .int .i64 2] 3)) (.slice (some ⟨w.heap.size + 1, 0, none⟩) 6 6) [0#128, 10#128, 5#128, 10#128, 21#128, 8#128]) := f2_five.out.below hb3
  clear f2_five
  have B3 := hid (B2.out.trans (hb3.mono B2.out.size))
  clear B2
  have f3_a : Hid (IntsAt (((w.alloc (.cells #[.int .u64 0, .int .u64 0, .int .u64 14, .int .u64 0, .int .u64 1, .int .u64 0, .int .u64 1, .int .u64 0, .int .u64 1, .int .u64 0] 35)).alloc (.cells #[.int .u64 0, .int .u64 0, .int .u64 10, .int .u64 0, .int .u64 5, .int .u64 0, .int .u64 10, .int .u64 0, .int .u64 21, .int .u64 0, .int .u64 8, .int .u64 0] 35)).alloc (.cells #[.int .i64 1, .int .i64 2] 3)) (.slice (some ⟨w.heap.size + 1 + 1, 0, none⟩) 2 2) [1, 2]) := by have h := lit_ints ((w.alloc (.cells #[.int .u64 0, .int .u64 0, .int .u64 14, .int .u64 0, .int .u64 1, .int .u64 0, .int .u64 1, .int .u64 0, .int .u64 1, .int .u64 0] 35)).alloc (.cells #[.int .u64 0, .int .u64 0, .int .u64 10, .int .u64 0, .int .u64 5, .int .u64 0, .int .u64 10, .int .u64 0, .int .u64 21, .int .u64 0, .int .u64 8, .int .u64 0] 35)) [1, 2] 3 (by simp); simp only [World.size_alloc] at h; exact h
  clear hb3
  have hb4 := (Below.refl (((w.alloc (.cells #[.int .u64 0, .int .u64 0, .int .u64 14, .int .u64 0, .int .u64 1, .int .u64 0, .int .u64 1, .int .u64 0, .int .u64 1, .int .u64 0] 35)).alloc (.cells #[.int .u64 0, .int .u64 0, .int .u64 10, .int .u64 0, .int .u64 5, .int .u64 0, .int .u64 10, .int .u64 0, .int .u64 21, .int .u64 0, .int .u64 8, .int .u64 0] 35)).alloc (.cells #[.int .i64 1, .int .i64 2] 3)).heap.size (((w.alloc (.cells #[.int .u64 0, .int .u64 0, .int .u64 14, .int .u64 0, .int .u64 1, .int .u64 0, .int .u64 1, .int .u64 0, .int .u64 1, .int .u64 0] 35)).alloc (.cells #[.int .u64 0, .int .u64 0, .int .u64 10, .int .u64 0, .int .u64 5, .int .u64 0, .int .u64 10, .int .u64 0, .int .u64 21, .int .u64 0, .int .u64 8, .int .u64 0] 35)).alloc (.cells #[.int .i64 1, .int .i64 2] 3))).alloc (Nat.le_refl _) (.cells #[.int .i64 2, .int .i64 (-3), .int .i64 2] 3)
  have f4_star : Hid (SetsAt ((((w.alloc (.cells #[.int .u64 0, .int .u64 0, .int .u64 14, .int .u64 0, .int .u64 1, .int .u64 0, .int .u64 1, .int .u64 0, .int .u64 1, .int .u64 0] 35)).alloc (.cells #[.int .u64 0, .int .u64 0, .int .u64 10, .int .u64 0, .int .u64 5, .int .u64 0, .int .u64 10, .int .u64 0, .int .u64 21, .int .u64 0, .int .u64 8, .int .u64 0] 35)).alloc (.cells #[.int .i64 1, .int .i64 2] 3)).alloc (.cells #[.int .i64 2, .int .i64 (-3), .int .i64 2] 3)) (.slice (some ⟨w.heap.size, 0, none⟩) 5 5) [0#128, 14#128, 1#128, 1#128, 1#128]) := f3_star.out.below hb4
  clear f3_star
  have f4_five : Hid (SetsAt ((((w.alloc (.cells #[.int .u64 0, .int .u64 0, .int .u64 14, .int .u64 0, .int .u64 1, .int .u64 0, .int .u64 1, .int .u64 0, .int .u64 1, .int .u64 0] 35)).alloc (.cells #[.int .u64 0, .int .u64 0, .int .u64 10, .int .u64 0, .int .u64 5, .int .u64 0, .int .u64 10, .int .u64 0, .int .u64 21, .int .u64 0, .int .u64 8, .int .u64 0] 35)).alloc (.cells #[.int .i64 1, .int .i64 2] 3)).alloc (.cells #[.int .i64 2, .int .i64 (-3), .int .i64 2] 3)) (.slice (some ⟨w.heap.size + 1, 0, none⟩) 6 6) [0#128, 10#128, 5#128, 10#128, 21#128, 8#128]) := f3_five.out.below hb4
  clear f3_five
  have f4_a : Hid (IntsAt ((((w.alloc (.cells #[.int .u64 0, .int .u64 0, .int .u64 14, .int .u64 0, .int .u64 1, .int .u64 0, .int .u64 1, .int .u64 0, .int .u64 1, .int .u64 0] 35)).alloc (.cells #[.int .u64 0, .int .u64 0, .int .u64 10, .int .u64 0, .int .u64 5, .int .u64 0, .int .u64 10, .int .u64 0, .int .u64 21, .int .u64 0, .int .u64 8, .int .u64 0] 35)).alloc (.cells #[.int .i64 1, .int .i64 2] 3)).alloc (.cells #[.int .i64 2, .int .i64 (-3), .int .i64 2] 3)) (.slice (some ⟨w.heap.size + 1 + 1, 0, none⟩) 2 2) [1, 2]) := f3_a.out.below hb4
  clear f3_a
  have B4 := hid (B3.out.trans (hb4.mono B3.out.size))
  clear B3
  have f4_b : Hid (IntsAt ((((w.alloc (.cells #[.int .u64 0, .int .u64 0, .int .u64 14, .int .u64 0, .int .u64 1, .int .u64 0, .int .u64 1, .int .u64 0, .int .u64 1, .int .u64 0] 35)).alloc (.cells #[.int .u64 0, .int .u64 0, .int .u64 10, .int .u64 0, .int .u64 5, .int .u64 0, .int .u64 10, .int .u64 0, .int .u64 21, .int .u64 0, .int .u64 8, .int .u64 0] 35)).alloc (.cells #[.int .i64 1, .int .i64 2] 3)).alloc (.cells #[.int .i64 2, .int .i64 (-3), .int .i64 2] 3)) (.slice (some ⟨w.heap.size + 1 + 1 + 1, 0, none⟩) 3 3) [2, -3, 2]) := by have h := lit_ints (((w.alloc (.cells #[.int .u64 0, .int .u64 0, .int .u64 14, .int .u64 0, .int .u64 1, .int .u64 0, .int .u64 1, .int .u64 0, .int .u64 1, .int .u64 0] 35)).alloc (.cells #[.int .u64 0, .int .u64 0, .int .u64 10, .int .u64 0, .int .u64 5, .int .u64 0, .int .u64 10, .int .u64 0, .int .u64 21, .int .u64 0, .int .u64 8, .int .u64 0] 35)).alloc (.cells #[.int .i64 1, .int .i64 2] 3)) [2, -3, 2] 3 (by simp); simp only [World.size_alloc] at h; exact h
  clear hb4
  have hb5 := (Below.refl ((((w.alloc (.cells #[.int .u64 0, .int .u64 0, .int .u64 14, .int .u64 0, .int .u64 1, .int .u64 0, .int .u64 1, .int .u64 0, .int .u64 1, .int .u64 0] 35)).alloc (.cells #[.int .u64 0, .int .u64 0, .int .u64 10, .int .u64 0, .int .u64 5, .int .u64 0, .int .u64 10, .int .u64 0, .int .u64 21, .int .u64 0, .int .u64 8, .int .u64 0] 35)).alloc (.cells #[.int .i64 1, .int .i64 2] 3)).alloc (.cells #[.int .i64 2, .int .i64 (-3), .int .i64 2] 3)).heap.size ((((w.alloc (.cells #[.int .u64 0, .int .u64 0, .int .u64 14, .int .u64 0, .int .u64 1, .int .u64 0, .int .u64 1, .int .u64 0, .int .u64 1, .int .u64 0] 35)).alloc (.cells #[.int .u64 0, .int .u64 0, .int .u64 10, .int .u64 0, .int .u64 5, .int .u64 0, .int .u64 10, .int .u64 0, .int .u64 21, .int .u64 0, .int .u64 8, .int .u64 0] 35)).alloc (.cells #[.int .i64 1, .int .i64 2] 3)).alloc (.cells #[.int .i64 2, .int .i64 (-3), .int .i64 2] 3))).alloc (Nat.le_refl _) (.cells #[.int .i64 3] 3)
  have f5_star : Hid (SetsAt (((((w.alloc (.cells #[.int .u64 0, .int .u64 0, .int .u64 14, .int .u64 0, .int .u64 1, .int .u64 0, .int .u64 1, .int .u64 0, .int .u64 1, .int .u64 0] 35)).alloc (.cells #[.int .u64 0, .int .u64 0, .int .u64 10, .int .u64 0, .int .u64 5, .int .u64 0, .int .u64 10, .int .u64 0, .int .u64 21, .int .u64 0, .int .u64 8, .int .u64 0] 35)).alloc (.cells #[.int .i64 1, .int .i64 2] 3)).alloc (.cells #[.int .i64 2, .int .i64 (-3), .int .i64 2] 3)).alloc (.cells #[.int .i64 3] 3)) (.slice (some ⟨w.heap.size, 0, none⟩) 5 5) [0#128, 14#128, 1#128, 1#128, 1#128]) := f4_star.out.below hb5
  clear f4_star
  have f5_five : Hid (SetsAt (((((w.alloc (.cells #[.int .u64 0, .int .u64 0, .int .u64 14, .int .u64 0, .int .u64 1, .int .u64 0, .int .u64 1, .int .u64 0, .int .u64 1, .int .u64 0] 35)).alloc (.cells #[.int .u64 0, .int .u64 0, .int .u64 10, .int .u64 0, .int .u64 5, .int .u64 0, .int .u64 10, .int .u64 0, .int .u64 21, .int .u64 0, .int .u64 8, .int .u64 0] 35)).alloc (.cells #[.int .i64 1, .int .i64 2] 3)).alloc (.cells #[.int .i64 2, .int .i64 (-3), .int .i64 2] 3)).alloc (.cells #[.int .i64 3] 3)) (.slice (some ⟨w.heap.size + 1, 0, none⟩) 6 6) [0#128, 10#128, 5#128, 10#128, 21#128, 8#128]) := f4_five.out.below hb5
  clear f4_five
  have f5_a : Hid (IntsAt (((((w.alloc (.cells #[.int .u64 0, .int .u64 0, .int .u64 14, .int .u64 0, .int .u64 1, .int .u64 0, .int .u64 1, .int .u64 0, .int .u64 1, .int .u64 0] 35)).alloc (.cells #[.int .u64 0, .int .u64 0, .int .u64 10, .int .u64 0, .int .u64 5, .int .u64 0, .int .u64 10, .int .u64 0, .int .u64 21, .int .u64 0, .int .u64 8, .int .u64 0] 35)).alloc (.cells #[.int .i64 1, .int .i64 2] 3)).alloc (.cells #[.int .i64 2, .int .i64 (-3), .int .i64 2] 3)).alloc (.cells #[.int .i64 3] 3)) (.slice (some ⟨w.heap.size + 1 + 1, 0, none⟩) 2 2) [1, 2]) := f4_a.out.below hb5
  clear f4_a
  have f5_b : Hid (IntsAt (((((w.alloc (.cells #[.int .u64 0, .int .u64 0, .int .u64 14, .int .u64 0, .int .u64 1, .int .u64 0, .int .u64 1, .int .u64 0, .int .u64 1, .int .u64 0] 35)).alloc (.cells #[.int .u64 0, .int .u64 0, .int .u64 10, .int .u64 0, .int .u64 5, .int .u64 0, .int .u64 10, .int .u64 0, .int .u64 21, .int .u64 0, .int .u64 8, .int .u64 0] 35)).alloc (.cells #[.int .i64 1, .int .i64 2] 3)).alloc (.cells #[.int .i64 2, .int .i64 (-3), .int .i64 2] 3)).alloc (.cells #[.int .i64 3] 3)) (.slice (some ⟨w.heap.size + 1 + 1 + 1, 0, none⟩) 3 3) [2, -3, 2]) := f4_b.out.below hb5
  clear f4_b
  have B5 := hid (B4.out.trans (hb5.mono B4.out.size))
  clear B4
  have f5_d : Hid (IntsAt (((((w.alloc (.cells #[.int .u64 0, .int .u64 0, .int .u64 14, .int .u64 0, .int .u64 1, .int .u64 0, .int .u64 1, .int .u64 0, .int .u64 1, .int .u64 0] 35)).alloc (.cells #[.int .u64 0, .int .u64 0, .int .u64 10, .int .u64 0, .int .u64 5, .int .u64 0, .int .u64 10, .int .u64 0, .int .u64 21, .int .u64 0, .int .u64 8, .int .u64 0] 35)).alloc (.cells #[.int .i64 1, .int .i64 2] 3)).alloc (.cells #[.int .i64 2, .int .i64 (-3), .int .i64 2] 3)).alloc (.cells #[.int .i64 3] 3)) (.slice (some ⟨w.heap.size + 1 + 1 + 1 + 1, 0, none⟩) 1 1) [3]) := by have h := lit_ints ((((w.alloc (.cells #[.int .u64 0, .int .u64 0, .int .u64 14, .int .u64 0, .int .u64 1, .int .u64 0, .int .u64 1, .int .u64 0, .int .u64 1, .int .u64 0] 35)).alloc (.cells #[.int .u64 0, .int .u64 0, .int .u64 10, .int .u64 0, .int .u64 5, .int .u64 0, .int .u64 10, .int .u64 0, .int .u64 21, .int .u64 0, .int .u64 8, .int .u64 0] 35)).alloc (.cells #[.int .i64 1, .int .i64 2] 3)).alloc (.cells #[.int .i64 2, .int .i64 (-3), .int .i64 2] 3)) [3] 3 (by simp); simp only [World.size_alloc] at h; exact h
  clear hb5
  have hb6 := (Below.refl (((((w.alloc (.cells #[.int .u64 0, .int .u64 0, .int .u64 14, .int .u64 0, .int .u64 1, .int .u64 0, .int .u64 1, .int .u64 0, .int .u64 1, .int .u64 0] 35)).alloc (.cells #[.int .u64 0, .int .u64 0, .int .u64 10, .int .u64 0, .int .u64 5, .int .u64 0, .int .u64 10, .int .u64 0, .int .u64 21, .int .u64 0, .int .u64 8, .int .u64 0] 35)).alloc (.cells #[.int .i64 1, .int .i64 2] 3)).alloc (.cells #[.int .i64 2, .int .i64 (-3), .int .i64 2] 3)).alloc (.cells #[.int .i64 3] 3)).heap.size (((((w.alloc (.cells #[.int .u64 0, .int .u64 0, .int .u64 14, .int .u64 0, .int .u64 1, .int .u64 0, .int .u64 1, .int .u64 0, .int .u64 1, .int .u64 0] 35)).alloc (.cells #[.int .u64 0, .int .u64 0, .int .u64 10, .int .u64 0, .int .u64 5, .int .u64 0, .int .u64 10, .int .u64 0, .int .u64 21, .int .u64 0, .int .u64 8, .int .u64 0] 35)).alloc (.cells #[.int .i64 1, .int .i64 2] 3)).alloc (.cells #[.int .i64 2, .int .i64 (-3), .int .i64 2] 3)).alloc (.cells #[.int .i64 3] 3))).alloc (Nat.le_refl _) (.cells #[.slice (some ⟨w.heap.size + 1 + 1, 0, none⟩) 2 2, .slice (some ⟨w.heap.size + 1 + 1 + 1, 0, none⟩) 3 3, .slice (some ⟨w.heap.size + 1 + 1 + 1 + 1, 0, none⟩) 1 1] 25)
  have g9_0 := f5_a.out.below hb6
  have g9_1 := f5_b.out.below hb6
  have g9_2 := f5_d.out.below hb6
  have h9_th := lit_lits (((((w.alloc (.cells #[.int .u64 0, .int .u64 0, .int .u64 14, .int .u64 0, .int .u64 1, .int .u64 0, .int .u64 1, .int .u64 0, .int .u64 1, .int .u64 0] 35)).alloc (.cells #[.int .u64 0, .int .u64 0, .int .u64 10, .int .u64 0, .int .u64 5, .int .u64 0, .int .u64 10, .int .u64 0, .int .u64 21, .int .u64 0, .int .u64 8, .int .u64 0] 35)).alloc (.cells #[.int .i64 1, .int .i64 2] 3)).alloc (.cells #[.int .i64 2, .int .i64 (-3), .int .i64 2] 3)).alloc (.cells #[.int .i64 3] 3)) [.slice (some ⟨w.heap.size + 1 + 1, 0, none⟩) 2 2, .slice (some ⟨w.heap.size + 1 + 1 + 1, 0, none⟩) 3 3, .slice (some ⟨w.heap.size + 1 + 1 + 1 + 1, 0, none⟩) 1 1] thL 25 rfl (fun i h => by
    have h : i < 3 := h
    rcases (by omega : i = 0 ∨ i = 1 ∨ i = 2) with rfl | rfl | rfl
    · exact g9_0
    · exact g9_1
    · exact g9_2)
  have f6_star : Hid (SetsAt ((((((w.alloc (.cells #[.int .u64 0, .int .u64 0, .int .u64 14, .int .u64 0, .int .u64 1, .int .u64 0, .int .u64 1, .int .u64 0, .int .u64 1, .int .u64 0] 35)).alloc (.cells #[.int .u64 0, .int .u64 0, .int .u64 10, .int .u64 0, .int .u64 5, .int .u64 0, .int .u64 10, .int .u64 0, .int .u64 21, .int .u64 0, .int .u64 8, .int .u64 0] 35)).alloc (.cells #[.int .i64 1, .int .i64 2] 3)).alloc (.cells #[.int .i64 2, .int .i64 (-3), .int .i64 2] 3)).alloc (.cells #[.int .i64 3] 3)).alloc (.cells #[.slice (some ⟨w.heap.size + 1 + 1, 0, none⟩) 2 2, .slice (some ⟨w.heap.size + 1 + 1 + 1, 0, none⟩) 3 3, .slice (some ⟨w.heap.size + 1 + 1 + 1 + 1, 0, none⟩) 1 1] 25)) (.slice (some ⟨w.heap.size, 0, none⟩) 5 5) [0#128, 14#128, 1#128, 1#128, 1#128]) := f5_star.out.below hb6
  clear f5_star
  have f6_five : Hid (SetsAt ((((((w.alloc (.cells #[.int .u64 0, .int .u64 0, .int .u64 14, .int .u64 0, .int .u64 1, .int .u64 0, .int .u64 1, .int .u64 0, .int .u64 1, .int .u64 0] 35)).alloc (.cells #[.int .u64 0, .int .u64 0, .int .u64 10, .int .u64 0, .int .u64 5, .int .u64 0, .int .u64 10, .int .u64 0, .int .u64 21, .int .u64 0, .int .u64 8, .int .u64 0] 35)).alloc (.cells #[.int .i64 1, .int .i64 2] 3)).alloc (.cells #[.int .i64 2, .int .i64 (-3), .int .i64 2] 3)).alloc (.cells #[.int .i64 3] 3)).alloc (.cells #[.slice (some ⟨w.heap.size + 1 + 1, 0, none⟩) 2 2, .slice (some ⟨w.heap.size + 1 + 1 + 1, 0, none⟩) 3 3, .slice (some ⟨w.heap.size + 1 + 1 + 1 + 1, 0, none⟩) 1 1] 25)) (.slice (some ⟨w.heap.size + 1, 0, none⟩) 6 6) [0#128, 10#128, 5#128, 10#128, 21#128, 8#128]) := f5_five.out.below hb6
  clear f5_five
  have f6_a : Hid (IntsAt ((((((w.alloc (.cells #[.int .u64 0, .int .u64 0, .int .u64 14, .int .u64 0, .int .u64 1, .int .u64 0, .int .u64 1, .int .u64 0, .int .u64 1, .int .u64 0] 35)).alloc (.cells #[.int .u64 0, .int .u64 0, .int .u64 10, .int .u64 0, .int .u64 5, .int .u64 0, .int .u64 10, .int .u64 0, .int .u64 21, .int .u64 0, .int .u64 8, .int .u64 0] 35)).alloc (.cells #[.int .i64 1, .int .i64 2] 3)).alloc (.cells #[.int .i64 2, .int .i64 (-3), .int .i64 2] 3)).alloc (.cells #[.int .i64 3] 3)).alloc (.cells #[.slice (some ⟨w.heap.size + 1 + 1, 0, none⟩) 2 2, .slice (some ⟨w.heap.size + 1 + 1 + 1, 0, none⟩) 3 3, .slice (some ⟨w.heap.size + 1 + 1 + 1 + 1, 0, none⟩) 1 1] 25)) (.slice (some ⟨w.heap.size + 1 + 1, 0, none⟩) 2 2) [1, 2]) := f5_a.out.below hb6
  clear f5_a
  have f6_b : Hid (IntsAt ((((((w.alloc (.cells #[.int .u64 0, .int .u64 0, .int .u64 14, .int .u64 0, .int .u64 1, .int .u64 0, .int .u64 1, .int .u64 0, .int .u64 1, .int .u64 0] 35)).alloc (.cells #[.int .u64 0, .int .u64 0, .int .u64 10, .int .u64 0, .int .u64 5, .int .u64 0, .int .u64 10, .int .u64 0, .int .u64 21, .int .u64 0, .int .u64 8, .int .u64 0] 35)).alloc (.cells #[.int .i64 1, .int .i64 2] 3)).alloc (.cells #[.int .i64 2, .int .i64 (-3), .int .i64 2] 3)).alloc (.cells #[.int .i64 3] 3)).alloc (.cells #[.slice (some ⟨w.heap.size + 1 + 1, 0, none⟩) 2 2, .slice (some ⟨w.heap.size + 1 + 1 + 1, 0, none⟩) 3 3, .slice (some ⟨w.heap.size + 1 + 1 + 1 + 1, 0, none⟩) 1 1] 25)) (.slice (some ⟨w.heap.size + 1 + 1 + 1, 0, none⟩) 3 3) [2, -3, 2]) := f5_b.out.below hb6
  clear f5_b
  have f6_d : Hid (IntsAt ((((((w.alloc (.cells #[.int .u64 0, .int .u64 0, .int .u64 14, .int .u64 0, .int .u64 1, .int .u64 0, .int .u64 1, .int .u64 0, .int .u64 1, .int .u64 0] 35)).alloc (.cells #[.int .u64 0, .int .u64 0, .int .u64 10, .int .u64 0, .int .u64 5, .int .u64 0, .int .u64 10, .int .u64 0, .int .u64 21, .int .u64 0, .int .u64 8, .int .u64 0] 35)).alloc (.cells #[.int .i64 1, .int .i64 2] 3)).alloc (.cells #[.int .i64 2, .int .i64 (-3), .int .i64 2] 3)).alloc (.cells #[.int .i64 3] 3)).alloc (.cells #[.slice (some ⟨w.heap.size + 1 + 1, 0, none⟩) 2 2, .slice (some ⟨w.heap.size + 1 + 1 + 1, 0, none⟩) 3 3, .slice (some ⟨w.heap.size + 1 + 1 + 1 + 1, 0, none⟩) 1 1] 25)) (.slice (some ⟨w.heap.size + 1 + 1 + 1 + 1, 0, none⟩) 1 1) [3]) := f5_d.out.below hb6
  clear f5_d
  have B6 := hid (B5.out.trans (hb6.mono B5.out.size))
  clear B5
  have f6_th : Hid (LitsAt ((((((w.alloc (.cells #[.int .u64 0, .int .u64 0, .int .u64 14, .int .u64 0, .int .u64 1, .int .u64 0, .int .u64 1, .int .u64 0, .int .u64 1, .int .u64 0] 35)).alloc (.cells #[.int .u64 0, .int .u64 0, .int .u64 10, .int .u64 0, .int .u64 5, .int .u64 0, .int .u64 10, .int .u64 0, .int .u64 21, .int .u64 0, .int .u64 8, .int .u64 0] 35)).alloc (.cells #[.int .i64 1, .int .i64 2] 3)).alloc (.cells #[.int .i64 2, .int .i64 (-3), .int .i64 2] 3)).alloc (.cells #[.int .i64 3] 3)).alloc (.cells #[.slice (some ⟨w.heap.size + 1 + 1, 0, none⟩) 2 2, .slice (some ⟨w.heap.size + 1 + 1 + 1, 0, none⟩) 3 3, .slice (some ⟨w.heap.size + 1 + 1 + 1 + 1, 0, none⟩) 1 1] 25)) (.slice (some ⟨w.heap.size + 1 + 1 + 1 + 1 + 1, 0, none⟩) 3 3) thL) := by have h := h9_th; simp only [World.size_alloc] at h; exact h
  clear hb6
  clear f6_a
  clear f6_b
  clear f6_d
  go_wp2_with fail
  refine (Edges_c 4 _ thL ((((((w.alloc (.cells #[.int .u64 0, .int .u64 0, .int .u64 14, .int .u64 0, .int .u64 1, .int .u64 0, .int .u64 1, .int .u64 0, .int .u64 1, .int .u64 0] 35)).alloc (.cells #[.int .u64 0, .int .u64 0, .int .u64 10, .int .u64 0, .int .u64 5, .int .u64 0, .int .u64 10, .int .u64 0, .int .u64 21, .int .u64 0, .int .u64 8, .int .u64 0] 35)).alloc (.cells #[.int .i64 1, .int .i64 2] 3)).alloc (.cells #[.int .i64 2, .int .i64 (-3), .int .i64 2] 3)).alloc (.cells #[.int .i64 3] 3)).alloc (.cells #[.slice (some ⟨w.heap.size + 1 + 1, 0, none⟩) 2 2, .slice (some ⟨w.heap.size + 1 + 1 + 1, 0, none⟩) 3 3, .slice (some ⟨w.heap.size + 1 + 1 + 1 + 1, 0, none⟩) 1 1] 25)) (HTT.out _ B6.out) f6_th.out (by decide) (by decide)).mono ?_
  rintro e w7 ⟨hb7, hp7⟩
  rcases hp7 with ⟨h, _⟩ | ⟨_, g7, M7, rfl, _, hM7, hl7, hs7⟩
  · exact absurd k_chk h
  obtain rfl : M7 = edL := ed_eq hl7 hs7
  clear hl7 hs7
  have f7_star : Hid (SetsAt w7 (.slice (some ⟨w.heap.size, 0, none⟩) 5 5) [0#128, 14#128, 1#128, 1#128, 1#128]) := f6_star.out.below hb7
  clear f6_star
  have f7_five : Hid (SetsAt w7 (.slice (some ⟨w.heap.size + 1, 0, none⟩) 6 6) [0#128, 10#128, 5#128, 10#128, 21#128, 8#128]) := f6_five.out.below hb7
  clear f6_five
  have f7_th : Hid (LitsAt w7 (.slice (some ⟨w.heap.size + 1 + 1 + 1 + 1 + 1, 0, none⟩) 3 3) thL) := f6_th.out.below hb7
  clear f6_th
  have B7 := hid (B6.out.trans (hb7.mono B6.out.size))
  clear B6
  clear hb7
  have fed : Hid (SetsAt w7 (.slice (some ⟨g7, 0, none⟩) edL.length edL.length) edL) := hM7.sets _
  clear hM7
  clear f7_th
  have hb8 := (Below.refl w7.heap.size w7).alloc (Nat.le_refl _) (.cells #[.int .u64 0, .int .u64 0, .int .u64 2, .int .u64 0, .int .u64 5, .int .u64 0, .int .u64 2, .int .u64 0, .int .u64 0, .int .u64 0] 35)
  have f8_star : Hid (SetsAt (w7.alloc (.cells #[.int .u64 0, .int .u64 0, .int .u64 2, .int .u64 0, .int .u64 5, .int .u64 0, .int .u64 2, .int .u64 0, .int .u64 0, .int .u64 0] 35)) (.slice (some ⟨w.heap.size, 0, none⟩) 5 5) [0#128, 14#128, 1#128, 1#128, 1#128]) := f7_star.out.below hb8
  clear f7_star
  have f8_five : Hid (SetsAt (w7.alloc (.cells #[.int .u64 0, .int .u64 0, .int .u64 2, .int .u64 0, .int .u64 5, .int .u64 0, .int .u64 2, .int .u64 0, .int .u64 0, .int .u64 0] 35)) (.slice (some ⟨w.heap.size + 1, 0, none⟩) 6 6) [0#128, 10#128, 5#128, 10#128, 21#128, 8#128]) := f7_five.out.below hb8
  clear f7_five
  have f8_ed : Hid (SetsAt (w7.alloc (.cells #[.int .u64 0, .int .u64 0, .int .u64 2, .int .u64 0, .int .u64 5, .int .u64 0, .int .u64 2, .int .u64 0, .int .u64 0, .int .u64 0] 35)) (.slice (some ⟨g7, 0, none⟩) edL.length edL.length) edL) := fed.out.below hb8
  clear fed
  have B8 := hid (B7.out.trans (hb8.mono B7.out.size))
  clear B7
  have f8_ed2 : Hid (SetsAt (w7.alloc (.cells #[.int .u64 0, .int .u64 0, .int .u64 2, .int .u64 0, .int .u64 5, .int .u64 0, .int .u64 2, .int .u64 0, .int .u64 0, .int .u64 0] 35)) (.slice (some ⟨w7.heap.size, 0, none⟩) 5 5) [0#128, 2#128, 5#128, 2#128, 0#128]) := by have h := (lit_sets w7 [0#128, 2#128, 5#128, 2#128, 0#128] #[.int .u64 0, .int .u64 0, .int .u64 2, .int .u64 0, .int .u64 5, .int .u64 0, .int .u64 2, .int .u64 0, .int .u64 0, .int .u64 0] (by kernel_rfl)).sets 5; exact h
  clear hb8
  go_wp2_with fail
  refine (sameSets_c _ _ edL edL (w7.alloc (.cells #[.int .u64 0, .int .u64 0, .int .u64 2, .int .u64 0, .int .u64 5, .int .u64 0, .int .u64 2, .int .u64 0, .int .u64 0, .int .u64 0] 35)) f8_ed.out f8_ed2.out (by decide) (by decide)).mono ?_
  rintro e w9 ⟨rfl, hb9⟩
  rw [decide_eq_true (rfl : edL = edL)]
  have f9_star : Hid (SetsAt w9 (.slice (some ⟨w.heap.size, 0, none⟩) 5 5) [0#128, 14#128, 1#128, 1#128, 1#128]) := f8_star.out.below hb9
  clear f8_star
  have f9_five : Hid (SetsAt w9 (.slice (some ⟨w.heap.size + 1, 0, none⟩) 6 6) [0#128, 10#128, 5#128, 10#128, 21#128, 8#128]) := f8_five.out.below hb9
  clear f8_five
  have f9_ed : Hid (SetsAt w9 (.slice (some ⟨g7, 0, none⟩) edL.length edL.length) edL) := f8_ed.out.below hb9
  clear f8_ed
  have f9_ed2 : Hid (SetsAt w9 (.slice (some ⟨w7.heap.size, 0, none⟩) 5 5) [0#128, 2#128, 5#128, 2#128, 0#128]) := f8_ed2.out.below hb9
  clear f8_ed2
  have B9 := hid (B8.out.trans (hb9.mono B8.out.size))
  clear B8
  clear hb9
  clear f9_ed
  clear f9_ed2
  go_wp2_with fail
  refine (MinFill_c _ starL w9 (f9_star.out) (HTT.out _ B9.out) (by decide)).mono ?_
  rintro e w10 ⟨v10, rfl, hn10, hb10⟩
  rw [k_f1] at hn10
  have hi10 := hn10.ints
  obtain ⟨p10, c10, e10, _⟩ := hn10.ints
  have e102 : v10 = .slice p10 4 c10 := e10
  subst e102
  clear hn10 e10
  have f10_star : Hid (SetsAt w10 (.slice (some ⟨w.heap.size, 0, none⟩) 5 5) [0#128, 14#128, 1#128, 1#128, 1#128]) := f9_star.out.below hb10
  clear f9_star
  have f10_five : Hid (SetsAt w10 (.slice (some ⟨w.heap.size + 1, 0, none⟩) 6 6) [0#128, 10#128, 5#128, 10#128, 21#128, 8#128]) := f9_five.out.below hb10
  clear f9_five
  have B10 := hid (B9.out.trans (hb10.mono B9.out.size))
  clear B9
  clear hb10
  have fo10 : Hid (IntsAt w10 (.slice p10 4 c10) [2, 3, 1, 4]) := hi10
  clear hi10
  go_wp2_with fail
  refine (MinDegree_c _ starL w10 (f10_star.out) (HTT.out _ B10.out) (by decide)).mono ?_
  rintro e w11 ⟨v11, rfl, hn11, hb11⟩
  rw [k_d1] at hn11
  have hi11 := hn11.ints
  obtain ⟨p11, c11, e11, _⟩ := hn11.ints
  have e112 : v11 = .slice p11 4 c11 := e11
  subst e112
  clear hn11 e11
  have f11_star : Hid (SetsAt w11 (.slice (some ⟨w.heap.size, 0, none⟩) 5 5) [0#128, 14#128, 1#128, 1#128, 1#128]) := f10_star.out.below hb11
  clear f10_star
  have f11_five : Hid (SetsAt w11 (.slice (some ⟨w.heap.size + 1, 0, none⟩) 6 6) [0#128, 10#128, 5#128, 10#128, 21#128, 8#128]) := f10_five.out.below hb11
  clear f10_five
  have f11_o1 : Hid (IntsAt w11 (.slice p10 4 c10) [2, 3, 1, 4]) := fo10.out.below hb11
  clear fo10
  have B11 := hid (B10.out.trans (hb11.mono B10.out.size))
  clear B10
  clear hb11
  have fo11 : Hid (IntsAt w11 (.slice p11 4 c11) [2, 3, 1, 4]) := hi11
  clear hi11
  go_wp2_with fail
  refine (MinFill_c _ fiveL w11 (f11_five.out) (HTT.out _ B11.out) (by decide)).mono ?_
  rintro e w12 ⟨v12, rfl, hn12, hb12⟩
  rw [k_f2] at hn12
  have hi12 := hn12.ints
  obtain ⟨p12, c12, e12, _⟩ := hn12.ints
  have e122 : v12 = .slice p12 5 c12 := e12
  subst e122
  clear hn12 e12
  have f12_star : Hid (SetsAt w12 (.slice (some ⟨w.heap.size, 0, none⟩) 5 5) [0#128, 14#128, 1#128, 1#128, 1#128]) := f11_star.out.below hb12
  clear f11_star
  have f12_five : Hid (SetsAt w12 (.slice (some ⟨w.heap.size + 1, 0, none⟩) 6 6) [0#128, 10#128, 5#128, 10#128, 21#128, 8#128]) := f11_five.out.below hb12
  clear f11_five
  have f12_o1 : Hid (IntsAt w12 (.slice p10 4 c10) [2, 3, 1, 4]) := f11_o1.out.below hb12
  clear f11_o1
  have f12_o2 : Hid (IntsAt w12 (.slice p11 4 c11) [2, 3, 1, 4]) := fo11.out.below hb12
  clear fo11
  have B12 := hid (B11.out.trans (hb12.mono B11.out.size))
  clear B11
  clear hb12
  have fo12 : Hid (IntsAt w12 (.slice p12 5 c12) [5, 1, 2, 3, 4]) := hi12
  clear hi12
  go_wp2_with fail
  refine (MinDegree_c _ fiveL w12 (f12_five.out) (HTT.out _ B12.out) (by decide)).mono ?_
  rintro e w13 ⟨v13, rfl, hn13, hb13⟩
  rw [k_d2] at hn13
  have hi13 := hn13.ints
  obtain ⟨p13, c13, e13, _⟩ := hn13.ints
  have e132 : v13 = .slice p13 5 c13 := e13
  subst e132
  clear hn13 e13
  have f13_star : Hid (SetsAt w13 (.slice (some ⟨w.heap.size, 0, none⟩) 5 5) [0#128, 14#128, 1#128, 1#128, 1#128]) := f12_star.out.below hb13
  clear f12_star
  have f13_five : Hid (SetsAt w13 (.slice (some ⟨w.heap.size + 1, 0, none⟩) 6 6) [0#128, 10#128, 5#128, 10#128, 21#128, 8#128]) := f12_five.out.below hb13
  clear f12_five
  have f13_o1 : Hid (IntsAt w13 (.slice p10 4 c10) [2, 3, 1, 4]) := f12_o1.out.below hb13
  clear f12_o1
  have f13_o2 : Hid (IntsAt w13 (.slice p11 4 c11) [2, 3, 1, 4]) := f12_o2.out.below hb13
  clear f12_o2
  have f13_o3 : Hid (IntsAt w13 (.slice p12 5 c12) [5, 1, 2, 3, 4]) := fo12.out.below hb13
  clear fo12
  have B13 := hid (B12.out.trans (hb13.mono B12.out.size))
  clear B12
  clear hb13
  have fo13 : Hid (IntsAt w13 (.slice p13 5 c13) [5, 1, 2, 3, 4]) := hi13
  clear hi13
  clear f13_five
  have hb14 := (Below.refl w13.heap.size w13).alloc (Nat.le_refl _) (.cells #[.int .u64 0, .int .u64 0, .int .u64 0, .int .u64 0, .int .u64 0, .int .u64 0] 35)
  have f14_star : Hid (SetsAt (w13.alloc (.cells #[.int .u64 0, .int .u64 0, .int .u64 0, .int .u64 0, .int .u64 0, .int .u64 0] 35)) (.slice (some ⟨w.heap.size, 0, none⟩) 5 5) [0#128, 14#128, 1#128, 1#128, 1#128]) := f13_star.out.below hb14
  clear f13_star
  have f14_o1 : Hid (IntsAt (w13.alloc (.cells #[.int .u64 0, .int .u64 0, .int .u64 0, .int .u64 0, .int .u64 0, .int .u64 0] 35)) (.slice p10 4 c10) [2, 3, 1, 4]) := f13_o1.out.below hb14
  clear f13_o1
  have f14_o2 : Hid (IntsAt (w13.alloc (.cells #[.int .u64 0, .int .u64 0, .int .u64 0, .int .u64 0, .int .u64 0, .int .u64 0] 35)) (.slice p11 4 c11) [2, 3, 1, 4]) := f13_o2.out.below hb14
  clear f13_o2
  have f14_o3 : Hid (IntsAt (w13.alloc (.cells #[.int .u64 0, .int .u64 0, .int .u64 0, .int .u64 0, .int .u64 0, .int .u64 0] 35)) (.slice p12 5 c12) [5, 1, 2, 3, 4]) := f13_o3.out.below hb14
  clear f13_o3
  have f14_o4 : Hid (IntsAt (w13.alloc (.cells #[.int .u64 0, .int .u64 0, .int .u64 0, .int .u64 0, .int .u64 0, .int .u64 0] 35)) (.slice p13 5 c13) [5, 1, 2, 3, 4]) := fo13.out.below hb14
  clear fo13
  have B14 := hid (B13.out.trans (hb14.mono B13.out.size))
  clear B13
  have f14_z : Hid (SetsAt (w13.alloc (.cells #[.int .u64 0, .int .u64 0, .int .u64 0, .int .u64 0, .int .u64 0, .int .u64 0] 35)) (.slice (some ⟨w13.heap.size, 0, none⟩) 3 3) [0#128, 0#128, 0#128]) := by have h := (lit_sets w13 [0#128, 0#128, 0#128] #[.int .u64 0, .int .u64 0, .int .u64 0, .int .u64 0, .int .u64 0, .int .u64 0] (by kernel_rfl)).sets 3; exact h
  clear hb14
  go_wp2_with fail
  refine (MinFill_c _ [0#128, 0#128, 0#128] (w13.alloc (.cells #[.int .u64 0, .int .u64 0, .int .u64 0, .int .u64 0, .int .u64 0, .int .u64 0] 35)) (f14_z.out) (HTT.out _ B14.out) (by decide)).mono ?_
  rintro e w15 ⟨v15, rfl, hn15, hb15⟩
  rw [k_f3] at hn15
  have hi15 := hn15.ints
  obtain ⟨p15, c15, e15, _⟩ := hn15.ints
  have e152 : v15 = .slice p15 2 c15 := e15
  subst e152
  clear hn15 e15
  have f15_star : Hid (SetsAt w15 (.slice (some ⟨w.heap.size, 0, none⟩) 5 5) [0#128, 14#128, 1#128, 1#128, 1#128]) := f14_star.out.below hb15
  clear f14_star
  have f15_o1 : Hid (IntsAt w15 (.slice p10 4 c10) [2, 3, 1, 4]) := f14_o1.out.below hb15
  clear f14_o1
  have f15_o2 : Hid (IntsAt w15 (.slice p11 4 c11) [2, 3, 1, 4]) := f14_o2.out.below hb15
  clear f14_o2
  have f15_o3 : Hid (IntsAt w15 (.slice p12 5 c12) [5, 1, 2, 3, 4]) := f14_o3.out.below hb15
  clear f14_o3
  have f15_o4 : Hid (IntsAt w15 (.slice p13 5 c13) [5, 1, 2, 3, 4]) := f14_o4.out.below hb15
  clear f14_o4
  have f15_z : Hid (SetsAt w15 (.slice (some ⟨w13.heap.size, 0, none⟩) 3 3) [0#128, 0#128, 0#128]) := f14_z.out.below hb15
  clear f14_z
  have B15 := hid (B14.out.trans (hb15.mono B14.out.size))
  clear B14
  clear hb15
  have fo15 : Hid (IntsAt w15 (.slice p15 2 c15) [1, 2]) := hi15
  clear hi15
  clear f15_z
  have hb16 := (Below.refl w15.heap.size w15).alloc (Nat.le_refl _) (.cells #[.int .u64 0, .int .u64 0, .int .u64 2, .int .u64 0, .int .u64 0, .int .u64 0] 35)
  have f16_star : Hid (SetsAt (w15.alloc (.cells #[.int .u64 0, .int .u64 0, .int .u64 2, .int .u64 0, .int .u64 0, .int .u64 0] 35)) (.slice (some ⟨w.heap.size, 0, none⟩) 5 5) [0#128, 14#128, 1#128, 1#128, 1#128]) := f15_star.out.below hb16
  clear f15_star
  have f16_o1 : Hid (IntsAt (w15.alloc (.cells #[.int .u64 0, .int .u64 0, .int .u64 2, .int .u64 0, .int .u64 0, .int .u64 0] 35)) (.slice p10 4 c10) [2, 3, 1, 4]) := f15_o1.out.below hb16
  clear f15_o1
  have f16_o2 : Hid (IntsAt (w15.alloc (.cells #[.int .u64 0, .int .u64 0, .int .u64 2, .int .u64 0, .int .u64 0, .int .u64 0] 35)) (.slice p11 4 c11) [2, 3, 1, 4]) := f15_o2.out.below hb16
  clear f15_o2
  have f16_o3 : Hid (IntsAt (w15.alloc (.cells #[.int .u64 0, .int .u64 0, .int .u64 2, .int .u64 0, .int .u64 0, .int .u64 0] 35)) (.slice p12 5 c12) [5, 1, 2, 3, 4]) := f15_o3.out.below hb16
  clear f15_o3
  have f16_o4 : Hid (IntsAt (w15.alloc (.cells #[.int .u64 0, .int .u64 0, .int .u64 2, .int .u64 0, .int .u64 0, .int .u64 0] 35)) (.slice p13 5 c13) [5, 1, 2, 3, 4]) := f15_o4.out.below hb16
  clear f15_o4
  have f16_o5 : Hid (IntsAt (w15.alloc (.cells #[.int .u64 0, .int .u64 0, .int .u64 2, .int .u64 0, .int .u64 0, .int .u64 0] 35)) (.slice p15 2 c15) [1, 2]) := fo15.out.below hb16
  clear fo15
  have B16 := hid (B15.out.trans (hb16.mono B15.out.size))
  clear B15
  have f16_z : Hid (SetsAt (w15.alloc (.cells #[.int .u64 0, .int .u64 0, .int .u64 2, .int .u64 0, .int .u64 0, .int .u64 0] 35)) (.slice (some ⟨w15.heap.size, 0, none⟩) 3 3) [0#128, 2#128, 0#128]) := by have h := (lit_sets w15 [0#128, 2#128, 0#128] #[.int .u64 0, .int .u64 0, .int .u64 2, .int .u64 0, .int .u64 0, .int .u64 0] (by kernel_rfl)).sets 3; exact h
  clear hb16
  go_wp2_with fail
  refine (MinFill_c _ [0#128, 2#128, 0#128] (w15.alloc (.cells #[.int .u64 0, .int .u64 0, .int .u64 2, .int .u64 0, .int .u64 0, .int .u64 0] 35)) (f16_z.out) (HTT.out _ B16.out) (by decide)).mono ?_
  rintro e w17 ⟨v17, rfl, hn17, hb17⟩
  rw [k_f4] at hn17
  have hi17 := hn17.ints
  obtain ⟨p17, c17, e17, _⟩ := hn17.ints
  have e172 : v17 = .slice p17 0 c17 := e17
  subst e172
  clear hn17 e17
  have f17_star : Hid (SetsAt w17 (.slice (some ⟨w.heap.size, 0, none⟩) 5 5) [0#128, 14#128, 1#128, 1#128, 1#128]) := f16_star.out.below hb17
  clear f16_star
  have f17_o1 : Hid (IntsAt w17 (.slice p10 4 c10) [2, 3, 1, 4]) := f16_o1.out.below hb17
  clear f16_o1
  have f17_o2 : Hid (IntsAt w17 (.slice p11 4 c11) [2, 3, 1, 4]) := f16_o2.out.below hb17
  clear f16_o2
  have f17_o3 : Hid (IntsAt w17 (.slice p12 5 c12) [5, 1, 2, 3, 4]) := f16_o3.out.below hb17
  clear f16_o3
  have f17_o4 : Hid (IntsAt w17 (.slice p13 5 c13) [5, 1, 2, 3, 4]) := f16_o4.out.below hb17
  clear f16_o4
  have f17_o5 : Hid (IntsAt w17 (.slice p15 2 c15) [1, 2]) := f16_o5.out.below hb17
  clear f16_o5
  have f17_z : Hid (SetsAt w17 (.slice (some ⟨w15.heap.size, 0, none⟩) 3 3) [0#128, 2#128, 0#128]) := f16_z.out.below hb17
  clear f16_z
  have B17 := hid (B16.out.trans (hb17.mono B16.out.size))
  clear B16
  clear hb17
  have fo17 : Hid (IntsAt w17 (.slice p17 0 c17) []) := hi17
  clear hi17
  clear f17_z
  go_wp2_with fail
  refine (MinFill_c _ [] w17 (nil_sets _) (HTT.out _ B17.out) (by decide)).mono ?_
  rintro e w18 ⟨v18, rfl, hn18, hb18⟩
  rw [k_f5] at hn18
  have hi18 := hn18.ints
  obtain ⟨p18, c18, e18, _⟩ := hn18.ints
  have e182 : v18 = .slice p18 0 c18 := e18
  subst e182
  clear hn18 e18
  have f18_star : Hid (SetsAt w18 (.slice (some ⟨w.heap.size, 0, none⟩) 5 5) [0#128, 14#128, 1#128, 1#128, 1#128]) := f17_star.out.below hb18
  clear f17_star
  have f18_o1 : Hid (IntsAt w18 (.slice p10 4 c10) [2, 3, 1, 4]) := f17_o1.out.below hb18
  clear f17_o1
  have f18_o2 : Hid (IntsAt w18 (.slice p11 4 c11) [2, 3, 1, 4]) := f17_o2.out.below hb18
  clear f17_o2
  have f18_o3 : Hid (IntsAt w18 (.slice p12 5 c12) [5, 1, 2, 3, 4]) := f17_o3.out.below hb18
  clear f17_o3
  have f18_o4 : Hid (IntsAt w18 (.slice p13 5 c13) [5, 1, 2, 3, 4]) := f17_o4.out.below hb18
  clear f17_o4
  have f18_o5 : Hid (IntsAt w18 (.slice p15 2 c15) [1, 2]) := f17_o5.out.below hb18
  clear f17_o5
  have f18_o6 : Hid (IntsAt w18 (.slice p17 0 c17) []) := fo17.out.below hb18
  clear fo17
  have B18 := hid (B17.out.trans (hb18.mono B17.out.size))
  clear B17
  clear hb18
  have fo18 : Hid (IntsAt w18 (.slice p18 0 c18) []) := hi18
  clear hi18
  have hb19 := (Below.refl w18.heap.size w18).alloc (Nat.le_refl _) (.cells #[.int .u64 1, .int .u64 0] 35)
  have f19_star : Hid (SetsAt (w18.alloc (.cells #[.int .u64 1, .int .u64 0] 35)) (.slice (some ⟨w.heap.size, 0, none⟩) 5 5) [0#128, 14#128, 1#128, 1#128, 1#128]) := f18_star.out.below hb19
  clear f18_star
  have f19_o1 : Hid (IntsAt (w18.alloc (.cells #[.int .u64 1, .int .u64 0] 35)) (.slice p10 4 c10) [2, 3, 1, 4]) := f18_o1.out.below hb19
  clear f18_o1
  have f19_o2 : Hid (IntsAt (w18.alloc (.cells #[.int .u64 1, .int .u64 0] 35)) (.slice p11 4 c11) [2, 3, 1, 4]) := f18_o2.out.below hb19
  clear f18_o2
  have f19_o3 : Hid (IntsAt (w18.alloc (.cells #[.int .u64 1, .int .u64 0] 35)) (.slice p12 5 c12) [5, 1, 2, 3, 4]) := f18_o3.out.below hb19
  clear f18_o3
  have f19_o4 : Hid (IntsAt (w18.alloc (.cells #[.int .u64 1, .int .u64 0] 35)) (.slice p13 5 c13) [5, 1, 2, 3, 4]) := f18_o4.out.below hb19
  clear f18_o4
  have f19_o5 : Hid (IntsAt (w18.alloc (.cells #[.int .u64 1, .int .u64 0] 35)) (.slice p15 2 c15) [1, 2]) := f18_o5.out.below hb19
  clear f18_o5
  have f19_o6 : Hid (IntsAt (w18.alloc (.cells #[.int .u64 1, .int .u64 0] 35)) (.slice p17 0 c17) []) := f18_o6.out.below hb19
  clear f18_o6
  have f19_o7 : Hid (IntsAt (w18.alloc (.cells #[.int .u64 1, .int .u64 0] 35)) (.slice p18 0 c18) []) := fo18.out.below hb19
  clear fo18
  have B19 := hid (B18.out.trans (hb19.mono B18.out.size))
  clear B18
  have f19_z : Hid (SetsAt (w18.alloc (.cells #[.int .u64 1, .int .u64 0] 35)) (.slice (some ⟨w18.heap.size, 0, none⟩) 1 1) [1#128]) := by have h := (lit_sets w18 [1#128] #[.int .u64 1, .int .u64 0] (by kernel_rfl)).sets 1; exact h
  clear hb19
  go_wp2_with fail
  refine (MinDegree_c _ [1#128] (w18.alloc (.cells #[.int .u64 1, .int .u64 0] 35)) (f19_z.out) (HTT.out _ B19.out) (by decide)).mono ?_
  rintro e w20 ⟨v20, rfl, hn20, hb20⟩
  rw [k_d3] at hn20
  have hi20 := hn20.ints
  obtain ⟨p20, c20, e20, _⟩ := hn20.ints
  have e202 : v20 = .slice p20 0 c20 := e20
  subst e202
  clear hn20 e20
  have f20_star : Hid (SetsAt w20 (.slice (some ⟨w.heap.size, 0, none⟩) 5 5) [0#128, 14#128, 1#128, 1#128, 1#128]) := f19_star.out.below hb20
  clear f19_star
  have f20_o1 : Hid (IntsAt w20 (.slice p10 4 c10) [2, 3, 1, 4]) := f19_o1.out.below hb20
  clear f19_o1
  have f20_o2 : Hid (IntsAt w20 (.slice p11 4 c11) [2, 3, 1, 4]) := f19_o2.out.below hb20
  clear f19_o2
  have f20_o3 : Hid (IntsAt w20 (.slice p12 5 c12) [5, 1, 2, 3, 4]) := f19_o3.out.below hb20
  clear f19_o3
  have f20_o4 : Hid (IntsAt w20 (.slice p13 5 c13) [5, 1, 2, 3, 4]) := f19_o4.out.below hb20
  clear f19_o4
  have f20_o5 : Hid (IntsAt w20 (.slice p15 2 c15) [1, 2]) := f19_o5.out.below hb20
  clear f19_o5
  have f20_o6 : Hid (IntsAt w20 (.slice p17 0 c17) []) := f19_o6.out.below hb20
  clear f19_o6
  have f20_o7 : Hid (IntsAt w20 (.slice p18 0 c18) []) := f19_o7.out.below hb20
  clear f19_o7
  have f20_z : Hid (SetsAt w20 (.slice (some ⟨w18.heap.size, 0, none⟩) 1 1) [1#128]) := f19_z.out.below hb20
  clear f19_z
  have B20 := hid (B19.out.trans (hb20.mono B19.out.size))
  clear B19
  clear hb20
  have fo20 : Hid (IntsAt w20 (.slice p20 0 c20) []) := hi20
  clear hi20
  clear f20_z
  have hb21 := (Below.refl w20.heap.size w20).alloc (Nat.le_refl _) (.cells #[.slice p10 4 c10, .slice p11 4 c11, .slice p12 5 c12, .slice p13 5 c13, .slice p15 2 c15, .slice p17 0 c17, .slice p18 0 c18, .slice p20 0 c20] 25)
  have g9_0 := f20_o1.out.below hb21
  have g9_1 := f20_o2.out.below hb21
  have g9_2 := f20_o3.out.below hb21
  have g9_3 := f20_o4.out.below hb21
  have g9_4 := f20_o5.out.below hb21
  have g9_5 := f20_o6.out.below hb21
  have g9_6 := f20_o7.out.below hb21
  have g9_7 := fo20.out.below hb21
  have h9_ls := lit_lits w20 [.slice p10 4 c10, .slice p11 4 c11, .slice p12 5 c12, .slice p13 5 c13, .slice p15 2 c15, .slice p17 0 c17, .slice p18 0 c18, .slice p20 0 c20] wantL 25 rfl (fun i h => by
    have h : i < 8 := h
    rcases (by omega : i = 0 ∨ i = 1 ∨ i = 2 ∨ i = 3 ∨ i = 4 ∨ i = 5 ∨ i = 6 ∨ i = 7) with rfl | rfl | rfl | rfl | rfl | rfl | rfl | rfl
    · exact g9_0
    · exact g9_1
    · exact g9_2
    · exact g9_3
    · exact g9_4
    · exact g9_5
    · exact g9_6
    · exact g9_7)
  have f21_star : Hid (SetsAt (w20.alloc (.cells #[.slice p10 4 c10, .slice p11 4 c11, .slice p12 5 c12, .slice p13 5 c13, .slice p15 2 c15, .slice p17 0 c17, .slice p18 0 c18, .slice p20 0 c20] 25)) (.slice (some ⟨w.heap.size, 0, none⟩) 5 5) [0#128, 14#128, 1#128, 1#128, 1#128]) := f20_star.out.below hb21
  clear f20_star
  have f21_o1 : Hid (IntsAt (w20.alloc (.cells #[.slice p10 4 c10, .slice p11 4 c11, .slice p12 5 c12, .slice p13 5 c13, .slice p15 2 c15, .slice p17 0 c17, .slice p18 0 c18, .slice p20 0 c20] 25)) (.slice p10 4 c10) [2, 3, 1, 4]) := f20_o1.out.below hb21
  clear f20_o1
  have f21_o2 : Hid (IntsAt (w20.alloc (.cells #[.slice p10 4 c10, .slice p11 4 c11, .slice p12 5 c12, .slice p13 5 c13, .slice p15 2 c15, .slice p17 0 c17, .slice p18 0 c18, .slice p20 0 c20] 25)) (.slice p11 4 c11) [2, 3, 1, 4]) := f20_o2.out.below hb21
  clear f20_o2
  have f21_o3 : Hid (IntsAt (w20.alloc (.cells #[.slice p10 4 c10, .slice p11 4 c11, .slice p12 5 c12, .slice p13 5 c13, .slice p15 2 c15, .slice p17 0 c17, .slice p18 0 c18, .slice p20 0 c20] 25)) (.slice p12 5 c12) [5, 1, 2, 3, 4]) := f20_o3.out.below hb21
  clear f20_o3
  have f21_o4 : Hid (IntsAt (w20.alloc (.cells #[.slice p10 4 c10, .slice p11 4 c11, .slice p12 5 c12, .slice p13 5 c13, .slice p15 2 c15, .slice p17 0 c17, .slice p18 0 c18, .slice p20 0 c20] 25)) (.slice p13 5 c13) [5, 1, 2, 3, 4]) := f20_o4.out.below hb21
  clear f20_o4
  have f21_o5 : Hid (IntsAt (w20.alloc (.cells #[.slice p10 4 c10, .slice p11 4 c11, .slice p12 5 c12, .slice p13 5 c13, .slice p15 2 c15, .slice p17 0 c17, .slice p18 0 c18, .slice p20 0 c20] 25)) (.slice p15 2 c15) [1, 2]) := f20_o5.out.below hb21
  clear f20_o5
  have f21_o6 : Hid (IntsAt (w20.alloc (.cells #[.slice p10 4 c10, .slice p11 4 c11, .slice p12 5 c12, .slice p13 5 c13, .slice p15 2 c15, .slice p17 0 c17, .slice p18 0 c18, .slice p20 0 c20] 25)) (.slice p17 0 c17) []) := f20_o6.out.below hb21
  clear f20_o6
  have f21_o7 : Hid (IntsAt (w20.alloc (.cells #[.slice p10 4 c10, .slice p11 4 c11, .slice p12 5 c12, .slice p13 5 c13, .slice p15 2 c15, .slice p17 0 c17, .slice p18 0 c18, .slice p20 0 c20] 25)) (.slice p18 0 c18) []) := f20_o7.out.below hb21
  clear f20_o7
  have f21_o8 : Hid (IntsAt (w20.alloc (.cells #[.slice p10 4 c10, .slice p11 4 c11, .slice p12 5 c12, .slice p13 5 c13, .slice p15 2 c15, .slice p17 0 c17, .slice p18 0 c18, .slice p20 0 c20] 25)) (.slice p20 0 c20) []) := fo20.out.below hb21
  clear fo20
  have B21 := hid (B20.out.trans (hb21.mono B20.out.size))
  clear B20
  have f21_ls : Hid (LitsAt (w20.alloc (.cells #[.slice p10 4 c10, .slice p11 4 c11, .slice p12 5 c12, .slice p13 5 c13, .slice p15 2 c15, .slice p17 0 c17, .slice p18 0 c18, .slice p20 0 c20] 25)) (.slice (some ⟨w20.heap.size, 0, none⟩) 8 8) wantL) := by have h := h9_ls; exact h
  clear hb21
  clear f21_o1
  clear f21_o2
  clear f21_o3
  clear f21_o4
  clear f21_o5
  clear f21_o6
  clear f21_o7
  clear f21_o8
  have hb22 := (Below.refl (w20.alloc (.cells #[.slice p10 4 c10, .slice p11 4 c11, .slice p12 5 c12, .slice p13 5 c13, .slice p15 2 c15, .slice p17 0 c17, .slice p18 0 c18, .slice p20 0 c20] 25)).heap.size (w20.alloc (.cells #[.slice p10 4 c10, .slice p11 4 c11, .slice p12 5 c12, .slice p13 5 c13, .slice p15 2 c15, .slice p17 0 c17, .slice p18 0 c18, .slice p20 0 c20] 25))).alloc (Nat.le_refl _) (.cells #[.int .i64 2, .int .i64 3, .int .i64 1, .int .i64 4] 3)
  have f22_star : Hid (SetsAt ((w20.alloc (.cells #[.slice p10 4 c10, .slice p11 4 c11, .slice p12 5 c12, .slice p13 5 c13, .slice p15 2 c15, .slice p17 0 c17, .slice p18 0 c18, .slice p20 0 c20] 25)).alloc (.cells #[.int .i64 2, .int .i64 3, .int .i64 1, .int .i64 4] 3)) (.slice (some ⟨w.heap.size, 0, none⟩) 5 5) [0#128, 14#128, 1#128, 1#128, 1#128]) := f21_star.out.below hb22
  clear f21_star
  have f22_ls : Hid (LitsAt ((w20.alloc (.cells #[.slice p10 4 c10, .slice p11 4 c11, .slice p12 5 c12, .slice p13 5 c13, .slice p15 2 c15, .slice p17 0 c17, .slice p18 0 c18, .slice p20 0 c20] 25)).alloc (.cells #[.int .i64 2, .int .i64 3, .int .i64 1, .int .i64 4] 3)) (.slice (some ⟨w20.heap.size, 0, none⟩) 8 8) wantL) := f21_ls.out.below hb22
  clear f21_ls
  have B22 := hid (B21.out.trans (hb22.mono B21.out.size))
  clear B21
  have f22_q1 : Hid (IntsAt ((w20.alloc (.cells #[.slice p10 4 c10, .slice p11 4 c11, .slice p12 5 c12, .slice p13 5 c13, .slice p15 2 c15, .slice p17 0 c17, .slice p18 0 c18, .slice p20 0 c20] 25)).alloc (.cells #[.int .i64 2, .int .i64 3, .int .i64 1, .int .i64 4] 3)) (.slice (some ⟨w20.heap.size + 1, 0, none⟩) 4 4) [2, 3, 1, 4]) := by have h := lit_ints (w20.alloc (.cells #[.slice p10 4 c10, .slice p11 4 c11, .slice p12 5 c12, .slice p13 5 c13, .slice p15 2 c15, .slice p17 0 c17, .slice p18 0 c18, .slice p20 0 c20] 25)) [2, 3, 1, 4] 3 (by simp); simp only [World.size_alloc] at h; exact h
  clear hb22
  have hb23 := (Below.refl ((w20.alloc (.cells #[.slice p10 4 c10, .slice p11 4 c11, .slice p12 5 c12, .slice p13 5 c13, .slice p15 2 c15, .slice p17 0 c17, .slice p18 0 c18, .slice p20 0 c20] 25)).alloc (.cells #[.int .i64 2, .int .i64 3, .int .i64 1, .int .i64 4] 3)).heap.size ((w20.alloc (.cells #[.slice p10 4 c10, .slice p11 4 c11, .slice p12 5 c12, .slice p13 5 c13, .slice p15 2 c15, .slice p17 0 c17, .slice p18 0 c18, .slice p20 0 c20] 25)).alloc (.cells #[.int .i64 2, .int .i64 3, .int .i64 1, .int .i64 4] 3))).alloc (Nat.le_refl _) (.cells #[.int .i64 2, .int .i64 3, .int .i64 1, .int .i64 4] 3)
  have f23_star : Hid (SetsAt (((w20.alloc (.cells #[.slice p10 4 c10, .slice p11 4 c11, .slice p12 5 c12, .slice p13 5 c13, .slice p15 2 c15, .slice p17 0 c17, .slice p18 0 c18, .slice p20 0 c20] 25)).alloc (.cells #[.int .i64 2, .int .i64 3, .int .i64 1, .int .i64 4] 3)).alloc (.cells #[.int .i64 2, .int .i64 3, .int .i64 1, .int .i64 4] 3)) (.slice (some ⟨w.heap.size, 0, none⟩) 5 5) [0#128, 14#128, 1#128, 1#128, 1#128]) := f22_star.out.below hb23
  clear f22_star
  have f23_ls : Hid (LitsAt (((w20.alloc (.cells #[.slice p10 4 c10, .slice p11 4 c11, .slice p12 5 c12, .slice p13 5 c13, .slice p15 2 c15, .slice p17 0 c17, .slice p18 0 c18, .slice p20 0 c20] 25)).alloc (.cells #[.int .i64 2, .int .i64 3, .int .i64 1, .int .i64 4] 3)).alloc (.cells #[.int .i64 2, .int .i64 3, .int .i64 1, .int .i64 4] 3)) (.slice (some ⟨w20.heap.size, 0, none⟩) 8 8) wantL) := f22_ls.out.below hb23
  clear f22_ls
  have f23_q1 : Hid (IntsAt (((w20.alloc (.cells #[.slice p10 4 c10, .slice p11 4 c11, .slice p12 5 c12, .slice p13 5 c13, .slice p15 2 c15, .slice p17 0 c17, .slice p18 0 c18, .slice p20 0 c20] 25)).alloc (.cells #[.int .i64 2, .int .i64 3, .int .i64 1, .int .i64 4] 3)).alloc (.cells #[.int .i64 2, .int .i64 3, .int .i64 1, .int .i64 4] 3)) (.slice (some ⟨w20.heap.size + 1, 0, none⟩) 4 4) [2, 3, 1, 4]) := f22_q1.out.below hb23
  clear f22_q1
  have B23 := hid (B22.out.trans (hb23.mono B22.out.size))
  clear B22
  have f23_q2 : Hid (IntsAt (((w20.alloc (.cells #[.slice p10 4 c10, .slice p11 4 c11, .slice p12 5 c12, .slice p13 5 c13, .slice p15 2 c15, .slice p17 0 c17, .slice p18 0 c18, .slice p20 0 c20] 25)).alloc (.cells #[.int .i64 2, .int .i64 3, .int .i64 1, .int .i64 4] 3)).alloc (.cells #[.int .i64 2, .int .i64 3, .int .i64 1, .int .i64 4] 3)) (.slice (some ⟨w20.heap.size + 1 + 1, 0, none⟩) 4 4) [2, 3, 1, 4]) := by have h := lit_ints ((w20.alloc (.cells #[.slice p10 4 c10, .slice p11 4 c11, .slice p12 5 c12, .slice p13 5 c13, .slice p15 2 c15, .slice p17 0 c17, .slice p18 0 c18, .slice p20 0 c20] 25)).alloc (.cells #[.int .i64 2, .int .i64 3, .int .i64 1, .int .i64 4] 3)) [2, 3, 1, 4] 3 (by simp); simp only [World.size_alloc] at h; exact h
  clear hb23
  have hb24 := (Below.refl (((w20.alloc (.cells #[.slice p10 4 c10, .slice p11 4 c11, .slice p12 5 c12, .slice p13 5 c13, .slice p15 2 c15, .slice p17 0 c17, .slice p18 0 c18, .slice p20 0 c20] 25)).alloc (.cells #[.int .i64 2, .int .i64 3, .int .i64 1, .int .i64 4] 3)).alloc (.cells #[.int .i64 2, .int .i64 3, .int .i64 1, .int .i64 4] 3)).heap.size (((w20.alloc (.cells #[.slice p10 4 c10, .slice p11 4 c11, .slice p12 5 c12, .slice p13 5 c13, .slice p15 2 c15, .slice p17 0 c17, .slice p18 0 c18, .slice p20 0 c20] 25)).alloc (.cells #[.int .i64 2, .int .i64 3, .int .i64 1, .int .i64 4] 3)).alloc (.cells #[.int .i64 2, .int .i64 3, .int .i64 1, .int .i64 4] 3))).alloc (Nat.le_refl _) (.cells #[.int .i64 5, .int .i64 1, .int .i64 2, .int .i64 3, .int .i64 4] 3)
  have f24_star : Hid (SetsAt ((((w20.alloc (.cells #[.slice p10 4 c10, .slice p11 4 c11, .slice p12 5 c12, .slice p13 5 c13, .slice p15 2 c15, .slice p17 0 c17, .slice p18 0 c18, .slice p20 0 c20] 25)).alloc (.cells #[.int .i64 2, .int .i64 3, .int .i64 1, .int .i64 4] 3)).alloc (.cells #[.int .i64 2, .int .i64 3, .int .i64 1, .int .i64 4] 3)).alloc (.cells #[.int .i64 5, .int .i64 1, .int .i64 2, .int .i64 3, .int .i64 4] 3)) (.slice (some ⟨w.heap.size, 0, none⟩) 5 5) [0#128, 14#128, 1#128, 1#128, 1#128]) := f23_star.out.below hb24
  clear f23_star
  have f24_ls : Hid (LitsAt ((((w20.alloc (.cells #[.slice p10 4 c10, .slice p11 4 c11, .slice p12 5 c12, .slice p13 5 c13, .slice p15 2 c15, .slice p17 0 c17, .slice p18 0 c18, .slice p20 0 c20] 25)).alloc (.cells #[.int .i64 2, .int .i64 3, .int .i64 1, .int .i64 4] 3)).alloc (.cells #[.int .i64 2, .int .i64 3, .int .i64 1, .int .i64 4] 3)).alloc (.cells #[.int .i64 5, .int .i64 1, .int .i64 2, .int .i64 3, .int .i64 4] 3)) (.slice (some ⟨w20.heap.size, 0, none⟩) 8 8) wantL) := f23_ls.out.below hb24
  clear f23_ls
  have f24_q1 : Hid (IntsAt ((((w20.alloc (.cells #[.slice p10 4 c10, .slice p11 4 c11, .slice p12 5 c12, .slice p13 5 c13, .slice p15 2 c15, .slice p17 0 c17, .slice p18 0 c18, .slice p20 0 c20] 25)).alloc (.cells #[.int .i64 2, .int .i64 3, .int .i64 1, .int .i64 4] 3)).alloc (.cells #[.int .i64 2, .int .i64 3, .int .i64 1, .int .i64 4] 3)).alloc (.cells #[.int .i64 5, .int .i64 1, .int .i64 2, .int .i64 3, .int .i64 4] 3)) (.slice (some ⟨w20.heap.size + 1, 0, none⟩) 4 4) [2, 3, 1, 4]) := f23_q1.out.below hb24
  clear f23_q1
  have f24_q2 : Hid (IntsAt ((((w20.alloc (.cells #[.slice p10 4 c10, .slice p11 4 c11, .slice p12 5 c12, .slice p13 5 c13, .slice p15 2 c15, .slice p17 0 c17, .slice p18 0 c18, .slice p20 0 c20] 25)).alloc (.cells #[.int .i64 2, .int .i64 3, .int .i64 1, .int .i64 4] 3)).alloc (.cells #[.int .i64 2, .int .i64 3, .int .i64 1, .int .i64 4] 3)).alloc (.cells #[.int .i64 5, .int .i64 1, .int .i64 2, .int .i64 3, .int .i64 4] 3)) (.slice (some ⟨w20.heap.size + 1 + 1, 0, none⟩) 4 4) [2, 3, 1, 4]) := f23_q2.out.below hb24
  clear f23_q2
  have B24 := hid (B23.out.trans (hb24.mono B23.out.size))
  clear B23
  have f24_q3 : Hid (IntsAt ((((w20.alloc (.cells #[.slice p10 4 c10, .slice p11 4 c11, .slice p12 5 c12, .slice p13 5 c13, .slice p15 2 c15, .slice p17 0 c17, .slice p18 0 c18, .slice p20 0 c20] 25)).alloc (.cells #[.int .i64 2, .int .i64 3, .int .i64 1, .int .i64 4] 3)).alloc (.cells #[.int .i64 2, .int .i64 3, .int .i64 1, .int .i64 4] 3)).alloc (.cells #[.int .i64 5, .int .i64 1, .int .i64 2, .int .i64 3, .int .i64 4] 3)) (.slice (some ⟨w20.heap.size + 1 + 1 + 1, 0, none⟩) 5 5) [5, 1, 2, 3, 4]) := by have h := lit_ints (((w20.alloc (.cells #[.slice p10 4 c10, .slice p11 4 c11, .slice p12 5 c12, .slice p13 5 c13, .slice p15 2 c15, .slice p17 0 c17, .slice p18 0 c18, .slice p20 0 c20] 25)).alloc (.cells #[.int .i64 2, .int .i64 3, .int .i64 1, .int .i64 4] 3)).alloc (.cells #[.int .i64 2, .int .i64 3, .int .i64 1, .int .i64 4] 3)) [5, 1, 2, 3, 4] 3 (by simp); simp only [World.size_alloc] at h; exact h
  clear hb24
  have hb25 := (Below.refl ((((w20.alloc (.cells #[.slice p10 4 c10, .slice p11 4 c11, .slice p12 5 c12, .slice p13 5 c13, .slice p15 2 c15, .slice p17 0 c17, .slice p18 0 c18, .slice p20 0 c20] 25)).alloc (.cells #[.int .i64 2, .int .i64 3, .int .i64 1, .int .i64 4] 3)).alloc (.cells #[.int .i64 2, .int .i64 3, .int .i64 1, .int .i64 4] 3)).alloc (.cells #[.int .i64 5, .int .i64 1, .int .i64 2, .int .i64 3, .int .i64 4] 3)).heap.size ((((w20.alloc (.cells #[.slice p10 4 c10, .slice p11 4 c11, .slice p12 5 c12, .slice p13 5 c13, .slice p15 2 c15, .slice p17 0 c17, .slice p18 0 c18, .slice p20 0 c20] 25)).alloc (.cells #[.int .i64 2, .int .i64 3, .int .i64 1, .int .i64 4] 3)).alloc (.cells #[.int .i64 2, .int .i64 3, .int .i64 1, .int .i64 4] 3)).alloc (.cells #[.int .i64 5, .int .i64 1, .int .i64 2, .int .i64 3, .int .i64 4] 3))).alloc (Nat.le_refl _) (.cells #[.int .i64 5, .int .i64 1, .int .i64 2, .int .i64 3, .int .i64 4] 3)
  have f25_star : Hid (SetsAt (((((w20.alloc (.cells #[.slice p10 4 c10, .slice p11 4 c11, .slice p12 5 c12, .slice p13 5 c13, .slice p15 2 c15, .slice p17 0 c17, .slice p18 0 c18, .slice p20 0 c20] 25)).alloc (.cells #[.int .i64 2, .int .i64 3, .int .i64 1, .int .i64 4] 3)).alloc (.cells #[.int .i64 2, .int .i64 3, .int .i64 1, .int .i64 4] 3)).alloc (.cells #[.int .i64 5, .int .i64 1, .int .i64 2, .int .i64 3, .int .i64 4] 3)).alloc (.cells #[.int .i64 5, .int .i64 1, .int .i64 2, .int .i64 3, .int .i64 4] 3)) (.slice (some ⟨w.heap.size, 0, none⟩) 5 5) [0#128, 14#128, 1#128, 1#128, 1#128]) := f24_star.out.below hb25
  clear f24_star
  have f25_ls : Hid (LitsAt (((((w20.alloc (.cells #[.slice p10 4 c10, .slice p11 4 c11, .slice p12 5 c12, .slice p13 5 c13, .slice p15 2 c15, .slice p17 0 c17, .slice p18 0 c18, .slice p20 0 c20] 25)).alloc (.cells #[.int .i64 2, .int .i64 3, .int .i64 1, .int .i64 4] 3)).alloc (.cells #[.int .i64 2, .int .i64 3, .int .i64 1, .int .i64 4] 3)).alloc (.cells #[.int .i64 5, .int .i64 1, .int .i64 2, .int .i64 3, .int .i64 4] 3)).alloc (.cells #[.int .i64 5, .int .i64 1, .int .i64 2, .int .i64 3, .int .i64 4] 3)) (.slice (some ⟨w20.heap.size, 0, none⟩) 8 8) wantL) := f24_ls.out.below hb25
  clear f24_ls
  have f25_q1 : Hid (IntsAt (((((w20.alloc (.cells #[.slice p10 4 c10, .slice p11 4 c11, .slice p12 5 c12, .slice p13 5 c13, .slice p15 2 c15, .slice p17 0 c17, .slice p18 0 c18, .slice p20 0 c20] 25)).alloc (.cells #[.int .i64 2, .int .i64 3, .int .i64 1, .int .i64 4] 3)).alloc (.cells #[.int .i64 2, .int .i64 3, .int .i64 1, .int .i64 4] 3)).alloc (.cells #[.int .i64 5, .int .i64 1, .int .i64 2, .int .i64 3, .int .i64 4] 3)).alloc (.cells #[.int .i64 5, .int .i64 1, .int .i64 2, .int .i64 3, .int .i64 4] 3)) (.slice (some ⟨w20.heap.size + 1, 0, none⟩) 4 4) [2, 3, 1, 4]) := f24_q1.out.below hb25
  clear f24_q1
  have f25_q2 : Hid (IntsAt (((((w20.alloc (.cells #[.slice p10 4 c10, .slice p11 4 c11, .slice p12 5 c12, .slice p13 5 c13, .slice p15 2 c15, .slice p17 0 c17, .slice p18 0 c18, .slice p20 0 c20] 25)).alloc (.cells #[.int .i64 2, .int .i64 3, .int .i64 1, .int .i64 4] 3)).alloc (.cells #[.int .i64 2, .int .i64 3, .int .i64 1, .int .i64 4] 3)).alloc (.cells #[.int .i64 5, .int .i64 1, .int .i64 2, .int .i64 3, .int .i64 4] 3)).alloc (.cells #[.int .i64 5, .int .i64 1, .int .i64 2, .int .i64 3, .int .i64 4] 3)) (.slice (some ⟨w20.heap.size + 1 + 1, 0, none⟩) 4 4) [2, 3, 1, 4]) := f24_q2.out.below hb25
  clear f24_q2
  have f25_q3 : Hid (IntsAt (((((w20.alloc (.cells #[.slice p10 4 c10, .slice p11 4 c11, .slice p12 5 c12, .slice p13 5 c13, .slice p15 2 c15, .slice p17 0 c17, .slice p18 0 c18, .slice p20 0 c20] 25)).alloc (.cells #[.int .i64 2, .int .i64 3, .int .i64 1, .int .i64 4] 3)).alloc (.cells #[.int .i64 2, .int .i64 3, .int .i64 1, .int .i64 4] 3)).alloc (.cells #[.int .i64 5, .int .i64 1, .int .i64 2, .int .i64 3, .int .i64 4] 3)).alloc (.cells #[.int .i64 5, .int .i64 1, .int .i64 2, .int .i64 3, .int .i64 4] 3)) (.slice (some ⟨w20.heap.size + 1 + 1 + 1, 0, none⟩) 5 5) [5, 1, 2, 3, 4]) := f24_q3.out.below hb25
  clear f24_q3
  have B25 := hid (B24.out.trans (hb25.mono B24.out.size))
  clear B24
  have f25_q4 : Hid (IntsAt (((((w20.alloc (.cells #[.slice p10 4 c10, .slice p11 4 c11, .slice p12 5 c12, .slice p13 5 c13, .slice p15 2 c15, .slice p17 0 c17, .slice p18 0 c18, .slice p20 0 c20] 25)).alloc (.cells #[.int .i64 2, .int .i64 3, .int .i64 1, .int .i64 4] 3)).alloc (.cells #[.int .i64 2, .int .i64 3, .int .i64 1, .int .i64 4] 3)).alloc (.cells #[.int .i64 5, .int .i64 1, .int .i64 2, .int .i64 3, .int .i64 4] 3)).alloc (.cells #[.int .i64 5, .int .i64 1, .int .i64 2, .int .i64 3, .int .i64 4] 3)) (.slice (some ⟨w20.heap.size + 1 + 1 + 1 + 1, 0, none⟩) 5 5) [5, 1, 2, 3, 4]) := by have h := lit_ints ((((w20.alloc (.cells #[.slice p10 4 c10, .slice p11 4 c11, .slice p12 5 c12, .slice p13 5 c13, .slice p15 2 c15, .slice p17 0 c17, .slice p18 0 c18, .slice p20 0 c20] 25)).alloc (.cells #[.int .i64 2, .int .i64 3, .int .i64 1, .int .i64 4] 3)).alloc (.cells #[.int .i64 2, .int .i64 3, .int .i64 1, .int .i64 4] 3)).alloc (.cells #[.int .i64 5, .int .i64 1, .int .i64 2, .int .i64 3, .int .i64 4] 3)) [5, 1, 2, 3, 4] 3 (by simp); simp only [World.size_alloc] at h; exact h
  clear hb25
  have hb26 := (Below.refl (((((w20.alloc (.cells #[.slice p10 4 c10, .slice p11 4 c11, .slice p12 5 c12, .slice p13 5 c13, .slice p15 2 c15, .slice p17 0 c17, .slice p18 0 c18, .slice p20 0 c20] 25)).alloc (.cells #[.int .i64 2, .int .i64 3, .int .i64 1, .int .i64 4] 3)).alloc (.cells #[.int .i64 2, .int .i64 3, .int .i64 1, .int .i64 4] 3)).alloc (.cells #[.int .i64 5, .int .i64 1, .int .i64 2, .int .i64 3, .int .i64 4] 3)).alloc (.cells #[.int .i64 5, .int .i64 1, .int .i64 2, .int .i64 3, .int .i64 4] 3)).heap.size (((((w20.alloc (.cells #[.slice p10 4 c10, .slice p11 4 c11, .slice p12 5 c12, .slice p13 5 c13, .slice p15 2 c15, .slice p17 0 c17, .slice p18 0 c18, .slice p20 0 c20] 25)).alloc (.cells #[.int .i64 2, .int .i64 3, .int .i64 1, .int .i64 4] 3)).alloc (.cells #[.int .i64 2, .int .i64 3, .int .i64 1, .int .i64 4] 3)).alloc (.cells #[.int .i64 5, .int .i64 1, .int .i64 2, .int .i64 3, .int .i64 4] 3)).alloc (.cells #[.int .i64 5, .int .i64 1, .int .i64 2, .int .i64 3, .int .i64 4] 3))).alloc (Nat.le_refl _) (.cells #[.int .i64 1, .int .i64 2] 3)
  have f26_star : Hid (SetsAt ((((((w20.alloc (.cells #[.slice p10 4 c10, .slice p11 4 c11, .slice p12 5 c12, .slice p13 5 c13, .slice p15 2 c15, .slice p17 0 c17, .slice p18 0 c18, .slice p20 0 c20] 25)).alloc (.cells #[.int .i64 2, .int .i64 3, .int .i64 1, .int .i64 4] 3)).alloc (.cells #[.int .i64 2, .int .i64 3, .int .i64 1, .int .i64 4] 3)).alloc (.cells #[.int .i64 5, .int .i64 1, .int .i64 2, .int .i64 3, .int .i64 4] 3)).alloc (.cells #[.int .i64 5, .int .i64 1, .int .i64 2, .int .i64 3, .int .i64 4] 3)).alloc (.cells #[.int .i64 1, .int .i64 2] 3)) (.slice (some ⟨w.heap.size, 0, none⟩) 5 5) [0#128, 14#128, 1#128, 1#128, 1#128]) := f25_star.out.below hb26
  clear f25_star
  have f26_ls : Hid (LitsAt ((((((w20.alloc (.cells #[.slice p10 4 c10, .slice p11 4 c11, .slice p12 5 c12, .slice p13 5 c13, .slice p15 2 c15, .slice p17 0 c17, .slice p18 0 c18, .slice p20 0 c20] 25)).alloc (.cells #[.int .i64 2, .int .i64 3, .int .i64 1, .int .i64 4] 3)).alloc (.cells #[.int .i64 2, .int .i64 3, .int .i64 1, .int .i64 4] 3)).alloc (.cells #[.int .i64 5, .int .i64 1, .int .i64 2, .int .i64 3, .int .i64 4] 3)).alloc (.cells #[.int .i64 5, .int .i64 1, .int .i64 2, .int .i64 3, .int .i64 4] 3)).alloc (.cells #[.int .i64 1, .int .i64 2] 3)) (.slice (some ⟨w20.heap.size, 0, none⟩) 8 8) wantL) := f25_ls.out.below hb26
  clear f25_ls
  have f26_q1 : Hid (IntsAt ((((((w20.alloc (.cells #[.slice p10 4 c10, .slice p11 4 c11, .slice p12 5 c12, .slice p13 5 c13, .slice p15 2 c15, .slice p17 0 c17, .slice p18 0 c18, .slice p20 0 c20] 25)).alloc (.cells #[.int .i64 2, .int .i64 3, .int .i64 1, .int .i64 4] 3)).alloc (.cells #[.int .i64 2, .int .i64 3, .int .i64 1, .int .i64 4] 3)).alloc (.cells #[.int .i64 5, .int .i64 1, .int .i64 2, .int .i64 3, .int .i64 4] 3)).alloc (.cells #[.int .i64 5, .int .i64 1, .int .i64 2, .int .i64 3, .int .i64 4] 3)).alloc (.cells #[.int .i64 1, .int .i64 2] 3)) (.slice (some ⟨w20.heap.size + 1, 0, none⟩) 4 4) [2, 3, 1, 4]) := f25_q1.out.below hb26
  clear f25_q1
  have f26_q2 : Hid (IntsAt ((((((w20.alloc (.cells #[.slice p10 4 c10, .slice p11 4 c11, .slice p12 5 c12, .slice p13 5 c13, .slice p15 2 c15, .slice p17 0 c17, .slice p18 0 c18, .slice p20 0 c20] 25)).alloc (.cells #[.int .i64 2, .int .i64 3, .int .i64 1, .int .i64 4] 3)).alloc (.cells #[.int .i64 2, .int .i64 3, .int .i64 1, .int .i64 4] 3)).alloc (.cells #[.int .i64 5, .int .i64 1, .int .i64 2, .int .i64 3, .int .i64 4] 3)).alloc (.cells #[.int .i64 5, .int .i64 1, .int .i64 2, .int .i64 3, .int .i64 4] 3)).alloc (.cells #[.int .i64 1, .int .i64 2] 3)) (.slice (some ⟨w20.heap.size + 1 + 1, 0, none⟩) 4 4) [2, 3, 1, 4]) := f25_q2.out.below hb26
  clear f25_q2
  have f26_q3 : Hid (IntsAt ((((((w20.alloc (.cells #[.slice p10 4 c10, .slice p11 4 c11, .slice p12 5 c12, .slice p13 5 c13, .slice p15 2 c15, .slice p17 0 c17, .slice p18 0 c18, .slice p20 0 c20] 25)).alloc (.cells #[.int .i64 2, .int .i64 3, .int .i64 1, .int .i64 4] 3)).alloc (.cells #[.int .i64 2, .int .i64 3, .int .i64 1, .int .i64 4] 3)).alloc (.cells #[.int .i64 5, .int .i64 1, .int .i64 2, .int .i64 3, .int .i64 4] 3)).alloc (.cells #[.int .i64 5, .int .i64 1, .int .i64 2, .int .i64 3, .int .i64 4] 3)).alloc (.cells #[.int .i64 1, .int .i64 2] 3)) (.slice (some ⟨w20.heap.size + 1 + 1 + 1, 0, none⟩) 5 5) [5, 1, 2, 3, 4]) := f25_q3.out.below hb26
  clear f25_q3
  have f26_q4 : Hid (IntsAt ((((((w20.alloc (.cells #[.slice p10 4 c10, .slice p11 4 c11, .slice p12 5 c12, .slice p13 5 c13, .slice p15 2 c15, .slice p17 0 c17, .slice p18 0 c18, .slice p20 0 c20] 25)).alloc (.cells #[.int .i64 2, .int .i64 3, .int .i64 1, .int .i64 4] 3)).alloc (.cells #[.int .i64 2, .int .i64 3, .int .i64 1, .int .i64 4] 3)).alloc (.cells #[.int .i64 5, .int .i64 1, .int .i64 2, .int .i64 3, .int .i64 4] 3)).alloc (.cells #[.int .i64 5, .int .i64 1, .int .i64 2, .int .i64 3, .int .i64 4] 3)).alloc (.cells #[.int .i64 1, .int .i64 2] 3)) (.slice (some ⟨w20.heap.size + 1 + 1 + 1 + 1, 0, none⟩) 5 5) [5, 1, 2, 3, 4]) := f25_q4.out.below hb26
  clear f25_q4
  have B26 := hid (B25.out.trans (hb26.mono B25.out.size))
  clear B25
  have f26_q5 : Hid (IntsAt ((((((w20.alloc (.cells #[.slice p10 4 c10, .slice p11 4 c11, .slice p12 5 c12, .slice p13 5 c13, .slice p15 2 c15, .slice p17 0 c17, .slice p18 0 c18, .slice p20 0 c20] 25)).alloc (.cells #[.int .i64 2, .int .i64 3, .int .i64 1, .int .i64 4] 3)).alloc (.cells #[.int .i64 2, .int .i64 3, .int .i64 1, .int .i64 4] 3)).alloc (.cells #[.int .i64 5, .int .i64 1, .int .i64 2, .int .i64 3, .int .i64 4] 3)).alloc (.cells #[.int .i64 5, .int .i64 1, .int .i64 2, .int .i64 3, .int .i64 4] 3)).alloc (.cells #[.int .i64 1, .int .i64 2] 3)) (.slice (some ⟨w20.heap.size + 1 + 1 + 1 + 1 + 1, 0, none⟩) 2 2) [1, 2]) := by have h := lit_ints (((((w20.alloc (.cells #[.slice p10 4 c10, .slice p11 4 c11, .slice p12 5 c12, .slice p13 5 c13, .slice p15 2 c15, .slice p17 0 c17, .slice p18 0 c18, .slice p20 0 c20] 25)).alloc (.cells #[.int .i64 2, .int .i64 3, .int .i64 1, .int .i64 4] 3)).alloc (.cells #[.int .i64 2, .int .i64 3, .int .i64 1, .int .i64 4] 3)).alloc (.cells #[.int .i64 5, .int .i64 1, .int .i64 2, .int .i64 3, .int .i64 4] 3)).alloc (.cells #[.int .i64 5, .int .i64 1, .int .i64 2, .int .i64 3, .int .i64 4] 3)) [1, 2] 3 (by simp); simp only [World.size_alloc] at h; exact h
  clear hb26
  have hb27 := (Below.refl ((((((w20.alloc (.cells #[.slice p10 4 c10, .slice p11 4 c11, .slice p12 5 c12, .slice p13 5 c13, .slice p15 2 c15, .slice p17 0 c17, .slice p18 0 c18, .slice p20 0 c20] 25)).alloc (.cells #[.int .i64 2, .int .i64 3, .int .i64 1, .int .i64 4] 3)).alloc (.cells #[.int .i64 2, .int .i64 3, .int .i64 1, .int .i64 4] 3)).alloc (.cells #[.int .i64 5, .int .i64 1, .int .i64 2, .int .i64 3, .int .i64 4] 3)).alloc (.cells #[.int .i64 5, .int .i64 1, .int .i64 2, .int .i64 3, .int .i64 4] 3)).alloc (.cells #[.int .i64 1, .int .i64 2] 3)).heap.size ((((((w20.alloc (.cells #[.slice p10 4 c10, .slice p11 4 c11, .slice p12 5 c12, .slice p13 5 c13, .slice p15 2 c15, .slice p17 0 c17, .slice p18 0 c18, .slice p20 0 c20] 25)).alloc (.cells #[.int .i64 2, .int .i64 3, .int .i64 1, .int .i64 4] 3)).alloc (.cells #[.int .i64 2, .int .i64 3, .int .i64 1, .int .i64 4] 3)).alloc (.cells #[.int .i64 5, .int .i64 1, .int .i64 2, .int .i64 3, .int .i64 4] 3)).alloc (.cells #[.int .i64 5, .int .i64 1, .int .i64 2, .int .i64 3, .int .i64 4] 3)).alloc (.cells #[.int .i64 1, .int .i64 2] 3))).alloc (Nat.le_refl _) (.cells #[.slice (some ⟨w20.heap.size + 1, 0, none⟩) 4 4, .slice (some ⟨w20.heap.size + 1 + 1, 0, none⟩) 4 4, .slice (some ⟨w20.heap.size + 1 + 1 + 1, 0, none⟩) 5 5, .slice (some ⟨w20.heap.size + 1 + 1 + 1 + 1, 0, none⟩) 5 5, .slice (some ⟨w20.heap.size + 1 + 1 + 1 + 1 + 1, 0, none⟩) 2 2, .slice none 0 0, .slice none 0 0, .slice none 0 0] 25)
  have g9_0 := f26_q1.out.below hb27
  have g9_1 := f26_q2.out.below hb27
  have g9_2 := f26_q3.out.below hb27
  have g9_3 := f26_q4.out.below hb27
  have g9_4 := f26_q5.out.below hb27
  have g9_5 := nil_ints (((((((w20.alloc (.cells #[.slice p10 4 c10, .slice p11 4 c11, .slice p12 5 c12, .slice p13 5 c13, .slice p15 2 c15, .slice p17 0 c17, .slice p18 0 c18, .slice p20 0 c20] 25)).alloc (.cells #[.int .i64 2, .int .i64 3, .int .i64 1, .int .i64 4] 3)).alloc (.cells #[.int .i64 2, .int .i64 3, .int .i64 1, .int .i64 4] 3)).alloc (.cells #[.int .i64 5, .int .i64 1, .int .i64 2, .int .i64 3, .int .i64 4] 3)).alloc (.cells #[.int .i64 5, .int .i64 1, .int .i64 2, .int .i64 3, .int .i64 4] 3)).alloc (.cells #[.int .i64 1, .int .i64 2] 3)).alloc (.cells #[.slice (some ⟨w20.heap.size + 1, 0, none⟩) 4 4, .slice (some ⟨w20.heap.size + 1 + 1, 0, none⟩) 4 4, .slice (some ⟨w20.heap.size + 1 + 1 + 1, 0, none⟩) 5 5, .slice (some ⟨w20.heap.size + 1 + 1 + 1 + 1, 0, none⟩) 5 5, .slice (some ⟨w20.heap.size + 1 + 1 + 1 + 1 + 1, 0, none⟩) 2 2, .slice none 0 0, .slice none 0 0, .slice none 0 0] 25))
  have g9_6 := nil_ints (((((((w20.alloc (.cells #[.slice p10 4 c10, .slice p11 4 c11, .slice p12 5 c12, .slice p13 5 c13, .slice p15 2 c15, .slice p17 0 c17, .slice p18 0 c18, .slice p20 0 c20] 25)).alloc (.cells #[.int .i64 2, .int .i64 3, .int .i64 1, .int .i64 4] 3)).alloc (.cells #[.int .i64 2, .int .i64 3, .int .i64 1, .int .i64 4] 3)).alloc (.cells #[.int .i64 5, .int .i64 1, .int .i64 2, .int .i64 3, .int .i64 4] 3)).alloc (.cells #[.int .i64 5, .int .i64 1, .int .i64 2, .int .i64 3, .int .i64 4] 3)).alloc (.cells #[.int .i64 1, .int .i64 2] 3)).alloc (.cells #[.slice (some ⟨w20.heap.size + 1, 0, none⟩) 4 4, .slice (some ⟨w20.heap.size + 1 + 1, 0, none⟩) 4 4, .slice (some ⟨w20.heap.size + 1 + 1 + 1, 0, none⟩) 5 5, .slice (some ⟨w20.heap.size + 1 + 1 + 1 + 1, 0, none⟩) 5 5, .slice (some ⟨w20.heap.size + 1 + 1 + 1 + 1 + 1, 0, none⟩) 2 2, .slice none 0 0, .slice none 0 0, .slice none 0 0] 25))
  have g9_7 := nil_ints (((((((w20.alloc (.cells #[.slice p10 4 c10, .slice p11 4 c11, .slice p12 5 c12, .slice p13 5 c13, .slice p15 2 c15, .slice p17 0 c17, .slice p18 0 c18, .slice p20 0 c20] 25)).alloc (.cells #[.int .i64 2, .int .i64 3, .int .i64 1, .int .i64 4] 3)).alloc (.cells #[.int .i64 2, .int .i64 3, .int .i64 1, .int .i64 4] 3)).alloc (.cells #[.int .i64 5, .int .i64 1, .int .i64 2, .int .i64 3, .int .i64 4] 3)).alloc (.cells #[.int .i64 5, .int .i64 1, .int .i64 2, .int .i64 3, .int .i64 4] 3)).alloc (.cells #[.int .i64 1, .int .i64 2] 3)).alloc (.cells #[.slice (some ⟨w20.heap.size + 1, 0, none⟩) 4 4, .slice (some ⟨w20.heap.size + 1 + 1, 0, none⟩) 4 4, .slice (some ⟨w20.heap.size + 1 + 1 + 1, 0, none⟩) 5 5, .slice (some ⟨w20.heap.size + 1 + 1 + 1 + 1, 0, none⟩) 5 5, .slice (some ⟨w20.heap.size + 1 + 1 + 1 + 1 + 1, 0, none⟩) 2 2, .slice none 0 0, .slice none 0 0, .slice none 0 0] 25))
  have h9_wt := lit_lits ((((((w20.alloc (.cells #[.slice p10 4 c10, .slice p11 4 c11, .slice p12 5 c12, .slice p13 5 c13, .slice p15 2 c15, .slice p17 0 c17, .slice p18 0 c18, .slice p20 0 c20] 25)).alloc (.cells #[.int .i64 2, .int .i64 3, .int .i64 1, .int .i64 4] 3)).alloc (.cells #[.int .i64 2, .int .i64 3, .int .i64 1, .int .i64 4] 3)).alloc (.cells #[.int .i64 5, .int .i64 1, .int .i64 2, .int .i64 3, .int .i64 4] 3)).alloc (.cells #[.int .i64 5, .int .i64 1, .int .i64 2, .int .i64 3, .int .i64 4] 3)).alloc (.cells #[.int .i64 1, .int .i64 2] 3)) [.slice (some ⟨w20.heap.size + 1, 0, none⟩) 4 4, .slice (some ⟨w20.heap.size + 1 + 1, 0, none⟩) 4 4, .slice (some ⟨w20.heap.size + 1 + 1 + 1, 0, none⟩) 5 5, .slice (some ⟨w20.heap.size + 1 + 1 + 1 + 1, 0, none⟩) 5 5, .slice (some ⟨w20.heap.size + 1 + 1 + 1 + 1 + 1, 0, none⟩) 2 2, .slice none 0 0, .slice none 0 0, .slice none 0 0] wantL 25 rfl (fun i h => by
    have h : i < 8 := h
    rcases (by omega : i = 0 ∨ i = 1 ∨ i = 2 ∨ i = 3 ∨ i = 4 ∨ i = 5 ∨ i = 6 ∨ i = 7) with rfl | rfl | rfl | rfl | rfl | rfl | rfl | rfl
    · exact g9_0
    · exact g9_1
    · exact g9_2
    · exact g9_3
    · exact g9_4
    · exact g9_5
    · exact g9_6
    · exact g9_7)
  have f27_star : Hid (SetsAt (((((((w20.alloc (.cells #[.slice p10 4 c10, .slice p11 4 c11, .slice p12 5 c12, .slice p13 5 c13, .slice p15 2 c15, .slice p17 0 c17, .slice p18 0 c18, .slice p20 0 c20] 25)).alloc (.cells #[.int .i64 2, .int .i64 3, .int .i64 1, .int .i64 4] 3)).alloc (.cells #[.int .i64 2, .int .i64 3, .int .i64 1, .int .i64 4] 3)).alloc (.cells #[.int .i64 5, .int .i64 1, .int .i64 2, .int .i64 3, .int .i64 4] 3)).alloc (.cells #[.int .i64 5, .int .i64 1, .int .i64 2, .int .i64 3, .int .i64 4] 3)).alloc (.cells #[.int .i64 1, .int .i64 2] 3)).alloc (.cells #[.slice (some ⟨w20.heap.size + 1, 0, none⟩) 4 4, .slice (some ⟨w20.heap.size + 1 + 1, 0, none⟩) 4 4, .slice (some ⟨w20.heap.size + 1 + 1 + 1, 0, none⟩) 5 5, .slice (some ⟨w20.heap.size + 1 + 1 + 1 + 1, 0, none⟩) 5 5, .slice (some ⟨w20.heap.size + 1 + 1 + 1 + 1 + 1, 0, none⟩) 2 2, .slice none 0 0, .slice none 0 0, .slice none 0 0] 25)) (.slice (some ⟨w.heap.size, 0, none⟩) 5 5) [0#128, 14#128, 1#128, 1#128, 1#128]) := f26_star.out.below hb27
  clear f26_star
  have f27_ls : Hid (LitsAt (((((((w20.alloc (.cells #[.slice p10 4 c10, .slice p11 4 c11, .slice p12 5 c12, .slice p13 5 c13, .slice p15 2 c15, .slice p17 0 c17, .slice p18 0 c18, .slice p20 0 c20] 25)).alloc (.cells #[.int .i64 2, .int .i64 3, .int .i64 1, .int .i64 4] 3)).alloc (.cells #[.int .i64 2, .int .i64 3, .int .i64 1, .int .i64 4] 3)).alloc (.cells #[.int .i64 5, .int .i64 1, .int .i64 2, .int .i64 3, .int .i64 4] 3)).alloc (.cells #[.int .i64 5, .int .i64 1, .int .i64 2, .int .i64 3, .int .i64 4] 3)).alloc (.cells #[.int .i64 1, .int .i64 2] 3)).alloc (.cells #[.slice (some ⟨w20.heap.size + 1, 0, none⟩) 4 4, .slice (some ⟨w20.heap.size + 1 + 1, 0, none⟩) 4 4, .slice (some ⟨w20.heap.size + 1 + 1 + 1, 0, none⟩) 5 5, .slice (some ⟨w20.heap.size + 1 + 1 + 1 + 1, 0, none⟩) 5 5, .slice (some ⟨w20.heap.size + 1 + 1 + 1 + 1 + 1, 0, none⟩) 2 2, .slice none 0 0, .slice none 0 0, .slice none 0 0] 25)) (.slice (some ⟨w20.heap.size, 0, none⟩) 8 8) wantL) := f26_ls.out.below hb27
  clear f26_ls
  have f27_q1 : Hid (IntsAt (((((((w20.alloc (.cells #[.slice p10 4 c10, .slice p11 4 c11, .slice p12 5 c12, .slice p13 5 c13, .slice p15 2 c15, .slice p17 0 c17, .slice p18 0 c18, .slice p20 0 c20] 25)).alloc (.cells #[.int .i64 2, .int .i64 3, .int .i64 1, .int .i64 4] 3)).alloc (.cells #[.int .i64 2, .int .i64 3, .int .i64 1, .int .i64 4] 3)).alloc (.cells #[.int .i64 5, .int .i64 1, .int .i64 2, .int .i64 3, .int .i64 4] 3)).alloc (.cells #[.int .i64 5, .int .i64 1, .int .i64 2, .int .i64 3, .int .i64 4] 3)).alloc (.cells #[.int .i64 1, .int .i64 2] 3)).alloc (.cells #[.slice (some ⟨w20.heap.size + 1, 0, none⟩) 4 4, .slice (some ⟨w20.heap.size + 1 + 1, 0, none⟩) 4 4, .slice (some ⟨w20.heap.size + 1 + 1 + 1, 0, none⟩) 5 5, .slice (some ⟨w20.heap.size + 1 + 1 + 1 + 1, 0, none⟩) 5 5, .slice (some ⟨w20.heap.size + 1 + 1 + 1 + 1 + 1, 0, none⟩) 2 2, .slice none 0 0, .slice none 0 0, .slice none 0 0] 25)) (.slice (some ⟨w20.heap.size + 1, 0, none⟩) 4 4) [2, 3, 1, 4]) := f26_q1.out.below hb27
  clear f26_q1
  have f27_q2 : Hid (IntsAt (((((((w20.alloc (.cells #[.slice p10 4 c10, .slice p11 4 c11, .slice p12 5 c12, .slice p13 5 c13, .slice p15 2 c15, .slice p17 0 c17, .slice p18 0 c18, .slice p20 0 c20] 25)).alloc (.cells #[.int .i64 2, .int .i64 3, .int .i64 1, .int .i64 4] 3)).alloc (.cells #[.int .i64 2, .int .i64 3, .int .i64 1, .int .i64 4] 3)).alloc (.cells #[.int .i64 5, .int .i64 1, .int .i64 2, .int .i64 3, .int .i64 4] 3)).alloc (.cells #[.int .i64 5, .int .i64 1, .int .i64 2, .int .i64 3, .int .i64 4] 3)).alloc (.cells #[.int .i64 1, .int .i64 2] 3)).alloc (.cells #[.slice (some ⟨w20.heap.size + 1, 0, none⟩) 4 4, .slice (some ⟨w20.heap.size + 1 + 1, 0, none⟩) 4 4, .slice (some ⟨w20.heap.size + 1 + 1 + 1, 0, none⟩) 5 5, .slice (some ⟨w20.heap.size + 1 + 1 + 1 + 1, 0, none⟩) 5 5, .slice (some ⟨w20.heap.size + 1 + 1 + 1 + 1 + 1, 0, none⟩) 2 2, .slice none 0 0, .slice none 0 0, .slice none 0 0] 25)) (.slice (some ⟨w20.heap.size + 1 + 1, 0, none⟩) 4 4) [2, 3, 1, 4]) := f26_q2.out.below hb27
  clear f26_q2
  have f27_q3 : Hid (IntsAt (((((((w20.alloc (.cells #[.slice p10 4 c10, .slice p11 4 c11, .slice p12 5 c12, .slice p13 5 c13, .slice p15 2 c15, .slice p17 0 c17, .slice p18 0 c18, .slice p20 0 c20] 25)).alloc (.cells #[.int .i64 2, .int .i64 3, .int .i64 1, .int .i64 4] 3)).alloc (.cells #[.int .i64 2, .int .i64 3, .int .i64 1, .int .i64 4] 3)).alloc (.cells #[.int .i64 5, .int .i64 1, .int .i64 2, .int .i64 3, .int .i64 4] 3)).alloc (.cells #[.int .i64 5, .int .i64 1, .int .i64 2, .int .i64 3, .int .i64 4] 3)).alloc (.cells #[.int .i64 1, .int .i64 2] 3)).alloc (.cells #[.slice (some ⟨w20.heap.size + 1, 0, none⟩) 4 4, .slice (some ⟨w20.heap.size + 1 + 1, 0, none⟩) 4 4, .slice (some ⟨w20.heap.size + 1 + 1 + 1, 0, none⟩) 5 5, .slice (some ⟨w20.heap.size + 1 + 1 + 1 + 1, 0, none⟩) 5 5, .slice (some ⟨w20.heap.size + 1 + 1 + 1 + 1 + 1, 0, none⟩) 2 2, .slice none 0 0, .slice none 0 0, .slice none 0 0] 25)) (.slice (some ⟨w20.heap.size + 1 + 1 + 1, 0, none⟩) 5 5) [5, 1, 2, 3, 4]) := f26_q3.out.below hb27
  clear f26_q3
  have f27_q4 : Hid (IntsAt (((((((w20.alloc (.cells #[.slice p10 4 c10, .slice p11 4 c11, .slice p12 5 c12, .slice p13 5 c13, .slice p15 2 c15, .slice p17 0 c17, .slice p18 0 c18, .slice p20 0 c20] 25)).alloc (.cells #[.int .i64 2, .int .i64 3, .int .i64 1, .int .i64 4] 3)).alloc (.cells #[.int .i64 2, .int .i64 3, .int .i64 1, .int .i64 4] 3)).alloc (.cells #[.int .i64 5, .int .i64 1, .int .i64 2, .int .i64 3, .int .i64 4] 3)).alloc (.cells #[.int .i64 5, .int .i64 1, .int .i64 2, .int .i64 3, .int .i64 4] 3)).alloc (.cells #[.int .i64 1, .int .i64 2] 3)).alloc (.cells #[.slice (some ⟨w20.heap.size + 1, 0, none⟩) 4 4, .slice (some ⟨w20.heap.size + 1 + 1, 0, none⟩) 4 4, .slice (some ⟨w20.heap.size + 1 + 1 + 1, 0, none⟩) 5 5, .slice (some ⟨w20.heap.size + 1 + 1 + 1 + 1, 0, none⟩) 5 5, .slice (some ⟨w20.heap.size + 1 + 1 + 1 + 1 + 1, 0, none⟩) 2 2, .slice none 0 0, .slice none 0 0, .slice none 0 0] 25)) (.slice (some ⟨w20.heap.size + 1 + 1 + 1 + 1, 0, none⟩) 5 5) [5, 1, 2, 3, 4]) := f26_q4.out.below hb27
  clear f26_q4
  have f27_q5 : Hid (IntsAt (((((((w20.alloc (.cells #[.slice p10 4 c10, .slice p11 4 c11, .slice p12 5 c12, .slice p13 5 c13, .slice p15 2 c15, .slice p17 0 c17, .slice p18 0 c18, .slice p20 0 c20] 25)).alloc (.cells #[.int .i64 2, .int .i64 3, .int .i64 1, .int .i64 4] 3)).alloc (.cells #[.int .i64 2, .int .i64 3, .int .i64 1, .int .i64 4] 3)).alloc (.cells #[.int .i64 5, .int .i64 1, .int .i64 2, .int .i64 3, .int .i64 4] 3)).alloc (.cells #[.int .i64 5, .int .i64 1, .int .i64 2, .int .i64 3, .int .i64 4] 3)).alloc (.cells #[.int .i64 1, .int .i64 2] 3)).alloc (.cells #[.slice (some ⟨w20.heap.size + 1, 0, none⟩) 4 4, .slice (some ⟨w20.heap.size + 1 + 1, 0, none⟩) 4 4, .slice (some ⟨w20.heap.size + 1 + 1 + 1, 0, none⟩) 5 5, .slice (some ⟨w20.heap.size + 1 + 1 + 1 + 1, 0, none⟩) 5 5, .slice (some ⟨w20.heap.size + 1 + 1 + 1 + 1 + 1, 0, none⟩) 2 2, .slice none 0 0, .slice none 0 0, .slice none 0 0] 25)) (.slice (some ⟨w20.heap.size + 1 + 1 + 1 + 1 + 1, 0, none⟩) 2 2) [1, 2]) := f26_q5.out.below hb27
  clear f26_q5
  have B27 := hid (B26.out.trans (hb27.mono B26.out.size))
  clear B26
  have f27_wt : Hid (LitsAt (((((((w20.alloc (.cells #[.slice p10 4 c10, .slice p11 4 c11, .slice p12 5 c12, .slice p13 5 c13, .slice p15 2 c15, .slice p17 0 c17, .slice p18 0 c18, .slice p20 0 c20] 25)).alloc (.cells #[.int .i64 2, .int .i64 3, .int .i64 1, .int .i64 4] 3)).alloc (.cells #[.int .i64 2, .int .i64 3, .int .i64 1, .int .i64 4] 3)).alloc (.cells #[.int .i64 5, .int .i64 1, .int .i64 2, .int .i64 3, .int .i64 4] 3)).alloc (.cells #[.int .i64 5, .int .i64 1, .int .i64 2, .int .i64 3, .int .i64 4] 3)).alloc (.cells #[.int .i64 1, .int .i64 2] 3)).alloc (.cells #[.slice (some ⟨w20.heap.size + 1, 0, none⟩) 4 4, .slice (some ⟨w20.heap.size + 1 + 1, 0, none⟩) 4 4, .slice (some ⟨w20.heap.size + 1 + 1 + 1, 0, none⟩) 5 5, .slice (some ⟨w20.heap.size + 1 + 1 + 1 + 1, 0, none⟩) 5 5, .slice (some ⟨w20.heap.size + 1 + 1 + 1 + 1 + 1, 0, none⟩) 2 2, .slice none 0 0, .slice none 0 0, .slice none 0 0] 25)) (.slice (some ⟨w20.heap.size + 1 + 1 + 1 + 1 + 1 + 1, 0, none⟩) 8 8) wantL) := by have h := h9_wt; simp only [World.size_alloc] at h; exact h
  clear hb27
  clear f27_q1
  clear f27_q2
  clear f27_q3
  clear f27_q4
  clear f27_q5
  go_wp2_with fail
  generalize (((((((w20.alloc (.cells #[.slice p10 4 c10, .slice p11 4 c11, .slice p12 5 c12, .slice p13 5 c13, .slice p15 2 c15, .slice p17 0 c17, .slice p18 0 c18, .slice p20 0 c20] 25)).alloc (.cells #[.int .i64 2, .int .i64 3, .int .i64 1, .int .i64 4] 3)).alloc (.cells #[.int .i64 2, .int .i64 3, .int .i64 1, .int .i64 4] 3)).alloc (.cells #[.int .i64 5, .int .i64 1, .int .i64 2, .int .i64 3, .int .i64 4] 3)).alloc (.cells #[.int .i64 5, .int .i64 1, .int .i64 2, .int .i64 3, .int .i64 4] 3)).alloc (.cells #[.int .i64 1, .int .i64 2] 3)).alloc (.cells #[.slice (some ⟨w20.heap.size + 1, 0, none⟩) 4 4, .slice (some ⟨w20.heap.size + 1 + 1, 0, none⟩) 4 4, .slice (some ⟨w20.heap.size + 1 + 1 + 1, 0, none⟩) 5 5, .slice (some ⟨w20.heap.size + 1 + 1 + 1 + 1, 0, none⟩) 5 5, .slice (some ⟨w20.heap.size + 1 + 1 + 1 + 1 + 1, 0, none⟩) 2 2, .slice none 0 0, .slice none 0 0, .slice none 0 0] 25)) = wa at *
  generalize w20.heap.size = na at *
  have hwl : ∀ x ∈ wantL, x.length ≤ 5 := by decide
  have HWL := hid hwl
  have HBr := hid (Below.refl wa.heap.size wa)
  have GL := hid (fun j (hj : j < wantL.length) => lits_get (c := 8) f27_ls.out j hj)
  have GW := hid (fun j (hj : j < wantL.length) => lits_get (c := 8) f27_wt.out j hj)
  clear hwl f27_ls f27_wt
  go_loopw [7] (fun z wr => ∃ (j : Nat), j ≤ 8 ∧ z = .int .i64 j ∧ Hid (Below wa.heap.size wa wr)) (fun z _ => 8 - (intOf z).toNat)
  case atStart => exact ⟨0, by omega, rfl, HBr.out⟩
  case round =>
    clear HBr
    obtain ⟨j, hj, rfl, hbr⟩ := hrel
    by_cases hjl : j < 8
    · have hjw : j < wantL.length := hjl
      obtain ⟨p1, c1, e1, i1⟩ := GL.out j hjw
      obtain ⟨p2, c2, e2, i2⟩ := GW.out j hjw
      rw [Nat.zero_add] at e1 e2
      have hll := HWL.out _ (List.getElem_mem hjw)
      generalize wantL[j] = l at *
      have HE1 := hid e1
      have HE2 := hid e2
      have HI1 := hid i1
      have HI2 := hid i2
      have zj : (0 : Int) ≤ (j : Int) ∧ (j : Int) < (8 : Int) := by omega
      have RA : Hid (wr.drew.cell? ⟨(na), j, none⟩ = some (.slice p1 l.length c1)) := (hbr.out.cell (cell_lt e1)).trans e1
      have RB : Hid (wr.drew.cell? ⟨(na + 1 + 1 + 1 + 1 + 1 + 1), j, none⟩ = some (.slice p2 l.length c2)) := (hbr.out.cell (cell_lt e2)).trans e2
      have HBd := hid hbr.out.drew
      clear e1 e2 i1 i2 hjw hbr
      go_wp2_with fail
      refine Go.Proofs.YthgkklahiclcpaaDoor.wp_region_L 11 10 (fun w' => w'.cell? ⟨(na), j, none⟩ = some (.slice p1 l.length c1) ∧ w'.cell? ⟨(na + 1 + 1 + 1 + 1 + 1 + 1), j, none⟩ = some (.slice p2 l.length c2)) (by kernel_rfl) rfl ⟨RA.out, RB.out⟩ (fun _ => ?_)
      refine wpAnyL_pure (i := 0) (v := .slice (some ⟨(na), 0, none⟩) 8 8) (by simp only [List.getElem?_toArray, List.getElem?_cons_zero] <;> rfl) (by kernel_rfl) (by kernel_rfl) (by kernel_rfl) (by exact fun _ _ _ h => h) (by decide) (.inr ⟨RA.out, RB.out⟩) (Or.inl ⟨by rfl, fun w _ => (by simp [execOp, go_sem, Act.eval])⟩) (fun _ => ?_)
      simp only [Act.put, List.setIfInBounds_toArray, List.set_cons_zero, List.set_cons_succ]
      refine wpAnyL_pure (i := 1) (v := .int .i64 (j : Int)) (by simp only [List.getElem?_toArray, List.getElem?_cons_zero, List.getElem?_cons_succ] <;> rfl) (by kernel_rfl) (by kernel_rfl) (by kernel_rfl) (by exact fun _ _ _ h => h) (by decide) (.inr ⟨RA.out, RB.out⟩) (Or.inl ⟨by rfl, fun w _ => (by simp [execOp, go_sem, Act.eval])⟩) (fun _ => ?_)
      simp only [Act.put, List.setIfInBounds_toArray, List.set_cons_zero, List.set_cons_succ]
      refine wpAnyL_pure (i := 2) (v := .pointer (some ⟨(na), j, none⟩)) (by simp only [List.getElem?_toArray, List.getElem?_cons_zero, List.getElem?_cons_succ] <;> rfl) (by kernel_rfl) (by kernel_rfl) (by kernel_rfl) (by exact fun _ _ _ h => h) (by decide) (.inr ⟨RA.out, RB.out⟩) (Or.inl ⟨by rfl, fun w _ => (by simp [execOp, go_sem, Act.eval, zj])⟩) (fun _ => ?_)
      simp only [Act.put, List.setIfInBounds_toArray, List.set_cons_zero, List.set_cons_succ]
      refine wpAnyL_load2 (i := 3) (v := .slice p1 l.length c1) (by simp only [List.getElem?_toArray, List.getElem?_cons_zero, List.getElem?_cons_succ] <;> rfl) (by kernel_rfl) (by kernel_rfl) (by kernel_rfl) (by exact fun _ _ _ h => h) (by decide) (Waits.more (j := 4) rfl ⟨⟨4, .data⟩, by simp, rfl, rfl⟩ (Waits.one rfl ⟨⟨3, .data⟩, by simp, rfl, rfl⟩)) (by kernel_rfl) (by kernel_rfl) (.inr ⟨RA.out, RB.out⟩) (Or.inl ⟨by rfl, fun w hw => (by obtain ⟨x0, _⟩ := hw; simp [execOp, go_sem, Act.eval, x0])⟩) (fun _ => ?_)
      simp only [Act.put, List.setIfInBounds_toArray, List.set_cons_zero, List.set_cons_succ]
      refine wpAnyL_pure (i := 4) (v := .int .i64 ((l.length : Nat) : Int)) (by simp only [List.getElem?_toArray, List.getElem?_cons_zero, List.getElem?_cons_succ] <;> rfl) (by kernel_rfl) (by kernel_rfl) (by kernel_rfl) (by exact fun _ _ _ h => h) (by decide) (.inr ⟨RA.out, RB.out⟩) (Or.inl ⟨by rfl, fun w _ => (by simp [go_sem, Act.eval])⟩) (fun _ => ?_)
      simp only [Act.put, List.setIfInBounds_toArray, List.set_cons_zero, List.set_cons_succ]
      refine wpAnyL_pure (i := 5) (v := .slice (some ⟨(na + 1 + 1 + 1 + 1 + 1 + 1), 0, none⟩) 8 8) (by simp only [List.getElem?_toArray, List.getElem?_cons_zero, List.getElem?_cons_succ] <;> rfl) (by kernel_rfl) (by kernel_rfl) (by kernel_rfl) (by exact fun _ _ _ h => h) (by decide) (.inr ⟨RA.out, RB.out⟩) (Or.inl ⟨by rfl, fun w _ => (by simp [execOp, go_sem, Act.eval])⟩) (fun _ => ?_)
      simp only [Act.put, List.setIfInBounds_toArray, List.set_cons_zero, List.set_cons_succ]
      refine wpAnyL_pure (i := 6) (v := .int .i64 (j : Int)) (by simp only [List.getElem?_toArray, List.getElem?_cons_zero, List.getElem?_cons_succ] <;> rfl) (by kernel_rfl) (by kernel_rfl) (by kernel_rfl) (by exact fun _ _ _ h => h) (by decide) (.inr ⟨RA.out, RB.out⟩) (Or.inl ⟨by rfl, fun w _ => (by simp [execOp, go_sem, Act.eval])⟩) (fun _ => ?_)
      simp only [Act.put, List.setIfInBounds_toArray, List.set_cons_zero, List.set_cons_succ]
      refine wpAnyL_pure (i := 7) (v := .pointer (some ⟨(na + 1 + 1 + 1 + 1 + 1 + 1), j, none⟩)) (by simp only [List.getElem?_toArray, List.getElem?_cons_zero, List.getElem?_cons_succ] <;> rfl) (by kernel_rfl) (by kernel_rfl) (by kernel_rfl) (by exact fun _ _ _ h => h) (by decide) (.inr ⟨RA.out, RB.out⟩) (Or.inl ⟨by rfl, fun w _ => (by simp [execOp, go_sem, Act.eval, zj])⟩) (fun _ => ?_)
      simp only [Act.put, List.setIfInBounds_toArray, List.set_cons_zero, List.set_cons_succ]
      refine wpAnyL_load2 (i := 8) (v := .slice p2 l.length c2) (by simp only [List.getElem?_toArray, List.getElem?_cons_zero, List.getElem?_cons_succ] <;> rfl) (by kernel_rfl) (by kernel_rfl) (by kernel_rfl) (by exact fun _ _ _ h => h) (by decide) (Waits.more (j := 9) rfl ⟨⟨9, .data⟩, by simp, rfl, rfl⟩ (Waits.one rfl ⟨⟨8, .data⟩, by simp, rfl, rfl⟩)) (by kernel_rfl) (by kernel_rfl) (.inr ⟨RA.out, RB.out⟩) (Or.inl ⟨by rfl, fun w hw => (by obtain ⟨_, x1⟩ := hw; simp [execOp, go_sem, Act.eval, x1])⟩) (fun _ => ?_)
      simp only [Act.put, List.setIfInBounds_toArray, List.set_cons_zero, List.set_cons_succ]
      refine wpAnyL_pure (i := 9) (v := .int .i64 ((l.length : Nat) : Int)) (by simp only [List.getElem?_toArray, List.getElem?_cons_zero, List.getElem?_cons_succ] <;> rfl) (by kernel_rfl) (by kernel_rfl) (by kernel_rfl) (by exact fun _ _ _ h => h) (by decide) (.inr ⟨RA.out, RB.out⟩) (Or.inl ⟨by rfl, fun w _ => (by simp [go_sem, Act.eval])⟩) (fun _ => ?_)
      simp only [Act.put, List.setIfInBounds_toArray, List.set_cons_zero, List.set_cons_succ]
      refine wpAnyL_one (i := 10) (by kernel_rfl) (by simp only [List.getElem?_toArray, List.getElem?_cons_zero, List.getElem?_cons_succ] <;> rfl) (by rfl) ?_
      refine opwp_value (v := .bool false) (w' := wr.drew) (by simp [execOp, go_sem, Act.eval]) ⟨.inl (by kernel_rfl), ?_⟩
      simp only [Act.put, List.setIfInBounds_toArray, List.set_cons_zero, List.set_cons_succ]
      refine wpAnyL_done (by kernel_rfl) ?_ _
      clear RA RB
      go_wp2_with fail
      go_loopw [8] (fun z wq => ∃ (q : Nat), q ≤ l.length ∧ z = .int .i64 q ∧ Hid (Below wa.heap.size wa wq)) (fun z _ => l.length - (intOf z).toNat)
      case atStart => exact ⟨0, Nat.zero_le _, rfl, HBd.out⟩
      case round =>
        clear HBd
        obtain ⟨q, hq, rfl, hbq⟩ := hrel
        have c2w := (hbq.out.cell (cell_lt HE2.out)).trans HE2.out
        have zj : (0 : Int) ≤ (j : Int) ∧ (j : Int) < (8 : Int) := by omega
        by_cases hql : q < l.length
        · obtain ⟨q1, d1, x1, hx1⟩ := HI1.out
          obtain ⟨b1, o1, y1, hc1⟩ := hx1.resolve_left (by intro e; rw [e] at hql; simp at hql)
          injection x1 with x1 _ x9
          subst x1; subst x9; subst y1
          obtain ⟨q2, d2, x2, hx2⟩ := HI2.out
          obtain ⟨b2, o2, y2, hc2⟩ := hx2.resolve_left (by intro e; rw [e] at hql; simp at hql)
          injection x2 with x2 _ x9
          subst x2; subst x9; subst y2
          have m1 := hc1 q hql
          have m2 := hc2 q hql
          generalize l[q]?.getD 0 = t at m1 m2
          have RA : Hid (wr.drew.cell? ⟨(na), j, none⟩ = some (.slice (some ⟨b1, o1, none⟩) l.length c1)) := (hbq.out.cell (cell_lt HE1.out)).trans HE1.out
          have RB : Hid (wr.drew.cell? ⟨(na + 1 + 1 + 1 + 1 + 1 + 1), j, none⟩ = some (.slice (some ⟨b2, o2, none⟩) l.length c2)) := (hbq.out.cell (cell_lt HE2.out)).trans HE2.out
          have RC : Hid (wr.drew.cell? ⟨b1, o1 + q, none⟩ = some (.int .i64 t)) := (hbq.out.cell (cell_lt m1)).trans m1
          have RD : Hid (wr.drew.cell? ⟨b2, o2 + q, none⟩ = some (.int .i64 t)) := (hbq.out.cell (cell_lt m2)).trans m2
          have zq : (0 : Int) ≤ (q : Int) ∧ (q : Int) < (l.length : Int) := by omega
          have HBq := hid hbq.out.drew
          clear m1 m2 hc1 hc2 hx1 hx2
          go_wp2_with fail
          refine Go.Proofs.YthgkklahiclcpaaDoor.wp_region_L 15 14 (fun w' => w'.cell? ⟨(na), j, none⟩ = some (.slice (some ⟨b1, o1, none⟩) l.length c1) ∧ w'.cell? ⟨(na + 1 + 1 + 1 + 1 + 1 + 1), j, none⟩ = some (.slice (some ⟨b2, o2, none⟩) l.length c2) ∧ w'.cell? ⟨b1, o1 + q, none⟩ = some (.int .i64 t) ∧ w'.cell? ⟨b2, o2 + q, none⟩ = some (.int .i64 t)) (by kernel_rfl) rfl ⟨RA.out, RB.out, RC.out, RD.out⟩ (fun _ => ?_)
          refine wpAnyL_pure (i := 0) (v := .slice (some ⟨(na), 0, none⟩) 8 8) (by simp only [List.getElem?_toArray, List.getElem?_cons_zero] <;> rfl) (by kernel_rfl) (by kernel_rfl) (by kernel_rfl) (by exact fun _ _ _ h => h) (by decide) (.inr ⟨RA.out, RB.out, RC.out, RD.out⟩) (Or.inl ⟨by rfl, fun w _ => (by simp [execOp, go_sem, Act.eval])⟩) (fun _ => ?_)
          simp only [Act.put, List.setIfInBounds_toArray, List.set_cons_zero, List.set_cons_succ]
          refine wpAnyL_pure (i := 1) (v := .int .i64 (j : Int)) (by simp only [List.getElem?_toArray, List.getElem?_cons_zero, List.getElem?_cons_succ] <;> rfl) (by kernel_rfl) (by kernel_rfl) (by kernel_rfl) (by exact fun _ _ _ h => h) (by decide) (.inr ⟨RA.out, RB.out, RC.out, RD.out⟩) (Or.inl ⟨by rfl, fun w _ => (by simp [execOp, go_sem, Act.eval])⟩) (fun _ => ?_)
          simp only [Act.put, List.setIfInBounds_toArray, List.set_cons_zero, List.set_cons_succ]
          refine wpAnyL_pure (i := 2) (v := .pointer (some ⟨(na), j, none⟩)) (by simp only [List.getElem?_toArray, List.getElem?_cons_zero, List.getElem?_cons_succ] <;> rfl) (by kernel_rfl) (by kernel_rfl) (by kernel_rfl) (by exact fun _ _ _ h => h) (by decide) (.inr ⟨RA.out, RB.out, RC.out, RD.out⟩) (Or.inl ⟨by rfl, fun w _ => (by simp [execOp, go_sem, Act.eval, zj])⟩) (fun _ => ?_)
          simp only [Act.put, List.setIfInBounds_toArray, List.set_cons_zero, List.set_cons_succ]
          refine wpAnyL_load2 (i := 3) (v := .slice (some ⟨b1, o1, none⟩) l.length c1) (by simp only [List.getElem?_toArray, List.getElem?_cons_zero, List.getElem?_cons_succ] <;> rfl) (by kernel_rfl) (by kernel_rfl) (by kernel_rfl) (by exact fun _ _ _ h => h) (by decide) (Waits.more (j := 6) rfl ⟨⟨6, .data⟩, by simp, rfl, rfl⟩ (Waits.more (j := 5) rfl ⟨⟨5, .data⟩, by simp, rfl, rfl⟩ (Waits.one rfl ⟨⟨3, .data⟩, by simp, rfl, rfl⟩))) (by kernel_rfl) (by kernel_rfl) (.inr ⟨RA.out, RB.out, RC.out, RD.out⟩) (Or.inl ⟨by rfl, fun w hw => (by obtain ⟨x0, _, _, _⟩ := hw; simp [execOp, go_sem, Act.eval, x0])⟩) (fun _ => ?_)
          simp only [Act.put, List.setIfInBounds_toArray, List.set_cons_zero, List.set_cons_succ]
          refine wpAnyL_pure (i := 4) (v := .int .i64 (q : Int)) (by simp only [List.getElem?_toArray, List.getElem?_cons_zero, List.getElem?_cons_succ] <;> rfl) (by kernel_rfl) (by kernel_rfl) (by kernel_rfl) (by exact fun _ _ _ h => h) (by decide) (.inr ⟨RA.out, RB.out, RC.out, RD.out⟩) (Or.inl ⟨by rfl, fun w _ => (by simp [execOp, go_sem, Act.eval])⟩) (fun _ => ?_)
          simp only [Act.put, List.setIfInBounds_toArray, List.set_cons_zero, List.set_cons_succ]
          refine wpAnyL_pure (i := 5) (v := .pointer (some ⟨b1, o1 + q, none⟩)) (by simp only [List.getElem?_toArray, List.getElem?_cons_zero, List.getElem?_cons_succ] <;> rfl) (by kernel_rfl) (by kernel_rfl) (by kernel_rfl) (by exact fun _ _ _ h => h) (by decide) (.inr ⟨RA.out, RB.out, RC.out, RD.out⟩) (Or.inl ⟨by rfl, fun w _ => (by simp [execOp, go_sem, Act.eval, zq])⟩) (fun _ => ?_)
          simp only [Act.put, List.setIfInBounds_toArray, List.set_cons_zero, List.set_cons_succ]
          refine wpAnyL_load2 (i := 6) (v := .int .i64 t) (by simp only [List.getElem?_toArray, List.getElem?_cons_zero, List.getElem?_cons_succ] <;> rfl) (by kernel_rfl) (by kernel_rfl) (by kernel_rfl) (by exact fun _ _ _ h => h) (by decide) (Waits.one rfl ⟨⟨6, .data⟩, by simp, rfl, rfl⟩) (by kernel_rfl) (by kernel_rfl) (.inr ⟨RA.out, RB.out, RC.out, RD.out⟩) (Or.inl ⟨by rfl, fun w hw => (by obtain ⟨_, _, x2, _⟩ := hw; simp [execOp, go_sem, Act.eval, x2])⟩) (fun _ => ?_)
          simp only [Act.put, List.setIfInBounds_toArray, List.set_cons_zero, List.set_cons_succ]
          refine wpAnyL_pure (i := 7) (v := .slice (some ⟨(na + 1 + 1 + 1 + 1 + 1 + 1), 0, none⟩) 8 8) (by simp only [List.getElem?_toArray, List.getElem?_cons_zero, List.getElem?_cons_succ] <;> rfl) (by kernel_rfl) (by kernel_rfl) (by kernel_rfl) (by exact fun _ _ _ h => h) (by decide) (.inr ⟨RA.out, RB.out, RC.out, RD.out⟩) (Or.inl ⟨by rfl, fun w _ => (by simp [execOp, go_sem, Act.eval])⟩) (fun _ => ?_)
          simp only [Act.put, List.setIfInBounds_toArray, List.set_cons_zero, List.set_cons_succ]
          refine wpAnyL_pure (i := 8) (v := .int .i64 (j : Int)) (by simp only [List.getElem?_toArray, List.getElem?_cons_zero, List.getElem?_cons_succ] <;> rfl) (by kernel_rfl) (by kernel_rfl) (by kernel_rfl) (by exact fun _ _ _ h => h) (by decide) (.inr ⟨RA.out, RB.out, RC.out, RD.out⟩) (Or.inl ⟨by rfl, fun w _ => (by simp [execOp, go_sem, Act.eval])⟩) (fun _ => ?_)
          simp only [Act.put, List.setIfInBounds_toArray, List.set_cons_zero, List.set_cons_succ]
          refine wpAnyL_pure (i := 9) (v := .pointer (some ⟨(na + 1 + 1 + 1 + 1 + 1 + 1), j, none⟩)) (by simp only [List.getElem?_toArray, List.getElem?_cons_zero, List.getElem?_cons_succ] <;> rfl) (by kernel_rfl) (by kernel_rfl) (by kernel_rfl) (by exact fun _ _ _ h => h) (by decide) (.inr ⟨RA.out, RB.out, RC.out, RD.out⟩) (Or.inl ⟨by rfl, fun w _ => (by simp [execOp, go_sem, Act.eval, zj])⟩) (fun _ => ?_)
          simp only [Act.put, List.setIfInBounds_toArray, List.set_cons_zero, List.set_cons_succ]
          refine wpAnyL_load2 (i := 10) (v := .slice (some ⟨b2, o2, none⟩) l.length c2) (by simp only [List.getElem?_toArray, List.getElem?_cons_zero, List.getElem?_cons_succ] <;> rfl) (by kernel_rfl) (by kernel_rfl) (by kernel_rfl) (by exact fun _ _ _ h => h) (by decide) (Waits.more (j := 13) rfl ⟨⟨13, .data⟩, by simp, rfl, rfl⟩ (Waits.more (j := 12) rfl ⟨⟨12, .data⟩, by simp, rfl, rfl⟩ (Waits.one rfl ⟨⟨10, .data⟩, by simp, rfl, rfl⟩))) (by kernel_rfl) (by kernel_rfl) (.inr ⟨RA.out, RB.out, RC.out, RD.out⟩) (Or.inl ⟨by rfl, fun w hw => (by obtain ⟨_, x1, _, _⟩ := hw; simp [execOp, go_sem, Act.eval, x1])⟩) (fun _ => ?_)
          simp only [Act.put, List.setIfInBounds_toArray, List.set_cons_zero, List.set_cons_succ]
          refine wpAnyL_pure (i := 11) (v := .int .i64 (q : Int)) (by simp only [List.getElem?_toArray, List.getElem?_cons_zero, List.getElem?_cons_succ] <;> rfl) (by kernel_rfl) (by kernel_rfl) (by kernel_rfl) (by exact fun _ _ _ h => h) (by decide) (.inr ⟨RA.out, RB.out, RC.out, RD.out⟩) (Or.inl ⟨by rfl, fun w _ => (by simp [execOp, go_sem, Act.eval])⟩) (fun _ => ?_)
          simp only [Act.put, List.setIfInBounds_toArray, List.set_cons_zero, List.set_cons_succ]
          refine wpAnyL_pure (i := 12) (v := .pointer (some ⟨b2, o2 + q, none⟩)) (by simp only [List.getElem?_toArray, List.getElem?_cons_zero, List.getElem?_cons_succ] <;> rfl) (by kernel_rfl) (by kernel_rfl) (by kernel_rfl) (by exact fun _ _ _ h => h) (by decide) (.inr ⟨RA.out, RB.out, RC.out, RD.out⟩) (Or.inl ⟨by rfl, fun w _ => (by simp [execOp, go_sem, Act.eval, zq])⟩) (fun _ => ?_)
          simp only [Act.put, List.setIfInBounds_toArray, List.set_cons_zero, List.set_cons_succ]
          refine wpAnyL_load2 (i := 13) (v := .int .i64 t) (by simp only [List.getElem?_toArray, List.getElem?_cons_zero, List.getElem?_cons_succ] <;> rfl) (by kernel_rfl) (by kernel_rfl) (by kernel_rfl) (by exact fun _ _ _ h => h) (by decide) (Waits.one rfl ⟨⟨13, .data⟩, by simp, rfl, rfl⟩) (by kernel_rfl) (by kernel_rfl) (.inr ⟨RA.out, RB.out, RC.out, RD.out⟩) (Or.inl ⟨by rfl, fun w hw => (by obtain ⟨_, _, _, x3⟩ := hw; simp [execOp, go_sem, Act.eval, x3])⟩) (fun _ => ?_)
          simp only [Act.put, List.setIfInBounds_toArray, List.set_cons_zero, List.set_cons_succ]
          refine wpAnyL_one (i := 14) (by kernel_rfl) (by simp only [List.getElem?_toArray, List.getElem?_cons_zero, List.getElem?_cons_succ] <;> rfl) (by rfl) ?_
          refine opwp_value (v := .bool false) (w' := wr.drew) (by simp [execOp, go_sem, Act.eval]) ⟨.inl (by kernel_rfl), ?_⟩
          simp only [Act.put, List.setIfInBounds_toArray, List.set_cons_zero, List.set_cons_succ]
          refine wpAnyL_done (by kernel_rfl) ?_ _
          clear RA RB RC RD hbq
          go_wp2_with fail
          go_roundw
          case rel => exact ⟨q + 1, by omega, by go_num, HBq.out⟩
          case measure => simp [intOf]; omega
        · obtain rfl : q = l.length := by omega
          go_wp2_with fail
          go_roundw
          case rel => exact ⟨j + 1, by omega, by go_num, hbq.out⟩
          case measure => simp [intOf]; omega
    · obtain rfl : j = 8 := by omega
      have hmk := fun w' => make_ints w' 129 (by omega) 129 129 rfl rfl
      have hbz := hbr.out
      have f28_star : Hid (SetsAt wr (.slice (some ⟨w.heap.size, 0, none⟩) 5 5) [0#128, 14#128, 1#128, 1#128, 1#128]) := f27_star.out.below hbz
      clear f27_star
      have B28 := hid (B27.out.trans (hbz.mono B27.out.size))
      clear B27
      clear hbz hbr GL GW HWL
      have hb29 := (Below.refl wr.heap.size wr).alloc (Nat.le_refl _) (.cells (madeCells #[.int .i64 0] 129) 3)
      have h9_mk : IntsAt (wr.alloc (.cells (madeCells #[.int .i64 0] 129) 3)) (.slice (some ⟨wr.heap.size, 0, none⟩) 129 129) (List.replicate 129 0) := by have h := made_ints wr 129; rw [List.length_replicate] at h; exact h
      have f29_star : Hid (SetsAt (wr.alloc (.cells (madeCells #[.int .i64 0] 129) 3)) (.slice (some ⟨w.heap.size, 0, none⟩) 5 5) [0#128, 14#128, 1#128, 1#128, 1#128]) := f28_star.out.below hb29
      clear f28_star
      have B29 := hid (B28.out.trans (hb29.mono B28.out.size))
      clear B28
      have f29_mk : Hid (IntsAt (wr.alloc (.cells (madeCells #[.int .i64 0] 129) 3)) (.slice (some ⟨wr.heap.size, 0, none⟩) 129 129) (List.replicate 129 0)) := by have h := h9_mk; exact h
      clear hb29
      have hb30 := (Below.refl (wr.alloc (.cells (madeCells #[.int .i64 0] 129) 3)).heap.size (wr.alloc (.cells (madeCells #[.int .i64 0] 129) 3))).alloc (Nat.le_refl _) (.cells #[.slice (some ⟨wr.heap.size, 0, none⟩) 129 129] 25)
      have g9_0 := f29_mk.out.below hb30
      have h9_lg := lit_lits (wr.alloc (.cells (madeCells #[.int .i64 0] 129) 3)) [.slice (some ⟨wr.heap.size, 0, none⟩) 129 129] [List.replicate 129 0] 25 rfl (fun i h => by
        have h : i < 1 := h
        rcases (by omega : i = 0) with rfl
        · exact g9_0)
      have f30_star : Hid (SetsAt ((wr.alloc (.cells (madeCells #[.int .i64 0] 129) 3)).alloc (.cells #[.slice (some ⟨wr.heap.size, 0, none⟩) 129 129] 25)) (.slice (some ⟨w.heap.size, 0, none⟩) 5 5) [0#128, 14#128, 1#128, 1#128, 1#128]) := f29_star.out.below hb30
      clear f29_star
      have f30_mk : Hid (IntsAt ((wr.alloc (.cells (madeCells #[.int .i64 0] 129) 3)).alloc (.cells #[.slice (some ⟨wr.heap.size, 0, none⟩) 129 129] 25)) (.slice (some ⟨wr.heap.size, 0, none⟩) 129 129) (List.replicate 129 0)) := f29_mk.out.below hb30
      clear f29_mk
      have B30 := hid (B29.out.trans (hb30.mono B29.out.size))
      clear B29
      have f30_lg : Hid (LitsAt ((wr.alloc (.cells (madeCells #[.int .i64 0] 129) 3)).alloc (.cells #[.slice (some ⟨wr.heap.size, 0, none⟩) 129 129] 25)) (.slice (some ⟨wr.heap.size + 1, 0, none⟩) 1 1) [List.replicate 129 0]) := by have h := h9_lg; simp only [World.size_alloc] at h; exact h
      clear hb30
      go_wp2_with fail
      refine (Edges_c 1 _ [List.replicate 129 0] ((wr.alloc (.cells (madeCells #[.int .i64 0] 129) 3)).alloc (.cells #[.slice (some ⟨wr.heap.size, 0, none⟩) 129 129] 25)) (HTT.out _ B30.out) f30_lg.out (by decide) (by simp)).mono ?_
      rintro e w31 ⟨hb31, hp31⟩
      obtain ⟨_, rfl⟩ := hp31.resolve_right (fun h => by rw [k_long] at h; exact absurd h.1 (by decide))
      rw [k_long]
      clear hp31 hmk
      have f31_star : Hid (SetsAt w31 (.slice (some ⟨w.heap.size, 0, none⟩) 5 5) [0#128, 14#128, 1#128, 1#128, 1#128]) := f30_star.out.below hb31
      clear f30_star
      have f31_mk : Hid (IntsAt w31 (.slice (some ⟨wr.heap.size, 0, none⟩) 129 129) (List.replicate 129 0)) := f30_mk.out.below hb31
      clear f30_mk
      have f31_lg : Hid (LitsAt w31 (.slice (some ⟨wr.heap.size + 1, 0, none⟩) 1 1) [List.replicate 129 0]) := f30_lg.out.below hb31
      clear f30_lg
      have B31 := hid (B30.out.trans (hb31.mono B30.out.size))
      clear B30
      clear hb31
      clear f31_mk
      clear f31_lg
      have hb32 := (Below.refl w31.heap.size w31).alloc (Nat.le_refl _) (.cells #[.int .i64 1, .int .i64 2, .int .i64 3, .int .i64 4] 3)
      have f32_star : Hid (SetsAt (w31.alloc (.cells #[.int .i64 1, .int .i64 2, .int .i64 3, .int .i64 4] 3)) (.slice (some ⟨w.heap.size, 0, none⟩) 5 5) [0#128, 14#128, 1#128, 1#128, 1#128]) := f31_star.out.below hb32
      clear f31_star
      have B32 := hid (B31.out.trans (hb32.mono B31.out.size))
      clear B31
      have f32_ol : Hid (IntsAt (w31.alloc (.cells #[.int .i64 1, .int .i64 2, .int .i64 3, .int .i64 4] 3)) (.slice (some ⟨w31.heap.size, 0, none⟩) 4 4) [1, 2, 3, 4]) := by have h := lit_ints w31 [1, 2, 3, 4] 3 (by simp); exact h
      clear hb32
      go_wp2_with fail
      refine (Width_c _ _ starL [1, 2, 3, 4] (w31.alloc (.cells #[.int .i64 1, .int .i64 2, .int .i64 3, .int .i64 4] 3)) (f32_star.out) (f32_ol.out) (HTT.out _ B32.out) (by decide) (by decide)).mono ?_
      rintro e w33 ⟨rfl, hb33⟩
      rw [k_w1]
      have f33_star : Hid (SetsAt w33 (.slice (some ⟨w.heap.size, 0, none⟩) 5 5) [0#128, 14#128, 1#128, 1#128, 1#128]) := f32_star.out.below hb33
      clear f32_star
      have f33_ol : Hid (IntsAt w33 (.slice (some ⟨w31.heap.size, 0, none⟩) 4 4) [1, 2, 3, 4]) := f32_ol.out.below hb33
      clear f32_ol
      have B33 := hid (B32.out.trans (hb33.mono B32.out.size))
      clear B32
      clear hb33
      clear f33_ol
      have hb34 := (Below.refl w33.heap.size w33).alloc (Nat.le_refl _) (.cells #[.int .i64 2, .int .i64 3, .int .i64 4, .int .i64 1] 3)
      have f34_star : Hid (SetsAt (w33.alloc (.cells #[.int .i64 2, .int .i64 3, .int .i64 4, .int .i64 1] 3)) (.slice (some ⟨w.heap.size, 0, none⟩) 5 5) [0#128, 14#128, 1#128, 1#128, 1#128]) := f33_star.out.below hb34
      clear f33_star
      have B34 := hid (B33.out.trans (hb34.mono B33.out.size))
      clear B33
      have f34_ol : Hid (IntsAt (w33.alloc (.cells #[.int .i64 2, .int .i64 3, .int .i64 4, .int .i64 1] 3)) (.slice (some ⟨w33.heap.size, 0, none⟩) 4 4) [2, 3, 4, 1]) := by have h := lit_ints w33 [2, 3, 4, 1] 3 (by simp); exact h
      clear hb34
      go_wp2_with fail
      refine (Width_c _ _ starL [2, 3, 4, 1] (w33.alloc (.cells #[.int .i64 2, .int .i64 3, .int .i64 4, .int .i64 1] 3)) (f34_star.out) (f34_ol.out) (HTT.out _ B34.out) (by decide) (by decide)).mono ?_
      rintro e w35 ⟨rfl, hb35⟩
      rw [k_w2]
      have f35_star : Hid (SetsAt w35 (.slice (some ⟨w.heap.size, 0, none⟩) 5 5) [0#128, 14#128, 1#128, 1#128, 1#128]) := f34_star.out.below hb35
      clear f34_star
      have f35_ol : Hid (IntsAt w35 (.slice (some ⟨w33.heap.size, 0, none⟩) 4 4) [2, 3, 4, 1]) := f34_ol.out.below hb35
      clear f34_ol
      have B35 := hid (B34.out.trans (hb35.mono B34.out.size))
      clear B34
      clear hb35
      clear f35_ol
      have hb36 := (Below.refl w35.heap.size w35).alloc (Nat.le_refl _) (.cells #[.int .u64 0, .int .u64 0] 35)
      have f36_star : Hid (SetsAt (w35.alloc (.cells #[.int .u64 0, .int .u64 0] 35)) (.slice (some ⟨w.heap.size, 0, none⟩) 5 5) [0#128, 14#128, 1#128, 1#128, 1#128]) := f35_star.out.below hb36
      clear f35_star
      have B36 := hid (B35.out.trans (hb36.mono B35.out.size))
      clear B35
      have f36_sl : Hid (SetsAt (w35.alloc (.cells #[.int .u64 0, .int .u64 0] 35)) (.slice (some ⟨w35.heap.size, 0, none⟩) 1 1) [0#128]) := by have h := (lit_sets w35 [0#128] #[.int .u64 0, .int .u64 0] (by kernel_rfl)).sets 1; exact h
      clear hb36
      go_wp2_with fail
      refine (Width_c _ _ [0#128] [] (w35.alloc (.cells #[.int .u64 0, .int .u64 0] 35)) (f36_sl.out) (nil_ints _) (HTT.out _ B36.out) (by decide) (by decide)).mono ?_
      rintro e w37 ⟨rfl, hb37⟩
      rw [k_w3]
      have f37_star : Hid (SetsAt w37 (.slice (some ⟨w.heap.size, 0, none⟩) 5 5) [0#128, 14#128, 1#128, 1#128, 1#128]) := f36_star.out.below hb37
      clear f36_star
      have f37_sl : Hid (SetsAt w37 (.slice (some ⟨w35.heap.size, 0, none⟩) 1 1) [0#128]) := f36_sl.out.below hb37
      clear f36_sl
      have B37 := hid (B36.out.trans (hb37.mono B36.out.size))
      clear B36
      clear hb37
      clear f37_sl
      go_wp2_with fail
      refine (Width_c _ _ [] [] w37 (nil_sets _) (nil_ints _) (HTT.out _ B37.out) (by decide) (by decide)).mono ?_
      rintro e w38 ⟨rfl, hb38⟩
      rw [k_w4]
      have f38_star : Hid (SetsAt w38 (.slice (some ⟨w.heap.size, 0, none⟩) 5 5) [0#128, 14#128, 1#128, 1#128, 1#128]) := f37_star.out.below hb38
      clear f37_star
      have B38 := hid (B37.out.trans (hb38.mono B37.out.size))
      clear B37
      clear hb38
      have hb39 := (Below.refl w38.heap.size w38).alloc (Nat.le_refl _) (.cells #[.int .i64 1, .int .i64 2, .int .i64 3, .int .i64 3] 3)
      have f39_star : Hid (SetsAt (w38.alloc (.cells #[.int .i64 1, .int .i64 2, .int .i64 3, .int .i64 3] 3)) (.slice (some ⟨w.heap.size, 0, none⟩) 5 5) [0#128, 14#128, 1#128, 1#128, 1#128]) := f38_star.out.below hb39
      clear f38_star
      have B39 := hid (B38.out.trans (hb39.mono B38.out.size))
      clear B38
      have f39_ol : Hid (IntsAt (w38.alloc (.cells #[.int .i64 1, .int .i64 2, .int .i64 3, .int .i64 3] 3)) (.slice (some ⟨w38.heap.size, 0, none⟩) 4 4) [1, 2, 3, 3]) := by have h := lit_ints w38 [1, 2, 3, 3] 3 (by simp); exact h
      clear hb39
      go_wp2_with fail
      refine (Width_c _ _ starL [1, 2, 3, 3] (w38.alloc (.cells #[.int .i64 1, .int .i64 2, .int .i64 3, .int .i64 3] 3)) (f39_star.out) (f39_ol.out) (HTT.out _ B39.out) (by decide) (by decide)).mono ?_
      rintro e w40 ⟨rfl, hb40⟩
      rw [k_w5]
      have f40_star : Hid (SetsAt w40 (.slice (some ⟨w.heap.size, 0, none⟩) 5 5) [0#128, 14#128, 1#128, 1#128, 1#128]) := f39_star.out.below hb40
      clear f39_star
      have f40_ol : Hid (IntsAt w40 (.slice (some ⟨w38.heap.size, 0, none⟩) 4 4) [1, 2, 3, 3]) := f39_ol.out.below hb40
      clear f39_ol
      have B40 := hid (B39.out.trans (hb40.mono B39.out.size))
      clear B39
      clear hb40
      clear f40_ol
      have hb41 := (Below.refl w40.heap.size w40).alloc (Nat.le_refl _) (.cells #[.int .u64 0, .int .u64 0, .int .u64 1, .int .u64 0] 35)
      have f41_star : Hid (SetsAt (w40.alloc (.cells #[.int .u64 0, .int .u64 0, .int .u64 1, .int .u64 0] 35)) (.slice (some ⟨w.heap.size, 0, none⟩) 5 5) [0#128, 14#128, 1#128, 1#128, 1#128]) := f40_star.out.below hb41
      clear f40_star
      have B41 := hid (B40.out.trans (hb41.mono B40.out.size))
      clear B40
      have f41_sl : Hid (SetsAt (w40.alloc (.cells #[.int .u64 0, .int .u64 0, .int .u64 1, .int .u64 0] 35)) (.slice (some ⟨w40.heap.size, 0, none⟩) 2 2) [0#128, 1#128]) := by have h := (lit_sets w40 [0#128, 1#128] #[.int .u64 0, .int .u64 0, .int .u64 1, .int .u64 0] (by kernel_rfl)).sets 2; exact h
      clear hb41
      have hb42 := (Below.refl (w40.alloc (.cells #[.int .u64 0, .int .u64 0, .int .u64 1, .int .u64 0] 35)).heap.size (w40.alloc (.cells #[.int .u64 0, .int .u64 0, .int .u64 1, .int .u64 0] 35))).alloc (Nat.le_refl _) (.cells #[.int .i64 1] 3)
      have f42_star : Hid (SetsAt ((w40.alloc (.cells #[.int .u64 0, .int .u64 0, .int .u64 1, .int .u64 0] 35)).alloc (.cells #[.int .i64 1] 3)) (.slice (some ⟨w.heap.size, 0, none⟩) 5 5) [0#128, 14#128, 1#128, 1#128, 1#128]) := f41_star.out.below hb42
      clear f41_star
      have f42_sl : Hid (SetsAt ((w40.alloc (.cells #[.int .u64 0, .int .u64 0, .int .u64 1, .int .u64 0] 35)).alloc (.cells #[.int .i64 1] 3)) (.slice (some ⟨w40.heap.size, 0, none⟩) 2 2) [0#128, 1#128]) := f41_sl.out.below hb42
      clear f41_sl
      have B42 := hid (B41.out.trans (hb42.mono B41.out.size))
      clear B41
      have f42_ol : Hid (IntsAt ((w40.alloc (.cells #[.int .u64 0, .int .u64 0, .int .u64 1, .int .u64 0] 35)).alloc (.cells #[.int .i64 1] 3)) (.slice (some ⟨w40.heap.size + 1, 0, none⟩) 1 1) [1]) := by have h := lit_ints (w40.alloc (.cells #[.int .u64 0, .int .u64 0, .int .u64 1, .int .u64 0] 35)) [1] 3 (by simp); simp only [World.size_alloc] at h; exact h
      clear hb42
      go_wp2_with fail
      refine (Width_c _ _ [0#128, 1#128] [1] ((w40.alloc (.cells #[.int .u64 0, .int .u64 0, .int .u64 1, .int .u64 0] 35)).alloc (.cells #[.int .i64 1] 3)) (f42_sl.out) (f42_ol.out) (HTT.out _ B42.out) (by decide) (by decide)).mono ?_
      rintro e w43 ⟨rfl, hb43⟩
      rw [k_w6]
      have f43_star : Hid (SetsAt w43 (.slice (some ⟨w.heap.size, 0, none⟩) 5 5) [0#128, 14#128, 1#128, 1#128, 1#128]) := f42_star.out.below hb43
      clear f42_star
      have f43_sl : Hid (SetsAt w43 (.slice (some ⟨w40.heap.size, 0, none⟩) 2 2) [0#128, 1#128]) := f42_sl.out.below hb43
      clear f42_sl
      have f43_ol : Hid (IntsAt w43 (.slice (some ⟨w40.heap.size + 1, 0, none⟩) 1 1) [1]) := f42_ol.out.below hb43
      clear f42_ol
      have B43 := hid (B42.out.trans (hb43.mono B42.out.size))
      clear B42
      clear hb43
      clear f43_sl
      clear f43_ol
      have hb44 := (Below.refl w43.heap.size w43).alloc (Nat.le_refl _) (.cells #[.int .u64 0, .int .u64 0, .int .u64 2, .int .u64 0, .int .u64 1, .int .u64 0] 35)
      have f44_star : Hid (SetsAt (w43.alloc (.cells #[.int .u64 0, .int .u64 0, .int .u64 2, .int .u64 0, .int .u64 1, .int .u64 0] 35)) (.slice (some ⟨w.heap.size, 0, none⟩) 5 5) [0#128, 14#128, 1#128, 1#128, 1#128]) := f43_star.out.below hb44
      clear f43_star
      have B44 := hid (B43.out.trans (hb44.mono B43.out.size))
      clear B43
      have f44_sl : Hid (SetsAt (w43.alloc (.cells #[.int .u64 0, .int .u64 0, .int .u64 2, .int .u64 0, .int .u64 1, .int .u64 0] 35)) (.slice (some ⟨w43.heap.size, 0, none⟩) 3 3) [0#128, 2#128, 1#128]) := by have h := (lit_sets w43 [0#128, 2#128, 1#128] #[.int .u64 0, .int .u64 0, .int .u64 2, .int .u64 0, .int .u64 1, .int .u64 0] (by kernel_rfl)).sets 3; exact h
      clear hb44
      have hb45 := (Below.refl (w43.alloc (.cells #[.int .u64 0, .int .u64 0, .int .u64 2, .int .u64 0, .int .u64 1, .int .u64 0] 35)).heap.size (w43.alloc (.cells #[.int .u64 0, .int .u64 0, .int .u64 2, .int .u64 0, .int .u64 1, .int .u64 0] 35))).alloc (Nat.le_refl _) (.cells #[.int .i64 2, .int .i64 1] 3)
      have f45_star : Hid (SetsAt ((w43.alloc (.cells #[.int .u64 0, .int .u64 0, .int .u64 2, .int .u64 0, .int .u64 1, .int .u64 0] 35)).alloc (.cells #[.int .i64 2, .int .i64 1] 3)) (.slice (some ⟨w.heap.size, 0, none⟩) 5 5) [0#128, 14#128, 1#128, 1#128, 1#128]) := f44_star.out.below hb45
      clear f44_star
      have f45_sl : Hid (SetsAt ((w43.alloc (.cells #[.int .u64 0, .int .u64 0, .int .u64 2, .int .u64 0, .int .u64 1, .int .u64 0] 35)).alloc (.cells #[.int .i64 2, .int .i64 1] 3)) (.slice (some ⟨w43.heap.size, 0, none⟩) 3 3) [0#128, 2#128, 1#128]) := f44_sl.out.below hb45
      clear f44_sl
      have B45 := hid (B44.out.trans (hb45.mono B44.out.size))
      clear B44
      have f45_ol : Hid (IntsAt ((w43.alloc (.cells #[.int .u64 0, .int .u64 0, .int .u64 2, .int .u64 0, .int .u64 1, .int .u64 0] 35)).alloc (.cells #[.int .i64 2, .int .i64 1] 3)) (.slice (some ⟨w43.heap.size + 1, 0, none⟩) 2 2) [2, 1]) := by have h := lit_ints (w43.alloc (.cells #[.int .u64 0, .int .u64 0, .int .u64 2, .int .u64 0, .int .u64 1, .int .u64 0] 35)) [2, 1] 3 (by simp); simp only [World.size_alloc] at h; exact h
      clear hb45
      go_wp2_with fail
      refine (Width_c _ _ [0#128, 2#128, 1#128] [2, 1] ((w43.alloc (.cells #[.int .u64 0, .int .u64 0, .int .u64 2, .int .u64 0, .int .u64 1, .int .u64 0] 35)).alloc (.cells #[.int .i64 2, .int .i64 1] 3)) (f45_sl.out) (f45_ol.out) (HTT.out _ B45.out) (by decide) (by decide)).mono ?_
      rintro e w46 ⟨rfl, hb46⟩
      rw [k_w7]
      have f46_star : Hid (SetsAt w46 (.slice (some ⟨w.heap.size, 0, none⟩) 5 5) [0#128, 14#128, 1#128, 1#128, 1#128]) := f45_star.out.below hb46
      clear f45_star
      have f46_sl : Hid (SetsAt w46 (.slice (some ⟨w43.heap.size, 0, none⟩) 3 3) [0#128, 2#128, 1#128]) := f45_sl.out.below hb46
      clear f45_sl
      have f46_ol : Hid (IntsAt w46 (.slice (some ⟨w43.heap.size + 1, 0, none⟩) 2 2) [2, 1]) := f45_ol.out.below hb46
      clear f45_ol
      have B46 := hid (B45.out.trans (hb46.mono B45.out.size))
      clear B45
      clear hb46
      clear f46_sl
      clear f46_ol
      clear f46_star
      go_wp2_with fail
      refine (HW.out _ B46.out).mono ?_
      rintro e w47 ⟨rfl, hb47⟩
      have B47 := hid (B46.out.trans (hb47.mono B46.out.size))
      clear B46
      clear hb47
      go_wp2_with fail
      go_ret
      exact ⟨rfl, B47.out⟩
end Go.Proofs.YthgkklahiclcpaaDoor
