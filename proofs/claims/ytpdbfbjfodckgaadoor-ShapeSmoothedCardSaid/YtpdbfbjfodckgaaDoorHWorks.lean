/- Walks: the example that every law of the chapter looks at. -/
import Derived.Test.YtpdbfbjfodckgaaDoorHSmd
import Derived.Test.YtpdbfbjfodckgaaDoorHDet
import Derived.Test.YtpdbfbjfodckgaaDoorHDcn
import Derived.Test.YtpdbfbjfodckgaaDoorHSmooth
namespace Go.Proofs.YtpdbfbjfodckgaaDoor
open Go.RowKit

theorem results_node {fn : Func} {tmps : Array Value} {w : World} {t b : Nat} {x y z : Value} (hr : fn.results = #[.cell t 39]) (ht : tmps.getD t undef = .pointer (some ⟨b, 0, none⟩)) (h : Box3 w b 39 x y z) :
    (results fn tmps).run Tryd.prog w = .ok (.agg #[x, y, z]) w := by
  obtain ⟨s0, s1, s2⟩ := h.cells
  simp only [Array.getD_eq_getD_getElem?] at ht
  simp [results, hr, ht, go_sem, s0, s1, s2]
set_option maxHeartbeats 400000 in
theorem lit_c (l : Int) (w : World) : Calls Tryd.prog 30 #[.int .i64 l] w fun e w' => e = .returned (.agg #[.int .i64 2, .int .i64 l, .slice none 0 0]) ∧ Below w.heap.size w w' := by
  have hb := Box3.new w 39 (.int .i64 2) (.int .i64 l) (.slice none 0 0)
  go_enter Tryd.func30, Tryd.ntmps30
  go_wp2_with fail
  exact bodyPost_ret (results_node rfl rfl hb) rfl ⟨rfl, (Below.refl _ w).alloc (Nat.le_refl _) _⟩
set_option maxHeartbeats 400000 in
theorem and_c (p : Option Addr) (n c : Nat) (w : World) : Calls Tryd.prog 32 #[.slice p n c] w fun e w' => e = .returned (.agg #[.int .i64 3, .int .i64 0, .slice p n c]) ∧ Below w.heap.size w w' := by
  have hb := Box3.new w 39 (.int .i64 3) (.int .i64 0) (.slice p n c)
  go_enter Tryd.func32, Tryd.ntmps32
  go_wp2_with fail
  exact bodyPost_ret (results_node rfl rfl hb) rfl ⟨rfl, (Below.refl _ w).alloc (Nat.le_refl _) _⟩
set_option maxHeartbeats 400000 in
theorem or_c (p : Option Addr) (n c : Nat) (w : World) : Calls Tryd.prog 31 #[.slice p n c] w fun e w' => e = .returned (.agg #[.int .i64 4, .int .i64 0, .slice p n c]) ∧ Below w.heap.size w w' := by
  have hb := Box3.new w 39 (.int .i64 4) (.int .i64 0) (.slice p n c)
  go_enter Tryd.func31, Tryd.ntmps31
  go_wp2_with fail
  exact bodyPost_ret (results_node rfl rfl hb) rfl ⟨rfl, (Below.refl _ w).alloc (Nat.le_refl _) _⟩
theorem results_net1 {fn : Func} {tmps : Array Value} {w : World} {t b : Nat} {x y : Value} (hr : fn.results = #[.cell t 24]) (ht : tmps.getD t undef = .pointer (some ⟨b, 0, none⟩)) (h : Box2 w b 24 x y) :
    (results fn tmps).run Tryd.prog w = .ok (.agg #[x, y]) w := by
  obtain ⟨s0, s1, _, _⟩ := h.cells
  simp only [Array.getD_eq_getD_getElem?] at ht
  simp [results, hr, ht, go_sem, s0, s1]
theorem nodes_new (w : World) (L : List NodeT) (vs : List Value) (c : Nat) (_hl : vs.length = L.length) (h : ∀ i (hi : i < L.length), ∃ u, vs[i]? = some u ∧ IntsAt w u L[i].ins ∧ L[i].ins.length ≤ 140737488355328) :
    NodesAt (w.alloc (.cells (nodeCells L vs).toArray 39)) (.slice (some ⟨w.heap.size, 0, none⟩) L.length c) L := by
  have hb : Below w.heap.size w (w.alloc (.cells (nodeCells L vs).toArray 39)) := (Below.refl _ w).alloc (Nat.le_refl _) _
  refine ⟨_, _, rfl, .inr ⟨w.heap.size, 0, rfl, fun i hi => ?_⟩⟩
  obtain ⟨u, h1, h2, h3⟩ := h i hi
  obtain ⟨e0, e1, e2⟩ := nodeCells_get L vs i hi u h1
  have key : ∀ j y, (nodeCells L vs)[j]? = some y → (w.alloc (.cells (nodeCells L vs).toArray 39)).cell? ⟨w.heap.size, j, none⟩ = some y := fun j y e => by
    rw [World.cell?, show (w.alloc (.cells (nodeCells L vs).toArray 39)).heap[w.heap.size]? = _ from heap_alloc_new w _]
    show (nodeCells L vs).toArray[j]? = some y
    rw [List.getElem?_toArray]; exact e
  refine ⟨u, ⟨?_, ?_, ?_, h2.below hb, h3⟩⟩ <;> rw [Nat.zero_add]
  · exact key _ _ e0
  · exact key _ _ e1
  · exact key _ _ e2
theorem own_off_net {w : World} {b : Nat} {x y x' y' : Value} {B : Nat} {v : Value} {l : List Int} (hb : Box2 w b 24 x y) (h : OwnInts w B v l) : OwnInts ((w.setCell ⟨b, 0, none⟩ x').setCell ⟨b, 1, none⟩ y') B v l :=
  own_same h fun j e => by
    obtain ⟨cs, hc⟩ := own_type h e
    have hj : j ≠ b := fun e => by subst e; unfold Box2 at hb; rw [hc] at hb; injection hb with hb; injection hb with _ e _; cases e
    rw [Below.heap_setCell _ _ _ _ hj, Below.heap_setCell _ _ _ _ hj]
theorem IntsAt.none_nil (w : World) : IntsAt w (.slice none 0 0) [] := ⟨none, 0, rfl, .inl rfl⟩
/-- The nodes of the example. -/
def sampleL : List NodeT := [⟨2, -1, []⟩, ⟨2, 2, []⟩, ⟨3, 0, [0, 1]⟩, ⟨2, 1, []⟩, ⟨4, 0, [2, 3]⟩]
set_option maxRecDepth 100000 in
set_option maxHeartbeats 4000000 in
theorem sample_c (w : World) : Calls Tryd.prog 37 #[] w fun e w' => ∃ v, e = .returned (.agg #[.int .i64 3, v]) ∧ NodesAt w' v sampleL ∧ Below w.heap.size w w' := by
  go_enter Tryd.func37, Tryd.ntmps37
  go_wp2_with fail
  refine (lit_c (-1) _).mono ?_
  rintro e w2 ⟨rfl, hb2⟩
  have B2 := hid (((Below.refl _ w).alloc (Nat.le_refl _) (.cells #[.int .i64 0, .slice none 0 0] 24)).trans (hb2.mono (by simp)))
  have R2 := hid ((Box2.new w 24 (.int .i64 0) (.slice none 0 0)).below hb2 (by simp))
  clear hb2
  go_wp2_with fail
  refine (lit_c 2 _).mono ?_
  rintro e w3 ⟨rfl, hb3⟩
  have hal3 : Below w3.heap.size w3 (w3.alloc (.cells #[.int .i64 0, .int .i64 1] 3)) := (Below.refl _ w3).alloc (Nat.le_refl _) _
  have h23 := hb3.trans (hal3.mono hb3.size)
  have B3 := hid (B2.out.trans (h23.mono B2.out.size))
  have R3 := hid (R2.out.below h23 R2.out.lt)
  have I3 := hid (own_pair w3 (B := 0) (Nat.zero_le _) 0 1)
  clear hb3 hal3 h23 B2 R2
  go_wp2_with fail
  generalize w3.alloc (.cells #[.int .i64 0, .int .i64 1] 3) = w4 at *
  refine (and_c _ _ _ _).mono ?_
  rintro e w5 ⟨rfl, hb5⟩
  have B5 := hid (B3.out.trans (hb5.mono B3.out.size))
  have R5 := hid (R3.out.below hb5 R3.out.lt)
  have I5 := hid (I3.out.below hb5)
  clear hb5 B3 R3 I3
  go_wp2_with fail
  refine (lit_c 1 _).mono ?_
  rintro e w6 ⟨rfl, hb6⟩
  have hal6 : Below w6.heap.size w6 (w6.alloc (.cells #[.int .i64 2, .int .i64 3] 3)) := (Below.refl _ w6).alloc (Nat.le_refl _) _
  have h56 := hb6.trans (hal6.mono hb6.size)
  have B6 := hid (B5.out.trans (h56.mono B5.out.size))
  have R6 := hid (R5.out.below h56 R5.out.lt)
  have I6 := hid (I5.out.below h56)
  have J6 := hid (own_pair w6 (B := 0) (Nat.zero_le _) 2 3)
  clear hb6 hal6 h56 B5 R5 I5
  go_wp2_with fail
  generalize w6.alloc (.cells #[.int .i64 2, .int .i64 3] 3) = w7 at *
  refine (or_c _ _ _ _).mono ?_
  rintro e w8 ⟨rfl, hb8⟩
  have B8 := hid (B6.out.trans (hb8.mono B6.out.size))
  have R8 := hid (R6.out.below hb8 R6.out.lt)
  have I8 := hid (I6.out.below hb8)
  have J8 := hid (J6.out.below hb8)
  have lx := R8.out.lt
  obtain ⟨y0, y1, y2, y3⟩ := R8.out.cells
  clear hb8 B6 R6 I6 J6
  go_wp2_with fail
  have R9 := (R8.out.set01 (.int .i64 3) (.slice (some ⟨w8.heap.size, 0, none⟩) 5 5)).below ((Below.refl _ ((w8.setCell ⟨w.heap.size, 0, none⟩ (.int .i64 3)).setCell ⟨w.heap.size, 1, none⟩ (.slice (some ⟨w8.heap.size, 0, none⟩) 5 5))).alloc (Nat.le_refl _) (.cells #[.int .i64 2, .int .i64 (-1), .slice none 0 0, .int .i64 2, .int .i64 2, .slice none 0 0, .int .i64 3, .int .i64 0, .slice (some ⟨w3.heap.size, 0, none⟩) 2 2, .int .i64 2, .int .i64 1, .slice none 0 0, .int .i64 4, .int .i64 0, .slice (some ⟨w6.heap.size, 0, none⟩) 2 2] 39)) (by simp [World.setCell]; omega)
  have hBW := (below_01 B8.out (Nat.le_refl _) (.int .i64 3) (.slice (some ⟨w8.heap.size, 0, none⟩) 5 5))
  refine bodyPost_ret (results_net1 rfl rfl R9) rfl ⟨_, rfl, ?_, hBW.alloc hBW.size _⟩
  have hn := nodes_new ((w8.setCell ⟨w.heap.size, 0, none⟩ (.int .i64 3)).setCell ⟨w.heap.size, 1, none⟩ (.slice (some ⟨w8.heap.size, 0, none⟩) 5 5)) sampleL [.slice none 0 0, .slice none 0 0, .slice (some ⟨w3.heap.size, 0, none⟩) 2 2, .slice none 0 0, .slice (some ⟨w6.heap.size, 0, none⟩) 2 2] 5 rfl (fun i hi => by
    have hi5 : i < 5 := hi
    have i3 := (own_off_net (x' := .int .i64 3) (y' := .slice (some ⟨w8.heap.size, 0, none⟩) 5 5) R8.out I8.out).ints
    have j3 := (own_off_net (x' := .int .i64 3) (y' := .slice (some ⟨w8.heap.size, 0, none⟩) 5 5) R8.out J8.out).ints
    match i, hi5 with
    | 0, _ => exact ⟨_, rfl, IntsAt.none_nil _, by simp [sampleL]⟩
    | 1, _ => exact ⟨_, rfl, IntsAt.none_nil _, by simp [sampleL]⟩
    | 2, _ => exact ⟨_, rfl, i3, by simp [sampleL]⟩
    | 3, _ => exact ⟨_, rfl, IntsAt.none_nil _, by simp [sampleL]⟩
    | 4, _ => exact ⟨_, rfl, j3, by simp [sampleL]⟩)
  have hsz : ((w8.setCell ⟨w.heap.size, 0, none⟩ (.int .i64 3)).setCell ⟨w.heap.size, 1, none⟩ (.slice (some ⟨w8.heap.size, 0, none⟩) 5 5)).heap.size = w8.heap.size := by simp [World.setCell]
  rw [hsz] at hn
  exact hn
/-! ### the example, worked out -/
def sampleS : List NodeT := [⟨2, -1, []⟩, ⟨2, 2, []⟩, ⟨3, 0, [0, 1]⟩, ⟨2, 1, []⟩, ⟨2, -2, []⟩, ⟨2, 2, []⟩, ⟨4, 0, [4, 5]⟩, ⟨3, 0, [3, 6]⟩, ⟨4, 0, [2, 7]⟩]
def badL : List NodeT := [⟨2, 1, []⟩, ⟨2, -1, []⟩, ⟨3, 0, [0, 1]⟩]
theorem sample_valid : validNet ⟨3, sampleL⟩ = true := by decide +kernel
theorem sampleS_valid : validNet ⟨3, sampleS⟩ = true := by decide +kernel
theorem bad_valid : validNet ⟨1, badL⟩ = true := by decide +kernel
theorem sample_det : detB sampleL = true := by decide +kernel
theorem sample_few : (mems (litsVS sampleL)).length = 2 := by decide +kernel
theorem sample_smooth : smT sampleL = sampleS := by decide +kernel
theorem sample_dec : decomB sampleL = true := by decide +kernel
theorem bad_dec : decomB badL = false := by decide +kernel
theorem sample_dcn : decideB sampleL = true := by decide +kernel
theorem sample_rough : smoothB sampleL = false := by decide +kernel
theorem sampleS_smooth : smoothB sampleS = true := by decide +kernel
theorem sample_detNo : detNo ⟨3, sampleL⟩ = 0 := by unfold detNo; rw [sample_valid, if_pos rfl]; show (if 16 < (mems (litsVS sampleL)).length then (2 : Int) else 0) = 0; rw [sample_few, if_neg (by decide)]
theorem sample_detYes : detYes ⟨3, sampleL⟩ = true := by unfold detYes; rw [sample_detNo]; show (decide ((0 : Int) = 0) && detB sampleL) = true; rw [sample_det]; rfl
/-- What every law answers. -/
def LawPost (w : World) (e : Ending) (w' : World) : Prop := e = .returned (.bool true) ∧ Below w.heap.size w w'
end Go.Proofs.YtpdbfbjfodckgaaDoor
