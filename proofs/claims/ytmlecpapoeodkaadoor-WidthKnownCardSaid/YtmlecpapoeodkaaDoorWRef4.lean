/- Walks: the reference of the layer width: which vertices are together, and which bags hang together. -/
import Derived.Test.YtmlecpapoeodkaaDoorWGiven
import Derived.Test.YtmlecpapoeodkaaDoorWFlood
namespace Go.Proofs.YtmlecpapoeodkaaDoor
open Go.RowKit
attribute [local go_sem ↓] run_eqlS run_neqS run_eqlS0 run_neqS0

def WetRow (w : World) (g : Nat) (F : List Bool) : Prop := ∃ cur T, w.heap[g]? = some (.cells cur T (0, 0)) ∧ F.length ≤ cur.size ∧ ∀ i, i < F.length → cur[i]? = some (.bool (wet F i))
theorem WetRow.lt {w : World} {g : Nat} {F : List Bool} (h : WetRow w g F) : g < w.heap.size := by
  obtain ⟨cur, T, h, _⟩ := h; exact (Array.getElem?_eq_some_iff.1 h).1
theorem WetRow.at {w : World} {g : Nat} {F : List Bool} (h : WetRow w g F) (i : Nat) (hi : i < F.length) : w.cell? ⟨g, i, none⟩ = some (.bool (wet F i)) ∧ w.frozen? ⟨g, i, none⟩ = false := by
  obtain ⟨cur, T, h1, h2, h3⟩ := h
  simp [World.cell?, World.frozen?, h1, h3 i hi]
theorem WetRow.same {w w' : World} {g : Nat} {F : List Bool} (h : WetRow w g F) (e : w'.heap[g]? = w.heap[g]?) : WetRow w' g F := by
  obtain ⟨cur, T, h1, h2⟩ := h; exact ⟨cur, T, e.trans h1, h2⟩
theorem WetRow.below {w w' : World} {g B : Nat} {F : List Bool} (h : WetRow w g F) (hb : Below B w w') (hB : g < B) : WetRow w' g F := h.same (hb.block g hB)
theorem WetRow.store {w : World} {g : Nat} {F : List Bool} (h : WetRow w g F) (i : Nat) : WetRow (w.setCell ⟨g, i, none⟩ (.bool true)) g (F.set i true) := by
  obtain ⟨cur, T, h1, h2, h3⟩ := h
  refine ⟨cur.setIfInBounds i (.bool true), T, ?_, by simpa using h2, fun k hk => ?_⟩
  · simp [World.setCell, Array.getElem?_modify, h1]
  · have hk' : k < F.length := by simpa using hk
    rw [Array.getElem?_setIfInBounds]
    by_cases e : i = k
    · subst e
      rw [if_pos rfl, if_pos (by omega), (wet_set F i i).2 (.inr ⟨rfl, hk'⟩)]
    · rw [if_neg e, h3 k hk']
      congr 2
      have := wet_set F i k
      cases e1 : wet F k <;> cases e2 : wet (F.set i true) k
      · rfl
      · rw [e1, e2] at this; simp [e] at this
      · rw [e1, e2] at this; simp at this
      · rfl
theorem make_bools (w : World) (n : Nat) (hn : n ≤ 1000) (x y : Int) (hx : x = (n : Int)) (hy : y = (n : Int)) :
    (Instr.makeSlice 73 (.int .i64 x) (.int .i64 y)).run Tryd.prog w = .ok (.slice (some ⟨w.heap.size, 0, none⟩) n n) (w.alloc (.cells (madeCells (Value.bool false).cells n) 4)) := by
  subst hx; subst hy
  obtain ⟨i0, hi, hz0, hz1, hz2⟩ := info_parts info_bool
  have := run_makeSlice (P := Tryd.prog) w 73 4 i0 (.bool false) Tryd.underlying73 hi hz0 .i64 .i64 (n : Int) (n : Int) (by omega) (Int.le_refl _) (by rw [hz1, Int.toNat_natCast]; omega) (by rw [hz2]; omega) (by omega)
  rw [hz1, Int.toNat_natCast, Nat.mul_one] at this
  exact this
theorem wet_dry (n i : Nat) : wet (List.replicate n false) i = false := by
  simp [wet, List.getD_eq_getElem?_getD, List.getElem?_replicate]
  split <;> simp
theorem WetRow.made (w : World) (n : Nat) : WetRow (w.alloc (.cells (madeCells (Value.bool false).cells n) 4)) w.heap.size (List.replicate n false) :=
  ⟨_, _, heap_alloc_new w _, by simp [size_madeCells], fun i hi => by
    have h2 : i < n := by simpa using hi
    rw [wet_dry]
    simp [madeCells, h2, Value.cells, Nat.mod_one]⟩
/-! ### together -/
def togB (B : List VS) (a b : Int) : Bool := B.any fun s => has s a && has s b
theorem togB_iff {B : List VS} {a b : Int} : togB B a b = true ↔ Tog B a b := by
  unfold togB Tog
  rw [List.any_eq_true]
  constructor
  · rintro ⟨s, hs, h⟩
    rw [Bool.and_eq_true] at h
    obtain ⟨i, _, hi⟩ := (mem_bags (B := B) (p := fun s => has s a = true ∧ has s b = true)).1 ⟨s, hs, h⟩
    exact ⟨i, hi⟩
  · rintro ⟨i, h1, h2⟩
    obtain ⟨s, hs, h⟩ := (mem_bags (B := B) (p := fun s => has s a = true ∧ has s b = true)).2 ⟨i, bag_range h1, h1, h2⟩
    exact ⟨s, hs, by rw [Bool.and_eq_true]; exact h⟩
set_option maxRecDepth 100000 in
set_option maxHeartbeats 4000000 in
theorem rTog_c (x y : Value) (B : List VS) (a b : Int) (w : World) (hx : SetsAt w x B) (hl : B.length ≤ 140737488355328) :
    Calls Tryd.prog 65 #[.agg #[x, y], .int .i64 a, .int .i64 b] w fun e w' => e = .returned (.bool (togB B a b)) ∧ Below w.heap.size w w' := by
  obtain ⟨p, c, rfl, hp⟩ := hx
  have HP := hid hp
  clear hp
  have hB0 : Below w.heap.size w (w.alloc (.cells #[.slice p B.length c, y] 33)) := (Below.refl _ w).alloc (Nat.le_refl _) _
  have b0 := Box2.new w 33 (.slice p B.length c) y
  go_enter Tryd.func65, Tryd.ntmps65
  go_wp2_with fail
  generalize w.alloc (.cells #[.slice p B.length c, y] 33) = w1 at *
  have HB1 := hid b0
  clear b0
  go_loopw [7] (fun i wr => ∃ k : Nat, k ≤ B.length ∧ i = .int .i64 k ∧ Hid (∀ (m : Nat) (h : m < B.length), m < k → (has B[m] a && has B[m] b) = false) ∧ Below w1.heap.size w1 wr) (fun i _ => B.length - (intOf i).toNat)
  case atStart => exact ⟨0, Nat.zero_le _, rfl, fun m h h' => by omega, Below.refl _ _⟩
  case round =>
    obtain ⟨k, hk, rfl, hno, hB⟩ := hrel
    have hBw := hB0.trans (hB.mono hB0.size)
    obtain ⟨c0, c1, _, _⟩ := (HB1.out.below hB HB1.out.lt).cells
    by_cases hkl : k < B.length
    · obtain ⟨b', off, rfl, hm⟩ := HP.out.resolve_left (by rintro rfl; simp at hkl)
      obtain ⟨q0, q1⟩ := (hm k hkl).below hBw
      have zk : (0 : Int) ≤ (k : Int) ∧ (k : Int) < (B.length : Int) := by omega
      have HNO := hid (show (has B[k] a && has B[k] b) = false → ∀ (m : Nat) (h : m < B.length), m < k + 1 → (has B[m] a && has B[m] b) = false from fun h m hm' hmk => by
        by_cases e : m = k
        · subst e; exact h
        · exact hno.out m hm' (by omega))
      have HYES := hid (show has B[k] a = true → has B[k] b = true → togB B a b = true from fun h1 h2 => by
        unfold togB; rw [List.any_eq_true]; exact ⟨B[k], List.getElem_mem hkl, by rw [h1, h2]; rfl⟩)
      generalize hs : B[k] = s at *
      have HA := hid (rHas_c s a wr)
      clear hm hs hno
      go_wp2_with fail
      refine HA.out.mono ?_
      rintro e w2 ⟨rfl, hb2⟩
      have hB2 := hB.trans (hb2.mono hB.size)
      have r0 := (hb2.cell (cell_lt q0)).trans q0
      have r1 := (hb2.cell (cell_lt q1)).trans q1
      have t0 := (hb2.cell (cell_lt c0)).trans c0
      have t1 := (hb2.cell (cell_lt c1)).trans c1
      clear q0 q1 c0 c1
      cases ha : has s a
      · have HN := hid (HNO.out (by rw [ha]; rfl))
        clear ha
        go_wp2_with fail
        go_roundw
        case rel => exact ⟨k + 1, by omega, by go_num, HN.out, hB2⟩
        case measure => simp [intOf]; omega
      · have HY := hid (HYES.out ha)
        have HNO2 := hid (show has s b = false → _ from fun h => HNO.out (by rw [h]; simp))
        have HBB := hid (rHas_c s b w2)
        clear ha HYES HNO
        go_wp2_with fail
        refine HBB.out.mono ?_
        rintro e w3 ⟨rfl, hb3⟩
        have hB3 := hB2.trans (hb3.mono hB2.size)
        clear r0 r1 t0 t1
        cases hb : has s b
        · have HN := hid (HNO2.out hb)
          clear hb
          go_wp2_with fail
          go_roundw
          case rel => exact ⟨k + 1, by omega, by go_num, HN.out, hB3⟩
          case measure => simp [intOf]; omega
        · have HF := hid (HY.out hb)
          clear hb
          go_wp2_with fail
          go_ret
          exact ⟨by rw [HF.out]; rfl, hB0.trans (hB3.mono hB0.size)⟩
    · have HF := hid (show togB B a b = false from by
        cases e : togB B a b
        · rfl
        · unfold togB at e
          rw [List.any_eq_true] at e
          obtain ⟨s, hs, h⟩ := e
          obtain ⟨m, hm, rfl⟩ := List.getElem_of_mem hs
          rw [hno.out m hm (by omega)] at h
          cases h)
      go_wp2_with fail
      go_ret
      exact ⟨by rw [HF.out]; rfl, hBw⟩
end Go.Proofs.YtmlecpapoeodkaaDoor
