/- Walks of the reference censusref03: lists of sets, and what is made of them. -/
import Derived.Test.YthgkklahiclcpaaDoorRWalk3
import Derived.Test.YthgkklahiclcpaaDoorVWalk7
import Derived.Deep.RegionHeld3
import Derived.Deep.AppendLies
namespace Go.Proofs.YthgkklahiclcpaaDoor
open Go.RowKit
attribute [local go_sem] bits_or bits_and bits_andNot

/-- The members up to k. -/
def memsTo (s : VS) (k : Nat) : List Int := ((List.range k).map fun i : Nat => (i : Int) + 1).filter (has s)
theorem memsTo_all (s : VS) : memsTo s 128 = mems s := rfl
theorem memsTo_length (s : VS) (k : Nat) : (memsTo s k).length ≤ k := by
  have := List.length_filter_le (has s) ((List.range k).map fun i : Nat => (i : Int) + 1)
  simpa [memsTo] using this
theorem memsTo_yes (s : VS) (k : Nat) (h : has s ((k : Int) + 1) = true) : memsTo s (k + 1) = memsTo s k ++ [(k : Int) + 1] := by
  simp [memsTo, List.range_succ, List.filter_append, h]
theorem memsTo_no (s : VS) (k : Nat) (h : has s ((k : Int) + 1) = false) : memsTo s (k + 1) = memsTo s k := by
  simp [memsTo, List.range_succ, List.filter_append, h]
def RList (s : VS) (w : World) (v i : Value) (wr : World) : Prop :=
  ∃ k : Nat, k ≤ 128 ∧ i = .int .i64 ((k : Int) + 1) ∧ Below w.heap.size w wr ∧ SetVar wr w.heap.size s ∧ NewInts wr (w.heap.size + 1) v (memsTo s k)
theorem SetVar.kept {w w' : World} {row : Option Nat} {b : Nat} {s : VS} (h : SetVar w b s) (hg : w.grownBy w' row) (hne : some b ≠ row) : SetVar w' b s := by
  have := h.lt
  obtain ⟨T, h⟩ := h
  exact ⟨T, (hg.block b this hne).trans h⟩
set_option maxRecDepth 100000 in
set_option maxHeartbeats 1000000 in
theorem rList_c (s : VS) (w : World) :
    Calls Tryd.prog 25 #[encS s] w (ListPost s w) := by
  obtain ⟨i0, hi, hz0, hz1, hz2⟩ := info_parts info_int
  go_enter Tryd.func25, Tryd.ntmps25
  go_wp2
  go_loopw [3, 4] (fun v i wr => RList s w v i wr) (fun _ i _ => 130 - (intOf i).toNat)
  case atStart =>
    exact ⟨0, by omega, rfl, (Below.refl _ w).alloc (Nat.le_refl _) _, SetVar.new w s _, World.ownsRow_nil _ _ _ _, by simp [memsTo]⟩
  case round =>
    obtain ⟨k, hk, rfl, hb, ha, hv⟩ := hrel
    have hsz := ha.lt
    by_cases h128 : k = 128
    · subst h128
      have H := hid (show ListPost s w (.returned u3) wr from ⟨_, rfl, hv.mono (by omega), hb⟩)
      go_wp2
      go_ret
      exact H.out
    · have hlt : (k : Int) + 1 ≤ 128 := by omega
      obtain ⟨a0, a1, _, _⟩ := ha.cells
      clear h128
      cases hha : has s ((k : Int) + 1)
      · go_wp2_with fail
        refine (rHas_c _ _ _).mono ?_; rintro e w2 ⟨rfl, hb2⟩
        clear a0 a1
        rw [hha]
        have HR := hid (show RList s w u3 (.int .i64 ((k : Int) + 1 + 1)) w2 from ⟨k + 1, by omega, by go_num, hb.trans (hb2.mono (by omega)), ha.below hb2 (by omega), by rw [memsTo_no s k hha]; exact hv.below hb2 (by omega)⟩)
        go_wp2
        go_roundw
        case rel => exact HR.out
        case measure => simp [intOf]; omega
      · go_wp2_with fail
        refine (rHas_c _ _ _).mono ?_; rintro e w2 ⟨rfl, hb2⟩
        clear a0 a1
        rw [hha]
        have hv2 := (hv.below hb2 (by omega)).1
        have hnil : Hid (u3 = .slice none 0 0 ↔ memsTo s k = []) := hv.2
        have hB2 := hb.trans (hb2.mono (by omega))
        have ha2 := ha.below hb2 (by omega)
        have hs2 := hb2.size
        have hlen := memsTo_length s k
        have HY := hid (memsTo_yes s k hha)
        clear hv hb2 hb ha
        go_wp2_with (at_builtin; refine wpList_append_own _ rfl _ _ 25 rfl (w.heap.size + 1) 3 i0 (.int .i64 0) 1 8 Tryd.underlying25 hi hz0 hz1 hz2 rfl (by decide) _ _ _ rfl (hv2.alloc _) ⟨w2.heap.size, 0, none⟩ 1 1 [.int .i64 ((k : Int) + 1)] rfl rfl (cell_one_new _ _ _) (by simp [Value.oneCell']) (by unfold maxLen; omega) (by omega) (by simp; omega) ?_; intro v' w3 hown' hgrow _; obtain ⟨g', cap', rfl⟩ := ownsRow_succ hown')
        go_roundw
        case rel =>
          have hlt2 := hv2.lt
          refine ⟨k + 1, by omega, by go_num, ?_, ?_, ?_, by rw [HY.out]; simp⟩
          · exact (hB2.alloc (by omega) _).grown hgrow (by simp; omega) (fun j e => by have := hlt2 j e; omega)
          · exact (ha2.alloc _).kept hgrow (fun e => by have := hlt2 _ e.symm; omega)
          · rw [HY.out]; simpa using hown'
        case measure => simp [intOf]; omega
end Go.Proofs.YthgkklahiclcpaaDoor
