/- Walks of the iterator over a set, and of what ranges over it. -/
import Derived.Test.YtpdbfbjfodckgaaDoorVWalk4
import Derived.RangeFuncBox
import Derived.RangeFuncLeaves
import Derived.RangeFuncNested
import Derived.RangeFuncBound
import Derived.RangeFuncCalls
import Derived.Shelf.Abstract
import Derived.OwnWalkIn
import Derived.TacticsInMore
import Derived.LoopNIn
import Derived.LoopIn
import Derived.Maps.AppendAt
namespace Go.Proofs.YtpdbfbjfodckgaaDoor
open Go.RowKit Go.Shelf
attribute [local go_sem] Oper.semAt_some bits_and

/-- The table of math/bits, in its variable. -/
def TabAt (w : World) : Prop := ∀ j, j < 64 → w.cell? ⟨1, j, none⟩ = some (.int .u8 (Lib.deBruijn64tab.getD j 0))
theorem TabAt.below {w w' : World} (h : TabAt w) {B : Nat} (hB : 1 < B) (hb : Below B w w') : TabAt w' := fun j hj => (hb.cell (p := ⟨_, j, none⟩) hB).trans (h j hj)
theorem TabAt.lt {w : World} (h : TabAt w) : 1 < w.heap.size := cell_lt (h 0 (by decide))

set_option maxHeartbeats 400000 in
theorem tz64_core (x k idx : Nat) (w : World) (hx0 : ((x : Int) == 0) = false)
    (key : IntKind.u64.wrap (bits BinOp.and IntKind.u64 (x : Int) (IntKind.u64.wrap (-(x : Int))) * 285870213051353865) / 288230376151711744 = (idx : Int))
    (hi : idx < 64) (hk : k < 64) (hcell : w.cell? ⟨1, idx, none⟩ = some (.int .u8 k)) :
    Calls Tryd.prog 84 #[.int .u64 x] w fun e w' => e = .returned (.int .i64 k) ∧ w' = w := by
  go_enter Tryd.func84, Tryd.ntmps84
  go_wp2_with (simp only [key])
  go_ret
  exact ⟨rfl, rfl⟩
theorem tz64_key (x a : Nat) (hx : x < 18446744073709551616) (hx0 : x ≠ 0) (hlow : x &&& (18446744073709551616 - x) = a) :
    IntKind.u64.wrap (bits BinOp.and IntKind.u64 (x : Int) (IntKind.u64.wrap (-(x : Int))) * 285870213051353865) / 288230376151711744 = ((a * 285870213051353865 % 18446744073709551616 / 288230376151711744 : Nat) : Int) := by
  have e1 : IntKind.u64.wrap (-(x : Int)) = ((18446744073709551616 - x : Nat) : Int) := by rw [IntKind.wrap_u64]; omega
  rw [e1, bits_and_u64_nat x _ hx (by omega), hlow, IntKind.wrap_u64]
  omega
def ctz (x : BitVec 64) : Int := Lib.ctz 64 x.toNat
theorem TZ_c (x : BitVec 64) (w : World) (h0 : x ≠ 0) (hT : TabAt w) :
    Calls Tryd.prog 84 #[.int .u64 (x.toNat : Int)] w fun e w' => e = .returned (.int .i64 (ctz x)) ∧ w' = w := by
  have hx0 : x.toNat ≠ 0 := fun h => h0 (BitVec.eq_of_toNat_eq h)
  obtain ⟨hlow, hk⟩ := Lib.lowest_bit 64 x.toNat hx0 x.isLt
  obtain ⟨hi, htab⟩ := Lib.deBruijn64_at _ hk
  have hcell := hT _ hi
  rw [htab] at hcell
  exact tz64_core x.toNat _ _ w (by simp; omega) (tz64_key x.toNat _ x.isLt hx0 hlow) hi hk hcell
theorem ctz_range (x : BitVec 64) (h0 : x ≠ 0) : 0 ≤ ctz x ∧ ctz x < 64 := by
  have hx0 : x.toNat ≠ 0 := fun h => h0 (BitVec.eq_of_toNat_eq h)
  have := (Lib.lowest_bit 64 x.toNat hx0 x.isLt).2
  unfold ctz; omega
def pred64 (x : BitVec 64) : BitVec 64 := x - 1
def drop1 (x : BitVec 64) : BitVec 64 := and64 x (pred64 x)
theorem drop1_toNat (x : BitVec 64) (h0 : x ≠ 0) : (drop1 x).toNat = x.toNat &&& (x.toNat - 1) := by
  have hx0 : x.toNat ≠ 0 := fun h => h0 (BitVec.eq_of_toNat_eq h)
  have hl := x.isLt
  unfold drop1 and64 pred64
  rw [BitVec.toNat_and, BitVec.toNat_sub]
  congr 1
  simp
  omega
/-- The bits of a word, as numbers. -/
def bl (x : BitVec 64) : List Nat := bitsL x.toNat
theorem bl_next (x : BitVec 64) (h0 : x ≠ 0) : bl x = (ctz x).toNat :: bl (drop1 x) := by
  have hx0 : x.toNat ≠ 0 := fun h => h0 (BitVec.eq_of_toNat_eq h)
  unfold bl
  rw [bitsL_next hx0 x.isLt, drop1_toNat x h0]
  rfl
theorem bl_zero : bl 0 = [] := bitsL_zero

/-- What has come when k words are over. -/
def come (s : VS) : Nat → List Int
  | 0 => []
  | 1 => (bl (lw s)).map fun i : Nat => (i : Int) + 1
  | _ => mems s
theorem come_two (s : VS) : come s 2 = come s 1 ++ (bl (hw s)).map fun i : Nat => (i : Int) + 65 := mems_words s
theorem come_length (s : VS) (k : Nat) : (come s k).length ≤ 128 := by
  have h := mems_length s
  have e := mems_words s
  match k with
  | 0 => simp [come]
  | 1 => rw [e] at h; simp at h; simp [come, bl]; omega
  | k + 2 => exact h
theorem come_prefix (s : VS) (k : Nat) : come s k <+: mems s := by
  match k with
  | 0 => exact List.nil_prefix
  | 1 => rw [mems_words]; exact List.prefix_append _ _
  | k + 2 => exact List.prefix_refl _

/-- A round of the inner loop: the word x is still to come, all of the first words and pre of this word have come. -/
def MRel (s : VS) (k : Nat) (J : List Int → World → Prop) (v : Value) (wr : World) : Prop :=
  ∃ (x : BitVec 64) (pre : List Int), v = .int .u64 (x.toNat : Int) ∧ come s (k + 1) = pre ++ (bl x).map (fun i : Nat => 64 * (k : Int) + (i : Int) + 1) ∧ J pre wr ∧ TabAt wr
def MOut (s : VS) (J : List Int → World → Prop) (v : Value) (wr : World) : Prop := ((v = .int .i64 0 ∧ J [] wr) ∨ (v = .int .i64 1 ∧ J (come s 1) wr) ∨ (v = .int .i64 2 ∧ J (mems s) wr)) ∧ TabAt wr

theorem index_set0 (x y : Value) (w : World) : (Instr.index 42 (.agg #[x, y]) (.int .i64 0)).run Tryd.prog w = .ok x w := by kernel_rfl
theorem index_set1 (x y : Value) (w : World) : (Instr.index 42 (.agg #[x, y]) (.int .i64 1)).run Tryd.prog w = .ok y w := by kernel_rfl
attribute [local go_sem] index_set0 index_set1
/-- A word that is not 0, on its way. -/
theorem MRel.next {s : VS} {k : Nat} {J : List Int → World → Prop} {x : BitVec 64} {pre : List Int} {wr : World} (h0 : x ≠ 0)
    (hc : come s (k + 1) = pre ++ (bl x).map (fun i : Nat => 64 * (k : Int) + (i : Int) + 1)) (hJ : J (pre ++ [64 * (k : Int) + ctz x + 1]) wr) (hT : TabAt wr) : MRel s k J (.int .u64 ((drop1 x).toNat : Int)) wr := by
  refine ⟨drop1 x, _, rfl, ?_, hJ, hT⟩
  rw [hc, bl_next x h0, List.map_cons, Int.toNat_of_nonneg (ctz_range x h0).1]
  simp
theorem drop1_less (x : BitVec 64) (h0 : x ≠ 0) : (bitsL (drop1 x).toNat).length < (bitsL x.toNat).length := by
  have := bl_next x h0
  unfold bl at this
  rw [this]; simp
theorem sub1 (x : BitVec 64) (h0 : x ≠ 0) : (x.toNat : Int) - 1 = ((pred64 x).toNat : Int) ∧ 1 ≤ (x.toNat : Int) ∧ ((x.toNat : Int) == 0) = false ∧ ((x.toNat : Int) != 0) = true := by
  have hx0 : x.toNat ≠ 0 := fun h => h0 (BitVec.eq_of_toNat_eq h)
  have hl := x.isLt
  unfold pred64
  rw [BitVec.toNat_sub]
  refine ⟨?_, by omega, by simp; omega, by simp; omega⟩
  simp
  omega
set_option maxRecDepth 100000 in
set_option maxHeartbeats 1000000 in
theorem members1_in (n n₀ : Nat) (hn : 1 ≤ n) (hg : 1 < n₀) (l Bn : Nat) (s : VS) (J Jx : List Int → World → Prop)
    (hY : ∀ pre x W, J pre W → pre.length < 128 → YieldAt Fence.wide (n - 1) Tryd.prog l #[.int .i64 x] W fun e W' =>
      (e = .returned (.bool true) ∧ J (pre ++ [x]) W' ∧ Below n₀ W W') ∨ (e = .returned (.bool false) ∧ Jx (pre ++ [x]) W'))
    (W : World) (hBn : SetVar W Bn s) (hT : TabAt W) (h0 : J [] W) :
    CallsIn Fence.wide n Tryd.prog 83 #[.func (.yield l) #[] #[], .pointer (some ⟨Bn, 0, none⟩)] W fun e W' => (∃ v, e = .returned v) ∧
      ((∃ ys, ys = mems s ∧ J ys W') ∨ (∃ pre, pre <+: mems s ∧ Jx pre W')) := by
  obtain ⟨c0, c1, _, _⟩ := hBn.cells
  refine callsIn_of_wp Tryd.func83 rfl trivial ?_ rfl
  simp only [Tryd.ntmps83, List.size_toArray, List.length_cons, List.length_nil, Nat.reduceAdd, Nat.reduceSub, Array.replicate_succ, Array.replicate_zero, List.push_toArray, List.append_toArray, List.nil_append, List.cons_append]
  gi_wp2
  gi_loopw [6] (fun i wr => MOut s J i wr) (fun i _ => 2 - (intOf i).toNat)
  case atStart => exact ⟨.inl ⟨rfl, h0⟩, hT⟩
  case round =>
    obtain ⟨⟨rfl, hJ⟩ | ⟨rfl, hJ⟩ | ⟨rfl, hJ⟩, hTr⟩ := hrel
    · gi_wp2
      gi_loopw [4] (fun x wr => MRel s 0 J x wr) (fun x _ => (bitsL (intOf x).toNat).length)
      case atStart => exact ⟨lw s, [], rfl, by simp [come], hJ, hTr⟩
      case round =>
        obtain ⟨x, pre, rfl, hc, hJ2, hT2⟩ := hrel
        by_cases h0 : x = 0
        · subst h0
          have hz : (((0 : BitVec 64).toNat : Int) != 0) = false := by decide
          gi_wp2
          refine ⟨⟨.inr (.inl ⟨rfl, ?_⟩), hT2⟩, by simp [intOf]⟩
          have e : pre = come s 1 := by rw [hc, bl_zero]; simp
          rw [e] at hJ2; exact hJ2
        · obtain ⟨s1, s2, s3, s4⟩ := sub1 x h0
          obtain ⟨r1, r2⟩ := ctz_range x h0
          have hlen : pre.length < 128 := by
            have := come_length s 1
            rw [hc, bl_next x h0] at this
            simp at this; omega
          have hpx : (pre ++ [ctz x + 1]) <+: mems s := by
            refine List.IsPrefix.trans ?_ (come_prefix s 1)
            rw [hc, bl_next x h0, List.map_cons, Int.toNat_of_nonneg (ctz_range x h0).1]
            exact ⟨_, by simp; rfl⟩
          have HC := hid hc
          have HP := hid hpx
          clear hc hpx
          obtain ⟨fn, tmps, assign, body, hy, hR⟩ := hY pre (ctz x + 1) _ hJ2 hlen
          gi_wp2_with (refine ⟨trivial, ?_⟩; gi_at_call 84; refine (callsIn_wide.2 (TZ_c x _ h0 hT2)).mono ?_; rintro e w' ⟨rfl, rfl⟩)
          refine hR.mono ?_
          rintro e W3 (⟨rfl, hJ3, hk3⟩ | ⟨rfl, hJx3⟩)
          · have hT3 := hT2.below hg hk3
            have HM := hid (MRel.next (k := 0) h0 HC.out (by simpa using hJ3) hT3)
            gi_wp2
            go_roundw
            case rel => exact HM.out
            case measure => exact drop1_less x h0
          · gi_wp2
            refine bodyPost_ret (results_none rfl _ _ _) rfl ?_
            exact ⟨⟨_, rfl⟩, .inr ⟨_, HP.out, hJx3⟩⟩
    · gi_wp2
      gi_loopw [4] (fun x wr => MRel s 1 J x wr) (fun x _ => (bitsL (intOf x).toNat).length)
      case atStart => exact ⟨hw s, come s 1, rfl, by rw [come_two]; simp; intro a _; omega, hJ, hTr⟩
      case round =>
        obtain ⟨x, pre, rfl, hc, hJ2, hT2⟩ := hrel
        by_cases h0 : x = 0
        · subst h0
          have hz : (((0 : BitVec 64).toNat : Int) != 0) = false := by decide
          gi_wp2
          refine ⟨⟨.inr (.inr ⟨rfl, ?_⟩), hT2⟩, by simp [intOf]⟩
          have e : pre = come s 2 := by rw [hc, bl_zero]; simp
          rw [e] at hJ2; exact hJ2
        · obtain ⟨s1, s2, s3, s4⟩ := sub1 x h0
          obtain ⟨r1, r2⟩ := ctz_range x h0
          have hlen : pre.length < 128 := by
            have := come_length s 2
            rw [hc, bl_next x h0] at this
            simp at this; omega
          have hpx : (pre ++ [64 + ctz x + 1]) <+: mems s := by
            refine List.IsPrefix.trans ?_ (come_prefix s 2)
            rw [hc, bl_next x h0, List.map_cons, Int.toNat_of_nonneg (ctz_range x h0).1]
            exact ⟨_, by simp; rfl⟩
          have HC := hid hc
          have HP := hid hpx
          clear hc hpx
          obtain ⟨fn, tmps, assign, body, hy, hR⟩ := hY pre (64 + ctz x + 1) _ hJ2 hlen
          gi_wp2_with (refine ⟨trivial, ?_⟩; gi_at_call 84; refine (callsIn_wide.2 (TZ_c x _ h0 hT2)).mono ?_; rintro e w' ⟨rfl, rfl⟩)
          refine hR.mono ?_
          rintro e W3 (⟨rfl, hJ3, hk3⟩ | ⟨rfl, hJx3⟩)
          · have hT3 := hT2.below hg hk3
            have HM := hid (MRel.next (k := 1) h0 HC.out (by simpa using hJ3) hT3)
            gi_wp2
            go_roundw
            case rel => exact HM.out
            case measure => exact drop1_less x h0
          · gi_wp2
            refine bodyPost_ret (results_none rfl _ _ _) rfl ?_
            exact ⟨⟨_, rfl⟩, .inr ⟨_, HP.out, hJx3⟩⟩
    · gi_wp2
      go_end0
      exact ⟨⟨_, rfl⟩, .inl ⟨_, rfl, hJ⟩⟩
/-- The iterator's contract. -/
theorem members_stops (n n₀ : Nat) (hn : 1 ≤ n) (hg : 1 < n₀) (Bn : Nat) (s : VS) (w : World) (hBn : SetVar w Bn s) (hT : TabAt w) :
    SeqStopsK Fence.wide n Tryd.prog 83 #[.pointer (some ⟨Bn, 0, none⟩)] (fun x : Int => #[Value.int .i64 x]) (Below n₀) (fun ys => ys = mems s) (fun pre => pre <+: mems s) 128 w := fun l J Jx W hW _ _ hY h0 =>
  members1_in n n₀ hn hg l Bn s J Jx hY W (hBn.below hW hBn.lt) (hT.below hT.lt hW) h0

set_option maxHeartbeats 400000 in
theorem members_c (s : VS) (w : World) :
    Calls Tryd.prog 76 #[encS s] w fun e w' => e = .returned (.func (.func 83) #[] #[.pointer (some ⟨w.heap.size, 0, none⟩)]) ∧
      w' = w.alloc (.cells #[.int .u64 ((lw s).toNat : Int), .int .u64 ((hw s).toNat : Int)] 42 (0, 0)) := by
  go_enter Tryd.func76, Tryd.ntmps76
  go_wp2
  go_ret
  exact ⟨rfl, rfl⟩
end Go.Proofs.YtpdbfbjfodckgaaDoor
