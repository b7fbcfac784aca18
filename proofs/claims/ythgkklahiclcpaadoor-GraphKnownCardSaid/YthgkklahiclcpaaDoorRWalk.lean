/- Walks of the reference censusref03: rows of booleans, sets out of them. -/
import Derived.Test.YthgkklahiclcpaaDoorRPlain
namespace Go.Proofs.YthgkklahiclcpaaDoor
open Go.RowKit
attribute [local go_sem] bits_or bits_and bits_andNot

theorem info_bool : (Tryd.prog.info? 4).map (fun i => (i.zero, i.size, i.bytes)) = some (some (.bool false), 1, 1) := by kernel_rfl
theorem make129 (w : World) : (Instr.makeSlice 64 (.int .i64 129) (.int .i64 129)).run Tryd.prog w = .ok (.slice (some ⟨w.heap.size, 0, none⟩) 129 129) (w.alloc (.cells (madeCells #[.bool false] 129) 4)) := by
  obtain ⟨i0, hi, hz0, hz1, hz2⟩ := info_parts info_bool
  have := run_makeSlice (P := Tryd.prog) w 64 4 i0 (.bool false) Tryd.underlying64 hi hz0 .i64 .i64 129 129
  simpa [hz1, hz2, maxLen, Value.cells] using this
theorem BoolRow.made (w : World) : BoolRow (w.alloc (.cells (madeCells #[.bool false] 129) 4)) w.heap.size (fun _ => false) :=
  ⟨_, _, heap_alloc_new w _, by simp [size_madeCells], fun i hi => by simp [madeCells, hi, Nat.mod_one]⟩
set_option maxHeartbeats 400000 in
theorem rnone_c (w : World) :
    Calls Tryd.prog 52 #[] w fun e w' => e = .returned (.slice (some ⟨w.heap.size, 0, none⟩) 129 129) ∧ BoolRow w' w.heap.size (fun _ => false) ∧ Below w.heap.size w w' := by
  have hm := make129 w
  go_enter Tryd.func52, Tryd.ntmps52
  go_wp2
  go_ret
  exact ⟨rfl, BoolRow.made w, (Below.refl _ _).alloc (Nat.le_refl _) _⟩

def SetRel (f : Nat → Bool) (g : Nat) (w : World) (i : Value) (wr : World) : Prop :=
  ∃ k : Nat, k ≤ 128 ∧ i = .int .i64 ((k : Int) + 1) ∧ Below w.heap.size w wr ∧ BoolRow wr g f ∧ SetVar wr w.heap.size 0 ∧ SetVar wr (w.heap.size + 1) (setTo f k)
theorem shl_lo {k : Nat} (h : (k : Int) + 1 ≤ 64) : IntKind.u64.wrap (2 ^ (k % 64)) = ((lw (one ((k : Int) + 1))).toNat : Int) := by
  rw [lo_one (by omega) h]; congr 2; omega
theorem shl_hi {k : Nat} (h : 65 ≤ (k : Int) + 1) (h2 : (k : Int) + 1 ≤ 128) : IntKind.u64.wrap (2 ^ (k % 64)) = ((hw (one ((k : Int) + 1))).toNat : Int) := by
  rw [hi_one (by omega) h2]; congr 2; omega
set_option maxHeartbeats 400000 in
theorem rset_c (g : Nat) (f : Nat → Bool) (w : World) (hR : BoolRow w g f) :
    Calls Tryd.prog 53 #[.slice (some ⟨g, 0, none⟩) 129 129] w fun e w' => e = .returned (encS (setOf f)) ∧ Below w.heap.size w w' := by
  have hg := hR.lt
  go_enter Tryd.func53, Tryd.ntmps53
  go_wp2
  go_loopw [4] (fun i wr => SetRel f g w i wr) (fun i _ => 130 - (intOf i).toNat)
  case atStart =>
    refine ⟨0, by omega, rfl, ((Below.refl _ _).alloc (Nat.le_refl _) _).alloc (by simp) _, (hR.alloc _).alloc _, (SetVar.new w 0 35).alloc _, ?_⟩
    have := SetVar.new (w.alloc (.cells #[.int .u64 0, .int .u64 0] 35)) 0 35
    rw [World.size_alloc] at this
    rw [setTo_zero]
    exact this
  case round =>
    obtain ⟨k, hk, rfl, hb, hrow, hr, hs⟩ := hrel
    have hsz := hs.lt
    by_cases h128 : k = 128
    · subst h128
      obtain ⟨s0, s1, f0, f1⟩ := hs.cells
      obtain ⟨r0, r1, q0, q1⟩ := hr.cells
      go_wp2
      refine bodyPost_ret (results_set rfl rfl (hr.store _)) rfl ?_
      exact ⟨rfl, (hb.setCell (by simp) _).setCell (by simp) _⟩
    · have hlt : (k : Int) + 1 < 129 := by omega
      have hc := (hrow.cell (i := k + 1) (by omega)).1
      cases hf : f (k + 1)
      · rw [hf] at hc
        have HF := hid hf
        clear hf h128
        go_wp2
        go_roundw
        case rel => exact ⟨k + 1, by omega, by go_num, hb, hrow, hr, by rw [← setTo_no f k HF.out]; exact hs⟩
        case measure => simp [intOf]; omega
      · rw [hf] at hc
        have HF := hid hf
        clear hf h128
        obtain ⟨s0, s1, f0, f1⟩ := hs.cells
        have hset := setTo_yes f k HF.out
        by_cases h64 : (k : Int) + 1 ≤ 64
        · have hq : (k : Int) / 64 = 0 := by omega
          have hsh := shl_lo h64
          have hst := hs.store0 (setTo f (k + 1)) (by rw [← hset, hi_withV, hi_one_low h64, or64_zero])
          rw [← hset, lo_withV] at hst
          have HS := hid hst
          have HE := hid hset
          clear hst hset
          go_wp2
          go_roundw
          case rel => exact ⟨k + 1, by omega, by go_num, hb.setCell (by simp) _, hrow.other (by simp; omega) _, hr.other (by simp) _, by rw [← HE.out]; exact HS.out⟩
          case measure => simp [intOf]; omega
        · have hq : (k : Int) / 64 = 1 := by omega
          have h65 : 65 ≤ (k : Int) + 1 := by omega
          have hsh := shl_hi h65 (by omega)
          have hst := hs.store1 (setTo f (k + 1)) (by rw [← hset, lo_withV, lo_one_high h65, or64_zero])
          rw [← hset, hi_withV] at hst
          have HS := hid hst
          have HE := hid hset
          clear hst hset
          go_wp2
          go_roundw
          case rel => exact ⟨k + 1, by omega, by go_num, hb.setCell (by simp) _, hrow.other (by simp; omega) _, hr.other (by simp) _, by rw [← HE.out]; exact HS.out⟩
          case measure => simp [intOf]; omega
end Go.Proofs.YthgkklahiclcpaaDoor
