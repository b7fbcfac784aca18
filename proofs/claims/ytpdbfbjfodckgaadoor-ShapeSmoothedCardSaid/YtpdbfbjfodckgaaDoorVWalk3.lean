/- Walks of the package vars, third part: loops. -/
import Derived.Test.YtpdbfbjfodckgaaDoorVWalk2
import Derived.Test.YtpdbfbjfodckgaaDoorMem
namespace Go.Proofs.YtpdbfbjfodckgaaDoor
open Go.RowKit
attribute [local go_sem] bits_or bits_and bits_andNot

theorem ofL_take_succ (l : List Int) (k : Nat) (h : k < l.length) : withV (ofL (l.take k)) l[k] = ofL (l.take (k + 1)) := by
  rw [List.take_succ_eq_append_getElem h, ofL, ofL, List.foldl_append]; rfl

def OfRel (l : List Int) (w : World) (i : Value) (wr : World) : Prop :=
  ∃ k : Nat, k ≤ l.length ∧ i = .int .i64 k ∧ Below w.heap.size w wr ∧ SetVar wr w.heap.size 0 ∧ SetVar wr (w.heap.size + 1) (ofL (l.take k))
theorem OfRel.start (l : List Int) (w : World) (T T' : Nat) : OfRel l w (.int .i64 0) ((w.alloc (.cells #[.int .u64 0, .int .u64 0] T)).alloc (.cells #[.int .u64 0, .int .u64 0] T')) := by
  refine ⟨0, Nat.zero_le _, rfl, ((Below.refl _ _).alloc (Nat.le_refl _) _).alloc (by simp) _, (SetVar.new w 0 T).alloc _, ?_⟩
  have := SetVar.new (w.alloc (.cells #[.int .u64 0, .int .u64 0] T)) 0 T'
  rw [World.size_alloc] at this
  exact this

set_option maxHeartbeats 400000 in
theorem Of_c (v : Value) (l : List Int) (w : World) (hI : IntsAt w v l) (hl : l.length ≤ 140737488355328) :
    Calls Tryd.prog 65 #[v] w fun e w' => e = .returned (encS (ofL l)) ∧ Below w.heap.size w w' := by
  obtain ⟨p, c, rfl, hI⟩ := hI
  rcases hI with rfl | ⟨b, off, rfl, hI⟩
  · go_enter Tryd.func65, Tryd.ntmps65
    go_wp2
    go_rounds 1
    go_returns
    refine ⟨rfl, ?_⟩
    go_grown
  · have HI := hid hI
    clear hI
    go_enter Tryd.func65, Tryd.ntmps65
    go_wp2
    go_loopw [8] (fun i wr => OfRel l w i wr) (fun i _ => l.length - (intOf i).toNat)
    case atStart => exact OfRel.start _ _ _ _
    case round =>
      obtain ⟨k, hk, rfl, hb, hr, hs⟩ := hrel
      have hsz := hs.lt
      obtain ⟨s0, s1, f0, f1⟩ := hs.cells
      obtain ⟨r0, r1, q0, q1⟩ := hr.cells
      by_cases hlt : k < l.length
      · have hc : wr.cell? ⟨b, off + k, none⟩ = some (.int .i64 l[k]) := by
          have h0 := HI.out k hlt
          rw [hb.cell (cell_lt h0), h0]; simp [hlt]
        go_wp2_with fail
        refine (With_c _ _ _).mono ?_; rintro e w1 ⟨rfl, hb1⟩
        have hs1 := hs.below hb1 (by omega)
        have hr1 := hr.below hb1 (by omega)
        obtain ⟨t0, t1, g0, g1⟩ := hs1.cells
        clear s0 s1 f0 f1 r0 r1 q0 q1
        go_wp2
        go_roundw
        case rel =>
          refine ⟨k + 1, by omega, by go_num, ((hb.trans (hb1.mono hb.size)).setCell (by simp) _).setCell (by simp) _, (hr1.other (by simp) _).other (by simp) _, ?_⟩
          rw [← ofL_take_succ _ _ hlt]
          exact hs1.store _
        case measure => simp [intOf]; omega
      · go_wp2
        refine bodyPost_ret (results_set rfl rfl (hr.store _)) rfl ?_
        refine ⟨?_, (hb.setCell (by simp) _).setCell (by simp) _⟩
        rw [List.take_of_length_le (by omega)]
end Go.Proofs.YtpdbfbjfodckgaaDoor
