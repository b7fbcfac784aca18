/- Walks: which nets are valid, by the reference. -/
import Derived.Test.YtkfmblpcfgdgpaaNMem
import Derived.Test.YtkfmblpcfgdgpaaPure
namespace Go.Proofs.Ytkfmblpcfgdgpaa
open Go.RowKit

set_option maxRecDepth 100000 in
set_option maxHeartbeats 2000000 in
theorem rNet_c (n : Int) (L : List NodeT) (v : Value) (w : World) (hN : NodesAt w v L) :
    Calls Try.prog 32 #[.agg #[.int .i64 n, v]] w fun e w' => e = .returned (.bool (validNet ⟨n, L⟩)) ∧ Below w.heap.size w w' := by
  have hB1 : Below w.heap.size w (w.alloc (.cells #[.int .i64 n, v] 24)) := (Below.refl _ w).alloc (Nat.le_refl _) _
  have hx := NetVar.new w n v 24
  replace hN := hN.below hB1
  by_cases hr : 0 ≤ n ∧ n ≤ 128 ∧ 1 ≤ L.length ∧ L.length ≤ 65536
  · obtain ⟨r1, r2, r3, r4⟩ := hr
    obtain ⟨p, c, rfl, h⟩ := hN
    obtain ⟨b, off, rfl, hN⟩ := h.resolve_left (by intro e; rw [e] at r3; simp at r3)
    have n1 : ¬ n < 0 := by omega
    have n2 : ¬ 128 < n := by omega
    have n3 : ¬ (L.length : Int) < 1 := by omega
    have n4 : ¬ 65536 < (L.length : Int) := by omega
    have HN := hid hN
    clear hN h
    go_enter Try.func32, Try.ntmps32
    go_wp2_with fail
    have hsz := hB1.size
    generalize hw1 : w.alloc (.cells #[.int .i64 n, .slice (some ⟨b, off, none⟩) L.length c] 24) = w1 at *
    go_loopw [3] (fun i wr => ∃ k : Nat, k ≤ L.length ∧ i = .int .i64 k ∧ Hid (formedTo n L k) ∧ Below w1.heap.size w1 wr) (fun i _ => L.length - (intOf i).toNat)
    case atStart => exact ⟨0, Nat.zero_le _, rfl, fun i _ h => by omega, Below.refl _ _⟩
    case round =>
      obtain ⟨k, hk, rfl, hf, hB⟩ := hrel
      have hc1 := (hx.below hB).n
      have hc2 := (hx.below hB).l
      have lx : w.heap.size < wr.heap.size := cell_lt hc1
      by_cases hlt : k < L.length
      · obtain ⟨u, hu⟩ := HN.out k hlt
        have hu' := hu.below hB
        have d0 := hu'.kind
        have d1 := hu'.lit
        have d2 := hu'.ins
        have hI := hu'.ints
        have hl := hu'.len
        have lb : b < wr.heap.size := cell_lt d0
        have z1 : (0 : Int) ≤ (k : Int) ∧ (k : Int) < (L.length : Int) := by omega
        have HS := hid (fun h => formedTo_succ hf.out hlt h)
        have HV := hid (fun h => valid_bad (n := n) (L := L) hlt h)
        have hBs := hB.size
        clear hu hu'
        generalize hxx : L[k] = x at *
        obtain ⟨xk, xl, xi⟩ := x
        have hI0 := hI
        obtain ⟨p2, c2, e2, _⟩ := hI0
        subst e2
        cases hfm : formed ⟨xk, xl, xi⟩ n k
        · have hv := HV.out hfm
          have q := fun x => rFormed_c xk xl xi _ n k _ (hI.below (ext_below wr x)) hl
          rw [hfm] at q
          go_wp2_with fail
          refine wp_region_pure (by kernel_rfl) (by kernel_rfl) ?_
          repeat (go_big_quiet_step ((first | (go_at_call 46; exact Calls.ext_of (q _)))))
          refine wpQuiet_nil ?_
          intro w2 hb2
          go_wp2_with fail
          go_ret
          exact ⟨by rw [hv]; rfl, hB1.trans ((hB.trans (hb2.mono hBs)).mono hsz)⟩
        · have q := fun x => rFormed_c xk xl xi _ n k _ (hI.below (ext_below wr x)) hl
          rw [hfm] at q
          go_wp2_with fail
          refine wp_region_pure (by kernel_rfl) (by kernel_rfl) ?_
          repeat (go_big_quiet_step ((first | (go_at_call 46; exact Calls.ext_of (q _)))))
          refine wpQuiet_nil ?_
          intro w2 hb2
          go_wp2_with fail
          go_roundw
          case rel => exact ⟨k + 1, by omega, by go_num, HS.out hfm, hB.trans (hb2.mono hBs)⟩
          case measure => simp [intOf]; omega
      · obtain rfl : k = L.length := by omega
        have hv := valid_yes (n := n) (L := L) ⟨r1, r2, r3, r4⟩ hf.out
        go_wp2
        go_ret
        exact ⟨by rw [hv]; rfl, hB1.trans (hB.mono hsz)⟩
  · have hv := hid (valid_no hr)
    obtain ⟨p, c, rfl, _⟩ := hN
    have hor : n < 0 ∨ (¬ n < 0 ∧ 128 < n) ∨ (¬ n < 0 ∧ ¬ 128 < n ∧ (L.length : Int) < 1) ∨ (¬ n < 0 ∧ ¬ 128 < n ∧ ¬ (L.length : Int) < 1 ∧ 65536 < (L.length : Int)) := by omega
    clear hr
    rcases hor with h1 | ⟨h1, h2⟩ | ⟨h1, h2, h3⟩ | ⟨h1, h2, h3, h4⟩ <;>
    · go_enter Try.func32, Try.ntmps32
      go_wp2
      go_ret
      exact ⟨by rw [hv.out]; rfl, hB1⟩
end Go.Proofs.Ytkfmblpcfgdgpaa
