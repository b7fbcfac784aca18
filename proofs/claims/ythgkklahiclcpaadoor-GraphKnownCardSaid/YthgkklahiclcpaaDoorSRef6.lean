/- Walks: the reference's MinFill, MinDegree; equal lists. -/
import Derived.Test.YthgkklahiclcpaaDoorSRef5
namespace Go.Proofs.YthgkklahiclcpaaDoor
open Go.RowKit

set_option maxRecDepth 100000 in
set_option maxHeartbeats 1000000 in
theorem rMinFill_c (v : Value) (L : List VS) (w : World) (hI : SetsAt w v L) (hL : L.length ≤ 140737488355328) :
    Calls Tryd.prog 16 #[v] w (OrderPost fillC L w) := by
  have H := hid (rOrderFill_c v L w hI hL)
  go_enter Tryd.func16, Tryd.ntmps16
  go_wp2_with fail
  refine H.out.mono ?_
  rintro e w2 ⟨v2, rfl, h2, hb2⟩
  go_wp2_with fail
  go_ret
  exact ⟨v2, rfl, h2, hb2⟩
set_option maxRecDepth 100000 in
set_option maxHeartbeats 1000000 in
theorem rMinDegree_c (v : Value) (L : List VS) (w : World) (hI : SetsAt w v L) (hL : L.length ≤ 140737488355328) :
    Calls Tryd.prog 18 #[v] w (OrderPost degC L w) := by
  have H := hid (rOrderDeg_c v L w hI hL)
  go_enter Tryd.func18, Tryd.ntmps18
  go_wp2_with fail
  refine H.out.mono ?_
  rintro e w2 ⟨v2, rfl, h2, hb2⟩
  go_wp2_with fail
  go_ret
  exact ⟨v2, rfl, h2, hb2⟩
set_option maxRecDepth 100000 in
set_option maxHeartbeats 1000000 in
theorem sameInts_c (u v : Value) (a b : List Int) (w : World) (hu : IntsAt w u a) (hv : IntsAt w v b) (ha : a.length ≤ 140737488355328) (_hb : b.length ≤ 140737488355328) :
    Calls Tryd.prog 14 #[u, v] w fun e w' => e = .returned (.bool (decide (a = b))) ∧ Below w.heap.size w w' := by
  obtain ⟨p, c, rfl, hp⟩ := hu
  obtain ⟨q, d, rfl, hq⟩ := hv
  have HP := hid hp
  have HQ := hid hq
  clear hp hq
  by_cases hlen : a.length = b.length
  · have hl : ((a.length : Int) != (b.length : Int)) = false := by simp [hlen]
    have HL := hid hlen
    rw [← hlen]
    clear hlen
    have hl : ((a.length : Int) != (a.length : Int)) = false := by simp
    go_enter Tryd.func14, Tryd.ntmps14
    go_wp2
    go_loopw [5] (fun i wr => ∃ k : Nat, k ≤ a.length ∧ i = .int .i64 k ∧ eqTo a b k ∧ Below w.heap.size w wr) (fun i _ => a.length - (intOf i).toNat)
    case atStart => exact ⟨0, Nat.zero_le _, rfl, fun i hi => by omega, Below.refl _ _⟩
    case round =>
      obtain ⟨k, hk, rfl, he, hB⟩ := hrel
      by_cases hlt : k < a.length
      · obtain ⟨b1, o1, rfl, hc1⟩ := HP.out.resolve_left (by intro e; rw [e] at hlt; simp at hlt)
        obtain ⟨b2, o2, rfl, hc2⟩ := HQ.out.resolve_left (by intro e; have := HL.out; rw [e] at this; simp at this; rw [this] at hlt; simp at hlt)
        have h1 := hc1 k hlt
        have h2 := hc2 k (by rw [← HL.out]; exact hlt)
        have d1 := (hB.cell (p := ⟨b1, o1 + k, none⟩) (cell_lt h1)).trans h1
        have d2 := (hB.cell (p := ⟨b2, o2 + k, none⟩) (cell_lt h2)).trans h2
        have z1 : (0 : Int) ≤ (k : Int) := by omega
        have z2 : (k : Int) < (a.length : Int) := by omega
        have HE := hid he
        clear hc1 hc2 h1 h2 he
        by_cases heq : a[k]?.getD 0 = b[k]?.getD 0
        · have HE2 := hid (show eqTo a b (k + 1) from fun i hi => by
            by_cases e : i = k
            · subst e; exact heq
            · exact HE.out i (by omega))
          rw [← heq] at d2
          clear heq
          generalize a[k]?.getD 0 = x at d1 d2
          have hx : (x != x) = false := by simp
          go_wp2_with fail
          go_quiet (fail)
          go_wp2_with fail
          go_roundw
          case rel => exact ⟨k + 1, by omega, by go_num, HE2.out, below_drewN hB _⟩
          case measure => simp [intOf]; omega
        · have hne : decide (a = b) = false := by
            rw [decide_eq_false_iff_not]; intro e; rw [e] at heq; exact heq rfl
          have HN := hid hne
          have hx : (a[k]?.getD 0 != b[k]?.getD 0) = true := by simpa using heq
          clear hne heq
          generalize a[k]?.getD 0 = x at d1 hx
          generalize b[k]?.getD 0 = y at d2 hx
          go_wp2_with fail
          go_quiet (fail)
          go_wp2_with fail
          go_ret
          exact ⟨by rw [HN.out]; rfl, below_drewN hB _⟩
      · obtain rfl : k = a.length := by omega
        have HT := hid (show decide (a = b) = true from decide_eq_true (eq_of_eqTo HL.out he))
        clear he
        go_wp2_with fail
        go_ret
        exact ⟨by rw [HT.out]; rfl, hB⟩
  · have hl : ((a.length : Int) != (b.length : Int)) = true := by simp; omega
    have hne : decide (a = b) = false := by
      rw [decide_eq_false_iff_not]; intro e; rw [e] at hlen; exact hlen rfl
    rw [hne]
    clear hne hlen
    go_enter Tryd.func14, Tryd.ntmps14
    go_wp2_with fail
    go_ret
    exact ⟨rfl, Below.refl _ _⟩
end Go.Proofs.YthgkklahiclcpaaDoor
