/- Walks: forms of nodes, by the program and by the reference. -/
import Derived.Test.YtpdbfbjfodckgaaDoorNWalk
namespace Go.Proofs.YtpdbfbjfodckgaaDoor
open Go.RowKit

def bad1 (before i : Int) : Bool := decide (i < 0) || decide (before ≤ i)
theorem formed1_c (i before : Int) (pb : Nat) (w : World) (hc : w.cell? ⟨pb, 0, none⟩ = some (.int .i64 before)) :
    Calls Tryd.prog 71 #[.int .i64 i, .pointer (some ⟨pb, 0, none⟩)] w fun e w' => e = .returned (.bool (bad1 before i)) ∧ w = w' := by
  by_cases h : i < 0
  · go_enter Tryd.func71, Tryd.ntmps71
    go_wp2
    go_ret
    exact ⟨by unfold bad1; simp [h], rfl⟩
  · go_enter Tryd.func71, Tryd.ntmps71
    go_wp2
    go_ret
    exact ⟨by unfold bad1; rw [show decide (i < 0) = false from decide_eq_false (by omega)]; rfl, rfl⟩
theorem badIn_take (l : List Int) (before : Int) (k : Nat) (h : k < l.length) : badIn (l.take (k + 1)) before = (badIn (l.take k) before || bad1 before l[k]) := by
  unfold badIn bad1
  rw [List.take_succ_eq_append_getElem h, List.any_append]
  simp
theorem badIn_true (l : List Int) (before : Int) (k : Nat) (h : k < l.length) (hb : bad1 before l[k] = true) : badIn l before = true := by
  unfold badIn
  rw [List.any_eq_true]
  exact ⟨l[k], List.getElem_mem h, hb⟩
set_option maxRecDepth 100000 in
set_option maxHeartbeats 1000000 in
theorem IndexFunc_c (v : Value) (l : List Int) (before : Int) (pb : Nat) (w : World) (hI : IntsAt w v l) (hc : w.cell? ⟨pb, 0, none⟩ = some (.int .i64 before)) (hl : l.length ≤ 140737488355328) :
    Calls Tryd.prog 79 #[v, .func (.func 71) #[] #[.pointer (some ⟨pb, 0, none⟩)]] w fun e w' => ∃ r, e = .returned (.int .i64 r) ∧ decide (0 ≤ r) = badIn l before ∧ w = w' := by
  obtain ⟨p, c, rfl, hI⟩ := hI
  have HI := hid hI
  clear hI
  go_enter Tryd.func79, Tryd.ntmps79
  go_wp2
  go_loop [8] (fun i => ∃ k : Nat, k ≤ l.length ∧ i = .int .i64 k ∧ Hid (badIn (l.take k) before = false)) (fun i => l.length - (intOf i).toNat)
  case atStart => exact ⟨0, Nat.zero_le _, rfl, rfl⟩
  case round =>
    obtain ⟨k, hk, rfl, hb⟩ := hrel
    by_cases hlt : k < l.length
    · obtain ⟨b, off, rfl, hI⟩ := HI.out.resolve_left (by intro e; rw [e] at hlt; simp at hlt)
      have hc1 := hI k hlt
      rw [List.getElem?_eq_getElem hlt, Option.getD_some] at hc1
      have HT := hid (badIn_take l before k hlt)
      have HF := hid (badIn_true l before k hlt)
      clear hI
      generalize l[k] = x at *
      cases hx : bad1 before x
      · go_wp2_with (go_at_call 71; refine (formed1_c x before pb _ hc).mono ?_; rintro e w1 ⟨rfl, rfl⟩; rw [hx])
        go_round
        case rel => exact ⟨k + 1, by omega, by go_num, by show badIn _ _ = false; rw [HT.out, hb.out, hx]; rfl⟩
        case measure => simp [intOf]; omega
      · go_wp2_with (go_at_call 71; refine (formed1_c x before pb _ hc).mono ?_; rintro e w1 ⟨rfl, rfl⟩; rw [hx])
        go_ret
        exact ⟨_, rfl, by rw [HF.out hx]; simp, rfl⟩
    · obtain rfl : k = l.length := by omega
      go_wp2
      go_ret
      exact ⟨_, rfl, by have := hb.out; rw [List.take_length] at this; rw [this]; rfl, rfl⟩
theorem ContainsFunc_c (v : Value) (l : List Int) (before : Int) (pb : Nat) (w : World) (hI : IntsAt w v l) (hc : w.cell? ⟨pb, 0, none⟩ = some (.int .i64 before)) (hl : l.length ≤ 140737488355328) :
    Calls Tryd.prog 67 #[v, .func (.func 71) #[] #[.pointer (some ⟨pb, 0, none⟩)]] w fun e w' => e = .returned (.bool (badIn l before)) ∧ w = w' := by
  go_enter Tryd.func67, Tryd.ntmps67
  go_wp2_with (go_at_call 79; refine (IndexFunc_c v l before pb _ hI hc hl).mono ?_; rintro e w1 ⟨r, rfl, hr, rfl⟩)
  go_ret
  exact ⟨rfl, rfl⟩
end Go.Proofs.YtpdbfbjfodckgaaDoor
