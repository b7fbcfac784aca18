/- Walks of the package vars: what each function of sets computes. -/
import Derived.Test.YtpdbfbjfodckgaaDoorRows
import Derived.Test.YtpdbfbjfodckgaaDoorVPlain
import Derived.WalkKit
import Derived.WalkSpells
import Derived.WalkLawsBesides
import Derived.Handy
import Derived.BigQuiet
import Derived.Deep.QuietTactic
namespace Go.Proofs.YtpdbfbjfodckgaaDoor
open Go.RowKit

abbrev encS (s : VS) : Value := .agg #[.int .u64 ((lw s).toNat : Int), .int .u64 ((hw s).toNat : Int)]
attribute [local go_sem] bits_or bits_and bits_andNot

set_option maxHeartbeats 400000 in
theorem place_no (v : Int) (w : World) (h : v < 1 ∨ 128 < v) :
    Calls Tryd.prog 74 #[.int .i64 v] w fun e w' => e = .returned (.tuple #[.int .i64 0, .int .u64 0, .bool false]) ∧ w = w' := by
  by_cases h1 : v < 1
  · go_enter Tryd.func74, Tryd.ntmps74
    go_wp2
    go_ret3
    exact ⟨rfl, rfl⟩
  · have h2 : 128 < v := by omega
    go_enter Tryd.func74, Tryd.ntmps74
    go_wp2
    go_ret3
    exact ⟨rfl, rfl⟩
set_option maxHeartbeats 400000 in
theorem place_low (v : Int) (w : World) (h1 : 1 ≤ v) (h2 : v ≤ 64) :
    Calls Tryd.prog 74 #[.int .i64 v] w fun e w' => e = .returned (.tuple #[.int .i64 0, .int .u64 ((lw (one v)).toNat : Int), .bool true]) ∧ w = w' := by
  have h3 : ¬ v < 1 := by omega
  have h4 : ¬ 128 < v := by omega
  rw [lo_one h1 h2]
  have hq : (v - 1) / 64 = 0 := by omega
  go_enter Tryd.func74, Tryd.ntmps74
  go_wp2
  go_ret3
  exact ⟨rfl, rfl⟩
set_option maxHeartbeats 400000 in
theorem place_high (v : Int) (w : World) (h1 : 65 ≤ v) (h2 : v ≤ 128) :
    Calls Tryd.prog 74 #[.int .i64 v] w fun e w' => e = .returned (.tuple #[.int .i64 1, .int .u64 ((hw (one v)).toNat : Int), .bool true]) ∧ w = w' := by
  have h3 : ¬ v < 1 := by omega
  have h4 : ¬ 128 < v := by omega
  rw [hi_one h1 h2]
  have hq : (v - 1) / 64 = 1 := by omega
  go_enter Tryd.func74, Tryd.ntmps74
  go_wp2
  go_ret3
  exact ⟨rfl, rfl⟩

set_option maxHeartbeats 400000 in
theorem With_c (s : VS) (v : Int) (w : World) :
    Calls Tryd.prog 55 #[encS s, .int .i64 v] w fun e w' => e = .returned (encS (withV s v)) ∧ Below w.heap.size w w' := by
  by_cases h : v < 1 ∨ 128 < v
  · rw [withV_no h]
    go_enter Tryd.func55, Tryd.ntmps55
    go_wp2_with (go_at_call 74; refine (place_no _ _ h).mono ?_; rintro e w' ⟨rfl, rfl⟩)
    go_returns
    refine ⟨rfl, ?_⟩
    go_grown
  · by_cases h2 : v ≤ 64
    · have h3 : 1 ≤ v := by omega
      have e : encS (withV s v) = .agg #[.int .u64 ((or64 (lw s) (lw (one v))).toNat : Int), .int .u64 ((hw s).toNat : Int)] := by
        rw [encS, lo_withV, hi_withV, hi_one_low h2, or64_zero]
      rw [e]
      clear e
      go_enter Tryd.func55, Tryd.ntmps55
      go_wp2_with (go_at_call 74; refine (place_low _ _ h3 h2).mono ?_; rintro e w' ⟨rfl, rfl⟩)
      go_returns
      refine ⟨rfl, ?_⟩
      go_grown
    · have h3 : 65 ≤ v := by omega
      have h4 : v ≤ 128 := by omega
      have e : encS (withV s v) = .agg #[.int .u64 ((lw s).toNat : Int), .int .u64 ((or64 (hw s) (hw (one v))).toNat : Int)] := by
        rw [encS, lo_withV, hi_withV, lo_one_high h3, or64_zero]
      rw [e]
      clear e
      go_enter Tryd.func55, Tryd.ntmps55
      go_wp2_with (go_at_call 74; refine (place_high _ _ h3 h4).mono ?_; rintro e w' ⟨rfl, rfl⟩)
      go_returns
      refine ⟨rfl, ?_⟩
      go_grown
set_option maxHeartbeats 400000 in
theorem Has_c (s : VS) (v : Int) (w : World) :
    Calls Tryd.prog 78 #[encS s, .int .i64 v] w fun e w' => e = .returned (.bool (has s v)) ∧ Below w.heap.size w w' := by
  by_cases h : v < 1 ∨ 128 < v
  · have e : has s v = false := by rcases h with h | h; exact has_low h; exact has_high h
    rw [e]
    clear e
    go_enter Tryd.func78, Tryd.ntmps78
    go_wp2_with (go_at_call 74; refine (place_no _ _ h).mono ?_; rintro e w' ⟨rfl, rfl⟩)
    go_returns
    refine ⟨rfl, ?_⟩
    go_grown
  · by_cases h2 : v ≤ 64
    · have h3 : 1 ≤ v := by omega
      rw [has_lo h3 h2]
      go_enter Tryd.func78, Tryd.ntmps78
      go_wp2_with (go_at_call 74; refine (place_low _ _ h3 h2).mono ?_; rintro e w' ⟨rfl, rfl⟩)
      go_returns
      refine ⟨rfl, ?_⟩
      go_grown
    · have h3 : 65 ≤ v := by omega
      have h4 : v ≤ 128 := by omega
      rw [has_hi h3 h4]
      go_enter Tryd.func78, Tryd.ntmps78
      go_wp2_with (go_at_call 74; refine (place_high _ _ h3 h4).mono ?_; rintro e w' ⟨rfl, rfl⟩)
      go_returns
      refine ⟨rfl, ?_⟩
      go_grown
set_option maxHeartbeats 400000 in
theorem Union_c (a b : VS) (w : World) :
    Calls Tryd.prog 46 #[encS a, encS b] w fun e w' => e = .returned (encS (a ||| b)) ∧ Below w.heap.size w w' := by
  have e : encS (a ||| b) = .agg #[.int .u64 ((or64 (lw a) (lw b)).toNat : Int), .int .u64 ((or64 (hw a) (hw b)).toNat : Int)] := by
    rw [encS, lo_or, hi_or]
  rw [e]
  clear e
  go_enter Tryd.func46, Tryd.ntmps46
  go_wp2
  go_returns
  refine ⟨rfl, ?_⟩
  go_grown
set_option maxHeartbeats 400000 in
theorem Cut_c (a b : VS) (w : World) :
    Calls Tryd.prog 45 #[encS a, encS b] w fun e w' => e = .returned (encS (a &&& b)) ∧ Below w.heap.size w w' := by
  have e : encS (a &&& b) = .agg #[.int .u64 ((and64 (lw a) (lw b)).toNat : Int), .int .u64 ((and64 (hw a) (hw b)).toNat : Int)] := by
    rw [encS, lo_and, hi_and]
  rw [e]
  clear e
  go_enter Tryd.func45, Tryd.ntmps45
  go_wp2
  go_returns
  refine ⟨rfl, ?_⟩
  go_grown
set_option maxHeartbeats 400000 in
theorem Minus_c (a b : VS) (w : World) :
    Calls Tryd.prog 81 #[encS a, encS b] w fun e w' => e = .returned (encS (minus a b)) ∧ Below w.heap.size w w' := by
  have e : encS (minus a b) = .agg #[.int .u64 ((andn64 (lw a) (lw b)).toNat : Int), .int .u64 ((andn64 (hw a) (hw b)).toNat : Int)] := by
    rw [encS, minus, lo_minus, hi_minus]
  rw [e]
  clear e
  go_enter Tryd.func81, Tryd.ntmps81
  go_wp2
  go_returns
  refine ⟨rfl, ?_⟩
  go_grown
end Go.Proofs.YtpdbfbjfodckgaaDoor
