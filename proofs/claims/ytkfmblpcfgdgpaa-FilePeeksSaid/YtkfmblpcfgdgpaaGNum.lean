/- Walks: the reference's reader of numbers. -/
import Derived.Test.YtkfmblpcfgdgpaaFOne3
import Derived.BigQuiet
namespace Go.Proofs.Ytkfmblpcfgdgpaa
open Go.RowKit

theorem wrap_in (x : Nat) (h : x < 9223372036854775808) : wrap64 (x : Int) = (x : Int) := by unfold wrap64; omega
theorem pow128_le : ∀ k : Nat, k ≤ 4 → 128 ^ k ≤ 268435456 := by
  intro k h
  obtain rfl | rfl | rfl | rfl | rfl : k = 0 ∨ k = 1 ∨ k = 2 ∨ k = 3 ∨ k = 4 := by omega
  all_goals decide
theorem num_facts {k val cn P : Nat} (hP : P = 128 ^ k) (hk : k ≤ 4) (hv : val < 128 ^ k) : ∃ q : Nat, q = cn % 128 * P ∧ P * 128 = 128 ^ (k + 1) ∧ val + q < 128 ^ (k + 1) ∧
    wrap64 ((cn : Int) % 128 * (P : Int)) = (q : Int) ∧ P ≤ 268435456 ∧ val ≤ 268435456 ∧ q ≤ 34091302912 := by
  have h1 : P ≤ 268435456 := hP.symm ▸ pow128_le k hk
  have h2 : val < P := Nat.lt_of_lt_of_eq hv hP.symm
  obtain ⟨q, hq⟩ : ∃ q, q = cn % 128 * P := ⟨_, rfl⟩
  have h3 : q ≤ 127 * P := by
    rw [hq]
    have : cn % 128 ≤ 127 := by omega
    exact Nat.mul_le_mul_right P this
  have e : (cn : Int) % 128 * (P : Int) = (q : Int) := by rw [hq]; simp
  have e2 : P * 128 = 128 ^ (k + 1) := by rw [Nat.pow_succ, ← hP]
  have h4 : val + q < P * 128 := by omega
  refine ⟨q, hq, e2, Nat.lt_of_lt_of_eq h4 e2, ?_, h1, by omega, by omega⟩
  rw [e]; exact wrap_in q (by omega)
/-- The reader's box. -/
def RdBox (w : World) (px : Nat) (v : Value) (a : Nat) (bad : Bool) : Prop := w.heap[px]? = some (.cells #[v, .int .i64 (a : Int), .bool bad] 67 (0, 0))
/-- The reader stands at a; all else is as it was. -/
structure RSt (w wr : World) (px : Nat) (v : Value) (a : Nat) (bad : Bool) : Prop where
  box : RdBox wr px v a bad
  grew : w.grownBy wr (some px)
theorem RSt.refl {w : World} {px : Nat} {v : Value} {a : Nat} {bad : Bool} (h : RdBox w px v a bad) : RSt w w px v a bad := ⟨h, World.grownBy.refl _ _⟩
theorem RSt.trans {w w1 w2 : World} {px : Nat} {v : Value} {a a' : Nat} {bad bad' : Bool} (h : RSt w w1 px v a bad) (g : RSt w1 w2 px v a' bad') : RSt w w2 px v a' bad' := ⟨g.box, grownBy_trans h.grew g.grew⟩
theorem RSt.drewN {w w1 : World} {px : Nat} {v : Value} {a : Nat} {bad : Bool} (h : RSt w w1 px v a bad) (n : Nat) : RSt w (w1.drewN n) px v a bad :=
  ⟨h.box, grownBy_trans h.grew (grownBy_of_below (below_drewN (Below.refl _ w1) n) _)⟩
theorem RSt.setBad {w w1 : World} {px : Nat} {v : Value} {a : Nat} {bad : Bool} (h : RSt w w1 px v a bad) (b2 : Bool) : RSt w (w1.setCell ⟨px, 2, none⟩ (.bool b2)) px v a b2 :=
  ⟨by have := block_set h.box (.bool b2) 2; simpa [RdBox] using this, grownBy_trans h.grew (grownBy_set w1 px 2 _)⟩
theorem RSt.setAt {w w1 : World} {px : Nat} {v : Value} {a : Nat} {bad : Bool} (h : RSt w w1 px v a bad) (a2 : Nat) : RSt w (w1.setCell ⟨px, 1, none⟩ (.int .i64 (a2 : Int))) px v a2 bad :=
  ⟨by have := block_set h.box (.int .i64 (a2 : Int)) 1; simpa [RdBox] using this, grownBy_trans h.grew (grownBy_set w1 px 1 _)⟩
def RnPost (most a : Nat) (l : List UInt8) (px : Nat) (v : Value) (w : World) (e : Ending) (w' : World) : Prop :=
  match rd most 0 0 (l.drop a) with
  | some (n, r) => ∃ a', r = l.drop a' ∧ a ≤ a' ∧ a' ≤ l.length ∧ e = .returned (.int .i64 (n : Int)) ∧ RSt w w' px v a' false
  | none => ∃ a', a' ≤ l.length ∧ e = .returned (.int .i64 0) ∧ RSt w w' px v a' true
theorem rnPost_no {most a : Nat} {l : List UInt8} {px : Nat} {v : Value} {w w' : World} {a' : Nat} (h : rd most 0 0 (l.drop a) = none) (h2 : a' ≤ l.length) (hat : RSt w w' px v a' true) : RnPost most a l px v w (.returned (.int .i64 0)) w' := by
  unfold RnPost; rw [h]; exact ⟨a', h2, rfl, hat⟩
theorem rnPost_yes {most a n : Nat} {l : List UInt8} {px : Nat} {v : Value} {w w' : World} {a' : Nat} (h : rd most 0 0 (l.drop a) = some (n, l.drop a')) (h1 : a ≤ a') (h2 : a' ≤ l.length) (hat : RSt w w' px v a' false) : RnPost most a l px v w (.returned (.int .i64 (n : Int))) w' := by
  unfold RnPost; rw [h]; exact ⟨a', rfl, h1, h2, rfl, hat⟩
set_option maxRecDepth 100000 in
set_option maxHeartbeats 1000000 in
theorem rnumber_c (most : Nat) (hm : most ≤ 16777216) (a : Nat) (l : List UInt8) (v : Value) (px : Nat) (w : World) (hI : BytesAt w v l) (hl : l.length ≤ 140737488355328)
    (ha : a ≤ l.length) (hpx : RdBox w px v a false) (hv : ∀ b n c, v = .slice (some b) n c → b.block ≠ px) :
    Calls Try.prog 42 #[.pointer (some ⟨px, 0, none⟩), .int .i64 most] w (RnPost most a l px v w) := by
  obtain ⟨p, c, rfl, hI0⟩ := hI
  have HI := hid hI0
  clear hI0
  go_enter Try.func42, Try.ntmps42
  go_wp2_with fail
  go_loopw [5, 6, 7] (fun x s j wr => ∃ k val P : Nat, k ≤ 5 ∧ j = .int .i64 k ∧ s = .int .i64 (P : Int) ∧ x = .int .i64 val ∧ Hid (P = 128 ^ k) ∧ Hid (val < 128 ^ k) ∧ a + k ≤ l.length ∧ RSt w wr px (.slice p l.length c) (a + k) false ∧ Hid (rd most k val (l.drop (a + k)) = rd most 0 0 (l.drop a))) (fun _ _ j _ => 6 - (intOf j).toNat)
  case atStart => exact ⟨0, 0, 1, by omega, rfl, rfl, rfl, rfl, (by decide : (0 : Nat) < 128 ^ 0), ha, RSt.refl hpx, rfl⟩
  case round =>
    obtain ⟨k, val, P, hk, rfl, rfl, rfl, HP, hval, hak, hat, hrd⟩ := hrel
    obtain ⟨⟨b0, b1, b2⟩, f0, f1, f2⟩ := box3 hat.box
    obtain ⟨ak, hakk⟩ : ∃ ak, ak = a + k := ⟨_, rfl⟩
    rw [← hakk] at hak hat hrd b1
    by_cases h2 : k < 5
    · by_cases h1 : ak < l.length
      · have hge : decide ((l.length : Int) ≤ (ak : Int)) = false := decide_eq_false (by omega)
        obtain ⟨b, off, rfl, hI⟩ := HI.out.resolve_left (by intro e; rw [e] at h1; simp at h1)
        have hc := hI ak h1
        have hc1 : wr.cell? ⟨b, off + ak, none⟩ = some (encB l[ak]) := by
          rw [World.cell?_of_block (w := w) (hat.grew.block b (cell_lt hc) (by simpa using hv _ _ _ rfl))]; exact hc
        have hdr : l.drop ak = l[ak] :: l.drop (ak + 1) := List.drop_eq_getElem_cons h1
        have hcn : l[ak].toNat < 256 := l[ak].toNat_lt
        have hrd1 := hrd.out
        rw [hdr, rd, if_neg (by omega)] at hrd1
        generalize hx : l[ak].toNat = cn at *
        have hc2 : wr.cell? ⟨b, off + ak, none⟩ = some (.int .u8 (cn : Int)) := by rw [hc1]; show some (Value.int .u8 (l[ak].toNat : Int)) = _; rw [hx]
        obtain ⟨q, hq, hP2, hnv, y1, y2, y3, y4⟩ := num_facts (cn := cn) HP.out (show k ≤ 4 by omega) hval.out
        rw [← HP.out, ← hq] at hrd1
        have HP2 := hid hP2
        have HNV := hid hnv
        clear hq hP2
        have HBOX := hid hat
        have z1 : (0 : Int) ≤ (ak : Int) ∧ (ak : Int) < (l.length : Int) := by omega
        have z2 : IntKind.i64.wrap ((ak : Int) + 1) = (ak : Int) + 1 := IntWalk.i64_in _ (by omega)
        have hlt2 : (k : Int) < 5 := by omega
        have HAKK := hid hakk
        clear hc hc1 hx hdr hI hrd hat hakk hnv hval HP
        by_cases h3 : cn < 128
        · rw [if_pos h3] at hrd1
          have d3 : decide ((cn : Int) < 128) = true := decide_eq_true (by omega)
          by_cases h4 : (cn = 0 ∧ 0 < k) ∨ most < val + q
          · rw [if_pos h4] at hrd1
            have HN := hid hrd1.symm
            clear hrd1
            by_cases h5 : most < val + q
            · have d4 : decide ((most : Int) < (val : Int) + (q : Int)) = true := decide_eq_true (by omega)
              have d6 : decide (most < val + q) = true := decide_eq_true (by omega)
              clear h4
              go_wp2_with fail
              go_quiet (fail)
              go_wp2_with fail
              go_region
              go_wp2_with fail
              go_ret
              exact rnPost_no HN.out (by omega) (((HBOX.out.drewN _).setAt (ak + 1)).setBad true)
            · have d4 : decide ((most : Int) < (val : Int) + (q : Int)) = false := decide_eq_false (by omega)
              obtain ⟨g1, g2⟩ := h4.resolve_right h5
              have e0 : ((cn : Int) == 0) = true := by simp [g1]
              have d5 : decide ((0 : Int) < (k : Int)) = true := decide_eq_true (by omega)
              clear h4 g1
              go_wp2_with fail
              go_quiet (fail)
              go_wp2_with fail
              go_region
              go_wp2_with fail
              go_ret
              exact rnPost_no HN.out (by omega) (((HBOX.out.drewN _).setAt (ak + 1)).setBad true)
          · rw [if_neg h4] at hrd1
            have HN := hid hrd1.symm
            clear hrd1
            have d4 : decide ((most : Int) < (val : Int) + (q : Int)) = false := decide_eq_false (by omega)
            have d6 : decide (most < val + q) = false := decide_eq_false (by omega)
            by_cases g1 : cn = 0
            · have e0 : ((cn : Int) == 0) = true := by simp [g1]
              have d5 : decide ((0 : Int) < (k : Int)) = false := decide_eq_false (by omega)
              have d9 : decide (0 < k) = false := decide_eq_false (by omega)
              clear h4 g1
              go_wp2_with fail
              go_quiet (fail)
              go_wp2_with fail
              go_region
              go_wp2_with fail
              all_goals
                go_ret
                exact rnPost_yes HN.out (by have := HAKK.out; omega) (by omega) (((HBOX.out.drewN _).setAt (ak + 1)).setBad false)
            · have e0 : ((cn : Int) == 0) = false := by simp [g1]
              have d5 : (decide ((0 : Int) < (k : Int)) = true ∧ decide (0 < k) = true) ∨ (decide ((0 : Int) < (k : Int)) = false ∧ decide (0 < k) = false) := by
                by_cases h0 : 0 < k
                · exact .inl ⟨decide_eq_true (by omega), decide_eq_true h0⟩
                · exact .inr ⟨decide_eq_false (by omega), decide_eq_false h0⟩
              clear h4 g1
              rcases d5 with ⟨d5, d9⟩ | ⟨d5, d9⟩
              all_goals
                go_wp2_with fail
                go_quiet (fail)
                go_wp2_with fail
                go_region
                go_wp2_with fail
                go_ret
                exact rnPost_yes HN.out (by have := HAKK.out; omega) (by omega) (((HBOX.out.drewN _).setAt (ak + 1)).setBad false)
        · rw [if_neg h3] at hrd1
          have d3 : decide ((cn : Int) < 128) = false := decide_eq_false (by omega)
          have HN := hid hrd1
          clear hrd1
          go_wp2_with fail
          go_quiet (fail)
          go_wp2_with fail
          go_region
          go_wp2_with fail
          go_roundw
          case rel =>
            have e1 := HAKK.out
            have e2 : a + (k + 1) = ak + 1 := by omega
            exact ⟨k + 1, val + q, P * 128, by omega, by go_num, by go_num, by go_num, HP2, HNV, by omega, by rw [e2]; exact (HBOX.out.drewN _).setAt (ak + 1), by rw [e2]; exact HN⟩
          case measure => simp [intOf]; omega
      · have hge : decide ((l.length : Int) ≤ (ak : Int)) = true := decide_eq_true (by omega)
        have HN : Hid (rd most 0 0 (l.drop a) = none) := by
          show _ = _
          rw [← hrd.out, List.drop_eq_nil_of_le (by omega), rd]
        have HAT := hid hat
        clear hat hrd
        go_wp2_with fail
        go_quiet (fail)
        go_wp2_with fail
        go_ret
        exact rnPost_no HN.out hak ((HAT.out.drewN _).setBad true)
    · obtain rfl : k = 5 := by omega
      have HN : Hid (rd most 0 0 (l.drop a) = none) := by
        show _ = _
        rw [← hrd.out]
        cases hd : l.drop ak with
        | nil => rw [rd]
        | cons x t => rw [rd, if_pos (by omega)]
      have HAT := hid hat
      clear hat hrd
      go_wp2_with fail
      go_ret
      exact rnPost_no HN.out hak (HAT.out.setBad true)
end Go.Proofs.Ytkfmblpcfgdgpaa
