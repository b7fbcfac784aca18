/- Walk of the reference censusref21.Valid. -/
import Derived.Test.YtpdbfbjfodckgaaDoorHRefS
namespace Go.Proofs.YtpdbfbjfodckgaaDoor
open Go.RowKit

theorem litValid_iff {l n : Int} (h0 : 0 ≤ n) (h1 : n ≤ 128) : litValid l n = (decide (l ≠ 0) && decide (-n ≤ l) && decide (l ≤ n)) := by
  unfold litValid litVar
  rw [Bool.eq_iff_iff]
  simp only [Bool.and_eq_true, decide_eq_true_eq]
  split
  · omega
  · split <;> omega
set_option maxHeartbeats 1000000 in
theorem valid05_c (l n : Int) (w : World) (h0 : 0 ≤ n) (h1 : n ≤ 128) : Calls Tryd.prog 52 #[.int .i64 l, .int .i64 n] w fun e w' => e = .returned (.bool (litValid l n)) ∧ w = w' := by
  rw [litValid_iff h0 h1]
  by_cases a : l = 0
  · subst a
    go_enter Tryd.func52, Tryd.ntmps52
    go_wp2
    go_ret
    exact ⟨rfl, rfl⟩
  · have a1 : (l != 0) = true := by simp [a]
    rw [decide_eq_true a]
    by_cases b : -n ≤ l
    · have b1 : decide (-n ≤ l) = true := decide_eq_true b
      rw [b1]
      by_cases c : l ≤ n
      · have c1 : decide (l ≤ n) = true := decide_eq_true c
        rw [c1]
        go_enter Tryd.func52, Tryd.ntmps52
        go_wp2
        go_ret
        exact ⟨rfl, rfl⟩
      · have c1 : decide (l ≤ n) = false := decide_eq_false c
        rw [c1]
        go_enter Tryd.func52, Tryd.ntmps52
        go_wp2
        go_ret
        exact ⟨rfl, rfl⟩
    · have b1 : decide (-n ≤ l) = false := decide_eq_false b
      rw [b1]
      go_enter Tryd.func52, Tryd.ntmps52
      go_wp2
      go_ret
      exact ⟨rfl, rfl⟩
theorem formed_low {x : NodeT} {n k : Int} (h : x.kind < 0 ∨ 4 < x.kind) : formed x n k = false := by
  unfold formed
  split
  · rfl
  · rw [if_neg (by omega), if_neg (by omega), if_neg (by omega)]
theorem formed_lit {x : NodeT} {n k : Int} (h : x.kind ≠ 2) (hl : x.lit ≠ 0) : formed x n k = false := by
  unfold formed
  split
  · rfl
  · split
    · simp [hl]
    · simp [hl]
theorem formed_two {x : NodeT} {n k : Int} (h : x.kind = 2) (hl : litValid x.lit n = false) : formed x n k = false := by
  unfold formed
  split
  · rfl
  · simp [h, hl]
theorem formed_ins {x : NodeT} {n k : Int} (h : x.kind < 3) (hl : x.ins ≠ []) : formed x n k = false := by
  unfold formed
  split
  · rfl
  · split
    · simp [hl]
    · split
      · simp [hl]
      · rw [if_neg (by omega)]
theorem formed_bad {x : NodeT} {n k : Int} {q : Nat} (hq : q < x.ins.length) (h : x.ins[q] < 0 ∨ k ≤ x.ins[q]) : formed x n k = false := by
  unfold formed
  rw [if_pos]
  unfold badIn
  rw [List.any_eq_true]
  exact ⟨_, List.getElem_mem hq, by simpa using h⟩
theorem formed_good {x : NodeT} {n k : Int} (h0 : 0 ≤ x.kind ∧ x.kind ≤ 4) (h1 : x.kind = 2 → litValid x.lit n = true) (h2 : x.kind ≠ 2 → x.lit = 0) (h3 : x.kind < 3 → x.ins = [])
    (h4 : ∀ i (h : i < x.ins.length), 0 ≤ x.ins[i] ∧ x.ins[i] < k) : formed x n k = true := by
  unfold formed
  have hb : badIn x.ins k = false := by
    unfold badIn
    rw [List.any_eq_false]
    intro y hy
    obtain ⟨i, hi, rfl⟩ := List.getElem_of_mem hy
    have := h4 i hi
    simp; omega
  rw [hb, if_neg (by simp)]
  split
  · rw [h2 (by omega), h3 (by omega)]; rfl
  · split
    · rename_i h
      rw [h1 h, h3 (by omega)]; rfl
    · rename_i h
      rw [if_pos (by omega), h2 h]; rfl
set_option maxRecDepth 100000 in
set_option maxHeartbeats 4000000 in
theorem valid21_c (n : Int) (L : List NodeT) (v : Value) (w : World) (hN : NodesAt w v L) :
    Calls Tryd.prog 23 #[.agg #[.int .i64 n, v]] w fun e w' => e = .returned (.bool (validNet ⟨n, L⟩)) ∧ Below w.heap.size w w' := by
  have hB1 : Below w.heap.size w (w.alloc (.cells #[.int .i64 n, v] 24)) := (Below.refl _ w).alloc (Nat.le_refl _) _
  have hx := NetVar.new w n v 24
  replace hN := hN.below hB1
  by_cases hr : 0 ≤ n ∧ n ≤ 128 ∧ 1 ≤ L.length ∧ L.length ≤ 65536
  · obtain ⟨r1, r2, r3, r4⟩ := hr
    obtain ⟨p, c, rfl, h⟩ := hN
    obtain ⟨b, off, rfl, hN⟩ := h.resolve_left (by intro e; rw [e] at r3; simp at r3)
    have n1 : ¬ n < 0 := by omega
    have n2 : ¬ 128 < n := by omega
    have n3 : ((L.length : Int) == 0) = false := by simp; intro e; rw [e] at r3; simp at r3
    have n4 : ¬ 65536 < (L.length : Int) := by omega
    have HN := hid hN
    clear hN h
    go_enter Tryd.func23, Tryd.ntmps23
    go_wp2_with fail
    have hsz := hB1.size
    generalize hw1 : w.alloc (.cells #[.int .i64 n, .slice (some ⟨b, off, none⟩) L.length c] 24) = w1 at *
    go_loopw [3] (fun i wr => ∃ k : Nat, k ≤ L.length ∧ i = .int .i64 k ∧ Hid (formedTo n L k) ∧ Hid (Below w1.heap.size w1 wr)) (fun i _ => L.length - (intOf i).toNat)
    case atStart => exact ⟨0, Nat.zero_le _, rfl, fun i _ h => by omega, Below.refl _ _⟩
    case round =>
      obtain ⟨k, hk, rfl, hf, hB⟩ := hrel
      have hc1 := (hx.below hB.out).n
      have hc2 := (hx.below hB.out).l
      have HX := hid (hx.below hB.out)
      have lx : w.heap.size < wr.heap.size := cell_lt hc1
      by_cases hlt : k < L.length
      · obtain ⟨u, hu⟩ := HN.out k hlt
        have hu' := hu.below hB.out
        have d0 := hu'.kind
        have d1 := hu'.lit
        have d2 := hu'.ins
        have HI := hid hu'.ints
        have hle := hu'.len
        have lb : b < wr.heap.size := cell_lt d0
        have z1 : (0 : Int) ≤ (k : Int) ∧ (k : Int) < (L.length : Int) := by omega
        have HS := hid (fun h => formedTo_succ hf.out hlt h)
        have HV := hid (fun h => valid_bad (n := n) (L := L) hlt h)
        have hBs := hB.out.size
        clear hu hu' hf
        generalize hxx : L[k] = x at *
        obtain ⟨xk, xl, xi⟩ := x
        obtain ⟨p2, c2, e2, _⟩ := HI.out
        subst e2
        clear hxx
        have b3 := Box3.new wr 39 (.int .i64 xk) (.int .i64 xl) (.slice p2 xi.length c2)
        have hal : Below wr.heap.size wr (wr.alloc (.cells #[.int .i64 xk, .int .i64 xl, .slice p2 xi.length c2] 39)) := (Below.refl _ wr).alloc (Nat.le_refl _) _
        have HB3 := hid b3
        have HAL := hid (hB.out.trans (hal.mono hBs))
        have HI3 := hid (HI.out.below hal)
        have HX3 := hid (HX.out.below hal)
        have HB := hid hB.out
        clear b3 hal hB HX HI
        by_cases k0 : xk < 0
        · have HF := hid (HV.out (formed_low (.inl k0)))
          go_wp2_with fail
          go_ret
          exact ⟨by rw [HF.out]; rfl, hB1.trans (HAL.out.mono hsz)⟩
        by_cases k4 : 4 < xk
        · have HF := hid (HV.out (formed_low (.inr k4)))
          go_wp2_with fail
          go_ret
          exact ⟨by rw [HF.out]; rfl, hB1.trans (HAL.out.mono hsz)⟩
        by_cases k2 : xk = 2
        · subst k2
          cases hlv : litValid xl n
          · have HF := hid (HV.out (formed_two rfl hlv))
            go_wp2_with fail
            refine (valid05_c xl n _ r1 r2).mono ?_
            rintro e w2 ⟨rfl, rfl⟩
            rw [hlv]
            go_wp2_with fail
            go_ret
            exact ⟨by rw [HF.out]; rfl, hB1.trans (HAL.out.mono hsz)⟩
          · by_cases hxi : xi = []
            · subst hxi
              have HF := hid (HS.out (formed_good ⟨show (0 : Int) ≤ 2 by decide, show (2 : Int) ≤ 4 by decide⟩ (fun _ => hlv) (fun h => absurd rfl h) (fun _ => rfl) (fun i h => by simp at h)))
              go_wp2_with fail
              refine (valid05_c xl n _ r1 r2).mono ?_
              rintro e w2 ⟨rfl, rfl⟩
              rw [hlv]
              go_wp2_with fail
              go_rounds 1
              go_wp2_with fail
              go_roundw
              case rel => exact ⟨k + 1, by omega, by go_num, HF.out, HAL.out⟩
              case measure => simp [intOf]; omega
            · have HF := hid (HV.out (formed_ins (show (2 : Int) < 3 by decide) hxi))
              have hpos : (0 : Int) < (xi.length : Int) := by have := List.length_pos_iff.2 hxi; omega
              clear hxi
              go_wp2_with fail
              refine (valid05_c xl n _ r1 r2).mono ?_
              rintro e w2 ⟨rfl, rfl⟩
              rw [hlv]
              go_wp2_with fail
              go_ret
              exact ⟨by rw [HF.out]; rfl, hB1.trans (HAL.out.mono hsz)⟩
        have k2' : (xk == 2) = false := by simp [k2]
        have k2n : (xk != 2) = true := by simp [k2]
        by_cases l0 : xl = 0
        · subst l0
          by_cases k3 : xk < 3
          · by_cases hxi : xi = []
            · subst hxi
              have HF := hid (HS.out (formed_good ⟨by show 0 ≤ xk; omega, by show xk ≤ 4; omega⟩ (fun h => absurd h k2) (fun _ => rfl) (fun _ => rfl) (fun i h => by simp at h)))
              clear k2
              go_wp2_with fail
              go_rounds 1
              go_wp2_with fail
              go_roundw
              case rel => exact ⟨k + 1, by omega, by go_num, HF.out, HAL.out⟩
              case measure => simp [intOf]; omega
            · have HF := hid (HV.out (formed_ins k3 hxi))
              have hpos : (0 : Int) < (xi.length : Int) := by have := List.length_pos_iff.2 hxi; omega
              clear hxi k2
              go_wp2_with fail
              go_ret
              exact ⟨by rw [HF.out]; rfl, hB1.trans (HAL.out.mono hsz)⟩
          · have HF := hid (fun h4 => HS.out (formed_good (x := ⟨xk, 0, xi⟩) (n := n) (k := k) ⟨by show 0 ≤ xk; omega, by show xk ≤ 4; omega⟩ (fun h => absurd h k2) (fun _ => rfl) (fun h => absurd h k3) h4))
            clear k2
            go_wp2_with fail
            obtain ⟨wo, hwo⟩ : ∃ wo : World, wo = wr := ⟨_, rfl⟩
            subst hwo
            go_loopw [5] (fun i wr => ∃ q : Nat, q ≤ xi.length ∧ i = .int .i64 q ∧ Hid (∀ i (h : i < xi.length), i < q → 0 ≤ xi[i] ∧ xi[i] < (k : Int)) ∧ wr = wo.alloc (.cells #[.int .i64 xk, .int .i64 0, .slice p2 xi.length c2] 39)) (fun i _ => xi.length - (intOf i).toNat)
            case atStart => exact ⟨0, Nat.zero_le _, rfl, fun i _ h => by omega, rfl⟩
            case round =>
              obtain ⟨q, hq, rfl, hgood, rfl⟩ := hrel
              by_cases hql : q < xi.length
              · obtain ⟨pp, cc, e3, h3⟩ := HI3.out
                injection e3 with e1 _ e2
                subst e1; subst e2
                obtain ⟨b2, o2, rfl, hcc⟩ := h3.resolve_left (by intro e; rw [e] at hql; simp at hql)
                have hcq := hcc q hql
                rw [List.getElem?_eq_getElem hql, Option.getD_some] at hcq
                clear h3 hcc
                have zq : (0 : Int) ≤ (q : Int) ∧ (q : Int) < (xi.length : Int) := by omega
                obtain ⟨s0, s1, s2⟩ := HB3.out.cells
                have HBAD := hid (fun h => HV.out (formed_bad (x := ⟨xk, 0, xi⟩) (n := n) (k := k) hql h))
                have HGO := hid (show 0 ≤ xi[q] ∧ xi[q] < (k : Int) → ∀ i (h : i < xi.length), i < q + 1 → 0 ≤ xi[i] ∧ xi[i] < (k : Int) from fun h i hi hlt => by
                  by_cases e : i = q
                  · subst e; exact h
                  · exact hgood.out i hi (by omega))
                have HBAD2 := hid (show xi[q] < 0 ∨ (k : Int) ≤ xi[q] → validNet ⟨n, L⟩ = false from HBAD.out)
                clear HBAD hgood
                generalize xi[q] = y at hcq HGO HBAD2
                by_cases y0 : y < 0
                · have HF2 := hid (HBAD2.out (.inl y0))
                  go_wp2_with fail
                  go_ret
                  exact ⟨by rw [HF2.out]; rfl, hB1.trans (HAL.out.mono hsz)⟩
                · by_cases yk : (k : Int) ≤ y
                  · have HF2 := hid (HBAD2.out (.inr yk))
                    go_wp2_with fail
                    go_ret
                    exact ⟨by rw [HF2.out]; rfl, hB1.trans (HAL.out.mono hsz)⟩
                  · have HG2 := hid (HGO.out ⟨by omega, by omega⟩)
                    go_wp2_with fail
                    go_roundw
                    case rel => exact ⟨q + 1, by omega, by go_num, HG2.out, trivial⟩
                    case measure => simp [intOf]; omega
              · obtain rfl : q = xi.length := by omega
                have HF2 := hid (HF.out fun i h => hgood.out i h h)
                obtain ⟨s0, s1, s2⟩ := HB3.out.cells
                go_wp2_with fail
                go_roundw
                case rel => exact ⟨k + 1, by omega, by go_num, HF2.out, HAL.out⟩
                case measure => simp [intOf]; omega
        · have l0' : (xl != 0) = true := by simp [l0]
          have HF := hid (HV.out (formed_lit k2 l0))
          clear k2 l0
          go_wp2_with fail
          go_ret
          exact ⟨by rw [HF.out]; rfl, hB1.trans (HAL.out.mono hsz)⟩
      · obtain rfl : k = L.length := by omega
        have hv := valid_yes (n := n) (L := L) ⟨r1, r2, r3, r4⟩ hf.out
        go_wp2_with fail
        go_ret
        exact ⟨by rw [hv]; rfl, hB1.trans (hB.out.mono hsz)⟩
  · have hv := hid (valid_no hr)
    obtain ⟨p, c, rfl, _⟩ := hN
    have hor : n < 0 ∨ (¬ n < 0 ∧ 128 < n) ∨ (¬ n < 0 ∧ ¬ 128 < n ∧ ((L.length : Int) == 0) = true) ∨ (¬ n < 0 ∧ ¬ 128 < n ∧ ((L.length : Int) == 0) = false ∧ 65536 < (L.length : Int)) := by simp only [beq_iff_eq, beq_eq_false_iff_ne]; omega
    clear hr
    rcases hor with h1 | ⟨h1, h2⟩ | ⟨h1, h2, h3⟩ | ⟨h1, h2, h3, h4⟩ <;>
    · go_enter Tryd.func23, Tryd.ntmps23
      go_wp2
      go_ret
      exact ⟨by rw [hv.out]; rfl, hB1⟩
end Go.Proofs.YtpdbfbjfodckgaaDoor
