/- Walks: the reference of the layer width: which trees are formed. -/
import Derived.Test.YtmlecpapoeodkaaDoorWGiven
import Derived.Test.YtmlecpapoeodkaaDoorWTree
namespace Go.Proofs.YtmlecpapoeodkaaDoor
open Go.RowKit
attribute [local go_sem ↓] run_eqlS run_neqS run_eqlS0 run_neqS0

theorem climb_end (U : List Int) (a : Int) : ∀ (j d : Nat), climb U j a < 0 → climb U (j + d) a = climb U j a
  | _, 0, _ => rfl
  | j, d + 1, h => by
    have ih := climb_end U a j d h
    rw [← Nat.add_assoc, climb_snoc, ih, if_pos h]
theorem formed_short {n : Nat} {U : List Int} (h : ¬ U.length = n) : formedB n U = false := by unfold formedB; rw [decide_eq_false h]; rfl
theorem formed_big {n : Nat} {U : List Int} (h : 65536 < n) : formedB n U = false := by unfold formedB; rw [decide_eq_false (p := n ≤ 65536) (by omega)]; simp
theorem formed_range {n : Nat} {U : List Int} {i : Int} (h0 : 0 ≤ i) (h1 : i < (n : Int)) (h : ¬ (-1 ≤ upF U i ∧ upF U i < (n : Int))) : formedB n U = false := by
  have e : inRange n U = false := by
    cases e : inRange n U
    · rfl
    · exact absurd (inRange_iff.1 e i h0 h1) h
  unfold formedB
  rw [e]; simp
theorem formed_roots {n : Nat} {U : List Int} (h0 : 0 < n) (h : roots U n ≠ 1) : formedB n U = false := by
  unfold formedB
  rw [decide_eq_false (p := n = 0) (by omega), decide_eq_false (p := roots U n = 1) h]; simp
theorem formed_climb {n : Nat} {U : List Int} {i : Int} (h0 : 0 ≤ i) (h1 : i < (n : Int)) (h : ¬ climb U n i < 0) : formedB n U = false := by
  have e : ((nums n).all fun i => decide (climb U n i < 0)) = false := by
    cases e : ((nums n).all fun i => decide (climb U n i < 0))
    · rfl
    · rw [List.all_eq_true] at e
      exact absurd (of_decide_eq_true (e i (mem_nums.2 ⟨h0, h1⟩))) h
  unfold formedB
  rw [e]; simp
theorem formed_yes {n : Nat} {U : List Int} (h0 : U.length = n) (h1 : n ≤ 65536) (h2 : ∀ i, 0 ≤ i → i < (n : Int) → -1 ≤ upF U i ∧ upF U i < (n : Int)) (h3 : n = 0 ∨ roots U n = 1) (h4 : ∀ i, 0 ≤ i → i < (n : Int) → climb U n i < 0) : formedB n U = true := by
  unfold formedB
  rw [decide_eq_true h0, decide_eq_true h1, inRange_iff.2 h2]
  have e1 : (decide (n = 0) || decide (roots U n = 1)) = true := by
    rcases h3 with h3 | h3
    · rw [decide_eq_true h3]; rfl
    · rw [decide_eq_true h3]; simp
  have e2 : ((nums n).all fun i => decide (climb U n i < 0)) = true := by
    rw [List.all_eq_true]
    intro i hi
    rw [mem_nums] at hi
    exact decide_eq_true (h4 i hi.1 hi.2)
  rw [e1, e2]; rfl
set_option maxRecDepth 100000 in
set_option maxHeartbeats 8000000 in
theorem rFormed_c (x y : Value) (B : List VS) (U : List Int) (w : World) (hx : SetsAt w x B) (hy : IntsAt w y U) (hB : B.length ≤ 140737488355328) (hU : U.length ≤ 140737488355328) :
    Calls Tryd.prog 61 #[.agg #[x, y]] w fun e w' => e = .returned (.bool (formedB B.length U)) ∧ Below w.heap.size w w' := by
  obtain ⟨p, c, rfl, hdrop⟩ := hx
  obtain ⟨q, d, rfl, hq⟩ := hy
  clear hdrop
  generalize B.length = n at *
  have HQ := hid hq
  clear hq
  have hB0 : Below w.heap.size w (w.alloc (.cells #[.slice p n c, .slice q U.length d] 33)) := (Below.refl _ w).alloc (Nat.le_refl _) _
  have b0 := Box2.new w 33 (.slice p n c) (.slice q U.length d)
  obtain ⟨c0, c1, _, _⟩ := b0.cells
  by_cases hlen : U.length = n
  · subst hlen
    by_cases hbig : (65536 : Int) < (U.length : Int)
    · have HF := hid (formed_big (U := U) (n := U.length) (by omega))
      go_enter Tryd.func61, Tryd.ntmps61
      go_wp2_with fail
      go_ret
      exact ⟨by rw [HF.out]; rfl, hB0⟩
    · go_enter Tryd.func61, Tryd.ntmps61
      go_wp2_with fail
      generalize w.alloc (.cells #[.slice p U.length c, .slice q U.length d] 33) = w1 at *
      have HBX := hid b0
      have HB0 := hid hB0
      clear c0 c1 b0 hB0
      go_loopw [4, 5] (fun m i wr => ∃ k : Nat, k ≤ U.length ∧ i = .int .i64 k ∧ m = .int .i64 ((roots U k : Nat) : Int) ∧ Hid (∀ i : Int, 0 ≤ i → i < (k : Int) → -1 ≤ upF U i ∧ upF U i < (U.length : Int)) ∧ Below w1.heap.size w1 wr) (fun _ i _ => U.length - (intOf i).toNat)
      case atStart => exact ⟨0, Nat.zero_le _, rfl, rfl, fun i h h' => by omega, Below.refl _ _⟩
      case round =>
        obtain ⟨k, hk, rfl, rfl, hok, hBr⟩ := hrel
        have hBw := HB0.out.trans (hBr.mono HB0.out.size)
        obtain ⟨c0, c1, _, _⟩ := (HBX.out.below hBr HBX.out.lt).cells
        by_cases hkl : k < U.length
        · obtain ⟨b, off, rfl, hm⟩ := HQ.out.resolve_left (by intro e; rw [e] at hkl; simp at hkl)
          have hc := hm k hkl
          rw [List.getElem?_eq_getElem hkl, Option.getD_some] at hc
          have hc2 := (hBw.cell (cell_lt hc)).trans hc
          have hup := upF_nat U k hkl
          generalize U[k] = u at *
          have HUP := hid hup
          have hrk := roots_le U k
          have HRO := hid (show roots U (k + 1) = roots U k + if upF U (k : Int) = -1 then 1 else 0 from rfl)
          have HBAD := hid (show ¬ (-1 ≤ u ∧ u < (U.length : Int)) → formedB U.length U = false from fun h => formed_range (i := (k : Int)) (by omega) (by omega) (by rw [HUP.out]; exact h))
          have HOK := hid (show (-1 ≤ u ∧ u < (U.length : Int)) → ∀ i : Int, 0 ≤ i → i < ((k + 1 : Nat) : Int) → -1 ≤ upF U i ∧ upF U i < (U.length : Int) from fun h i h0 h1 => by
            by_cases e : i = (k : Int)
            · subst e; rw [HUP.out]; exact h
            · exact hok.out i h0 (by omega))
          have zk : (0 : Int) ≤ (k : Int) ∧ (k : Int) < (U.length : Int) := by omega
          clear hm hc hup hok
          by_cases h1 : u < -1
          · have HF := hid (HBAD.out (by omega))
            go_wp2_with fail
            go_ret
            exact ⟨by rw [HF.out]; rfl, hBw⟩
          · by_cases h2 : (U.length : Int) ≤ u
            · have HF := hid (HBAD.out (by omega))
              go_wp2_with fail
              go_ret
              exact ⟨by rw [HF.out]; rfl, hBw⟩
            · have HK := hid (HOK.out (by omega))
              have zr : IntKind.i64.wrap (((roots U k : Nat) : Int) + 1) = ((roots U k : Nat) : Int) + 1 := IntWalk.i64_in _ (by omega)
              by_cases h3 : u = -1
              · have HR := hid (show roots U (k + 1) = roots U k + 1 from by rw [HRO.out, if_pos (by rw [HUP.out]; exact h3)])
                subst h3
                generalize roots U k = ro at *
                clear h1 h2
                go_wp2_with fail
                go_roundw
                case rel => exact ⟨k + 1, by omega, by go_num, by rw [HR.out]; push_cast; rfl, HK.out, hBr⟩
                case measure => simp [intOf]; omega
              · have HR := hid (show roots U (k + 1) = roots U k from by rw [HRO.out, if_neg (by rw [HUP.out]; exact h3)]; rfl)
                have h4 : (u == -1) = false := by rw [beq_eq_false_iff_ne]; exact h3
                generalize roots U k = ro at *
                go_wp2_with fail
                go_roundw
                case rel => exact ⟨k + 1, by omega, by go_num, by rw [HR.out], HK.out, hBr⟩
                case measure => simp [intOf]; omega
        · obtain rfl : k = U.length := by omega
          have HRG := hid hok.out
          by_cases hroot : 0 < U.length ∧ roots U U.length ≠ 1
          · have HF := hid (formed_roots hroot.1 hroot.2)
            have g1 : (0 : Int) < (U.length : Int) := by omega
            have g2 : (((roots U U.length : Nat) : Int) == 1) = false := by rw [beq_eq_false_iff_ne]; omega
            have g3 : ¬ ((roots U U.length : Nat) : Int) = 1 := by omega
            have g4 : ¬ roots U U.length = 1 := by omega
            clear hroot
            go_wp2_with fail
            go_ret
            exact ⟨by rw [HF.out]; rfl, hBw⟩
          · have HRT := hid (show U.length = 0 ∨ roots U U.length = 1 from by omega)
            have hB1 := hid hBr
            have hkk : True := trivial
            clear c0 c1 hok hkk
            by_cases hpos : 0 < U.length
            · have g2 : roots U U.length = 1 := by have := HRT.out; omega
              rw [g2]
              have g1 : (0 : Int) < (U.length : Int) := by omega
              go_wp2_with fail
              go_loopw [6] (fun i wr => ∃ k : Nat, k ≤ U.length ∧ i = .int .i64 k ∧ Hid (∀ i : Int, 0 ≤ i → i < (k : Int) → climb U U.length i < 0) ∧ Below w1.heap.size w1 wr) (fun i _ => U.length - (intOf i).toNat)
              case atStart => exact ⟨0, Nat.zero_le _, rfl, fun i h h' => by omega, hB1.out⟩
              case round =>
                obtain ⟨k, hk, rfl, hok, hBr⟩ := hrel
                have hBw := HB0.out.trans (hBr.mono HB0.out.size)
                by_cases hkl : k < U.length
                · go_wp2_with fail
                  go_loopw [7, 8] (fun a i wr => ∃ j : Nat, j ≤ U.length ∧ i = .int .i64 j ∧ a = .int .i64 (climb U j (k : Int)) ∧ (-1 ≤ climb U j (k : Int) ∧ climb U j (k : Int) < (U.length : Int)) ∧ Below w1.heap.size w1 wr) (fun _ i _ => U.length - (intOf i).toNat)
                  case atStart => exact ⟨0, Nat.zero_le _, rfl, rfl, ⟨by show -1 ≤ (k : Int); omega, by show (k : Int) < _; omega⟩, hBr⟩
                  case round =>
                    obtain ⟨j, hj, rfl, rfl, hcl, hBr⟩ := hrel
                    have hBw := HB0.out.trans (hBr.mono HB0.out.size)
                    obtain ⟨c0, c1, _, _⟩ := (HBX.out.below hBr HBX.out.lt).cells
                    have HSN := hid (climb_snoc U j (k : Int))
                    have HEND := hid (show climb U j (k : Int) < 0 ∨ j = U.length → climb U U.length (k : Int) = climb U j (k : Int) from fun h => by
                      rcases h with h | h
                      · obtain ⟨d, hd⟩ : ∃ d, U.length = j + d := ⟨U.length - j, by omega⟩
                        rw [hd]; exact climb_end U _ j d h
                      · rw [h])
                    have HIN := hid (show climb U U.length (k : Int) < 0 → ∀ i : Int, 0 ≤ i → i < ((k + 1 : Nat) : Int) → climb U U.length i < 0 from fun h i h0 h1 => by
                      by_cases e : i = (k : Int)
                      · subst e; exact h
                      · exact hok.out i h0 (by omega))
                    have HBAD := hid (show ¬ climb U U.length (k : Int) < 0 → formedB U.length U = false from fun h => formed_climb (i := (k : Int)) (by omega) (by omega) h)
                    generalize climb U j (k : Int) = a at *
                    by_cases hjl : j < U.length
                    · by_cases ha : 0 ≤ a
                      · obtain ⟨b, off, rfl, hm⟩ := HQ.out.resolve_left (by intro e; rw [e] at hkl; simp at hkl)
                        obtain ⟨an, rfl⟩ : ∃ an : Nat, a = (an : Int) := ⟨a.toNat, by omega⟩
                        have hal : an < U.length := by omega
                        have hc := hm an hal
                        rw [List.getElem?_eq_getElem hal, Option.getD_some] at hc
                        have hc2 := (hBw.cell (cell_lt hc)).trans hc
                        have hup := upF_nat U an hal
                        generalize U[an] = u at *
                        have HC := hid (show climb U (j + 1) (k : Int) = u from by rw [HSN.out, if_neg (by omega)]; exact hup)
                        have HR := hid (show -1 ≤ u ∧ u < (U.length : Int) from by rw [← hup]; exact HRG.out _ (by omega) (by omega))
                        have za : (0 : Int) ≤ (an : Int) ∧ (an : Int) < (U.length : Int) := by omega
                        clear hm hc hup HSN
                        go_wp2_with fail
                        go_roundw
                        case rel => exact ⟨j + 1, by omega, by go_num, by rw [HC.out], by rw [HC.out]; exact HR.out, hBr⟩
                        case measure => simp [intOf]; omega
                      · have HK := hid (HIN.out (by rw [HEND.out (.inl (by omega))]; omega))
                        go_wp2_with fail
                        go_roundw
                        case rel => exact ⟨k + 1, by omega, by go_num, HK.out, hBr⟩
                        case measure => simp [intOf]; omega
                    · by_cases ha : 0 ≤ a
                      · have HF := hid (HBAD.out (by rw [HEND.out (.inr (by omega))]; omega))
                        go_wp2_with fail
                        go_ret
                        exact ⟨by rw [HF.out]; rfl, hBw⟩
                      · have HK := hid (HIN.out (by rw [HEND.out (.inl (by omega))]; omega))
                        go_wp2_with fail
                        go_roundw
                        case rel => exact ⟨k + 1, by omega, by go_num, HK.out, hBr⟩
                        case measure => simp [intOf]; omega
                · obtain rfl : k = U.length := by omega
                  have HF := hid (formed_yes rfl (by omega) HRG.out HRT.out hok.out)
                  go_wp2_with fail
                  go_ret
                  exact ⟨by rw [HF.out]; rfl, hBw⟩
            · have g1 : ¬ (0 : Int) < (U.length : Int) := by omega
              go_wp2_with fail
              go_loopw [6] (fun i wr => ∃ k : Nat, k ≤ U.length ∧ i = .int .i64 k ∧ Hid (∀ i : Int, 0 ≤ i → i < (k : Int) → climb U U.length i < 0) ∧ Below w1.heap.size w1 wr) (fun i _ => U.length - (intOf i).toNat)
              case atStart => exact ⟨0, Nat.zero_le _, rfl, fun i h h' => by omega, hB1.out⟩
              case round =>
                obtain ⟨k, hk, rfl, hok, hBr⟩ := hrel
                have hBw := HB0.out.trans (hBr.mono HB0.out.size)
                by_cases hkl : k < U.length
                · exfalso; omega
                · obtain rfl : k = U.length := by omega
                  have HF := hid (formed_yes rfl (by omega) HRG.out HRT.out hok.out)
                  go_wp2_with fail
                  go_ret
                  exact ⟨by rw [HF.out]; rfl, hBw⟩
  · have HF := hid (formed_short hlen)
    have g1 : ((U.length : Int) == (n : Int)) = false := by rw [beq_eq_false_iff_ne]; omega
    have g2 : ¬ (U.length : Int) = (n : Int) := by omega
    go_enter Tryd.func61, Tryd.ntmps61
    go_wp2_with fail
    go_ret
    exact ⟨by rw [HF.out]; rfl, hB0⟩
end Go.Proofs.YtmlecpapoeodkaaDoor
