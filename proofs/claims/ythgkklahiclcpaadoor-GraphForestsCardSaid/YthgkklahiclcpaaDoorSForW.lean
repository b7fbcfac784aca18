/- The walk of the law GraphForests. -/
import Derived.Test.YthgkklahiclcpaaDoorSForP
import Derived.Test.YthgkklahiclcpaaDoorSLink
import Derived.Test.YthgkklahiclcpaaDoorSCyc
import Derived.Test.YthgkklahiclcpaaDoorSShuf
namespace Go.Proofs.YthgkklahiclcpaaDoor
open Go.RowKit
attribute [local go_sem ↓] run_eqlS run_neqS run_eqlS0 run_neqS0

set_option maxRecDepth 100000 in
set_option maxHeartbeats 8000000 in
theorem graphForests_walk (v : Value) (P : List Int) (w : World) (hT : TabAt w) (hP : U8sAt w v P) (hPl : P.length ≤ 9223372036854775807) :
    Calls Tryd.prog 8 #[v] w (LawPost w) := by
  have HW := hid (fun w' (h : Below w.heap.size w w') => works_c w' (hT.below hT.lt h))
  obtain ⟨⟨p, c, rfl, hPc⟩, hPr⟩ := hP
  have HP := hid hPc
  have HPR := hid hPr
  clear hPc hPr
  by_cases h1 : 24 < P.length
  · have d1 : decide ((24 : Int) < (P.length : Int)) = true := decide_eq_true (by omega)
    go_enter Tryd.func8, Tryd.ntmps8
    go_wp2_with fail
    refine (HW.out w (Below.refl _ _)).mono ?_
    rintro e w2 ⟨rfl, hb2⟩
    go_wp2_with fail
    go_ret
    exact ⟨rfl, hb2⟩
  · have d1 : decide ((24 : Int) < (P.length : Int)) = false := decide_eq_false (by omega)
    have hm := fun w' => make_sets w' (P.length + 1) (by omega) ((P.length : Int) + 1) ((P.length : Int) + 1) rfl rfl
    have hl24 : P.length ≤ 24 := by omega
    clear h1
    go_enter Tryd.func8, Tryd.ntmps8
    go_wp2_with fail
    go_loopw [3, 4, 5] (fun e t i wr => ∃ (k : Nat) (M : List VS) (tt : Int), 1 ≤ k ∧ (k ≤ P.length ∨ k = 1) ∧ e = .slice (some ⟨w.heap.size, 0, none⟩) (P.length + 1) (P.length + 1) ∧ t = .int .i64 tt ∧ i = .int .i64 ((k : Int) + 1) ∧ SetRow wr w.heap.size M ∧ Hid (FoIn P.length k M tt) ∧ Below w.heap.size w wr) (fun _ _ i _ => P.length + 2 - (intOf i).toNat)
    case atStart => exact ⟨1, List.replicate (P.length + 1) 0, 0, Nat.le_refl _, .inr rfl, rfl, rfl, rfl, SetRow.made w _, FoIn.start _ (by omega), (Below.refl _ _).alloc (Nat.le_refl _) _⟩
    case round =>
      obtain ⟨k, M, tt, hk1, hkP, rfl, rfl, rfl, hR, HF, hB⟩ := hrel
      clear hm
      by_cases hlt : (k : Int) + 1 ≤ (P.length : Int)
      · have hkl : k < P.length := by omega
        obtain ⟨pb, po, rfl, hpc⟩ := HP.out.resolve_left (by intro e; rw [e] at hkl; simp at hkl)
        have hc := hpc k hkl
        have hc2 := (hB.cell (cell_lt hc)).trans hc
        have hx := HPR.out (P[k]?.getD 0) (by rw [List.getElem?_eq_getElem hkl]; exact List.getElem_mem hkl)
        generalize P[k]?.getD 0 = x at *
        obtain ⟨xn, hxn⟩ : ∃ xn : Nat, x = (xn : Int) := ⟨x.toNat, by omega⟩
        subst hxn
        have zi : (0 : Int) ≤ (k : Int) ∧ (k : Int) < (P.length : Int) := by omega
        obtain ⟨kn, hkn⟩ : ∃ kn : Nat, kn = xn % (k + 1) := ⟨_, rfl⟩
        have hki : kn ≤ k := by rw [hkn]; have := Nat.mod_lt xn (show 0 < k + 1 by omega); omega
        have hke : (xn : Int) % ((k : Int) + 1) = (kn : Int) := by rw [hkn]; push_cast; rfl
        have hne : ((k : Int) + 1 == 0) = false := by simp; omega
        have hne2 : ¬ (k : Int) + 1 = 0 := by omega
        have htm : Int.tmod (xn : Int) ((k : Int) + 1) = (kn : Int) := by rw [Int.tmod_eq_emod_of_nonneg (by omega)]; exact hke
        have hlen := HF.out.len
        clear hc hpc hkn
        by_cases h0 : (0 : Int) < (kn : Int)
        · have HL := hid (fun w' (h : SetRow w' w.heap.size M) => linked_c w.heap.size (P.length + 1) M ((k : Int) + 1) (kn : Int) w' h (by omega) (by omega) (by omega))
          rw [hlen] at HL
          have HF2 := hid (HF.out.step (by omega) (kn : Int) (by omega) (by omega))
          have HR := hid hR
          have hsz := hB.size
          have HBB := hid hB
          clear hlen hR
          go_wp2_with fail
          refine (HL.out _ (HR.out.same rfl)).mono ?_
          rintro e w2 ⟨rfl, hR2, hg2⟩
          rw [HF.out.len]
          have hB2 := HBB.out.grown hg2 (by exact hsz) (fun j e => by cases e; exact Nat.le_refl _)
          go_wp2_with fail
          go_roundw
          case rel => exact ⟨k + 1, _, 1, by omega, .inl (by omega), rfl, rfl, by go_num, hR2, HF2.out, hB2⟩
          case measure => simp [intOf]; omega
        · have h00 : kn = 0 := by omega
          subst h00
          have HF2 := hid HF.out.skip
          clear hlen h0
          go_wp2_with fail
          go_roundw
          case rel => exact ⟨k + 1, M, tt, by omega, .inl (by omega), rfl, rfl, by go_num, hR.same rfl, HF2.out, hB⟩
          case measure => simp [intOf]; omega
      · have hlen := HF.out.len
        have hS := hR.sets (P.length + 1)
        rw [hlen] at hS
        obtain ⟨hw1, hw2⟩ := HF.out.widths
        have HX1 := hid hw1
        have HX2 := hid hw2
        have HO1 := hid (orderP_length fillC M)
        have HO2 := hid (orderP_length degC M)
        have HLEN := hid hlen
        obtain ⟨par, hp⟩ := HF.out.par
        have HC := hid (rCycle_c _ M par wr hS HF.out.ok hp)
        have HB := hid hB
        have HS := hid hS
        clear hw1 hw2 hlen hp hS hR hB HF hkP
        go_wp2_with fail
        refine HC.out.mono ?_
        rintro e w3 ⟨rfl, hb3⟩
        have hB3 := HB.out.trans (hb3.mono HB.out.size)
        have hS3 := HS.out.below hb3
        have HM := hid (MinFill_c _ M w3 hS3 (hT.below hT.lt hB3) (by rw [HLEN.out]; omega))
        have HS3 := hid hS3
        clear hS3 HC HB HS hb3
        go_wp2_with fail
        refine HM.out.mono ?_
        rintro e w4 ⟨v4, rfl, hn4, hb4⟩
        have hB4 := hB3.trans (hb4.mono hB3.size)
        have hi4 := hn4.ints
        obtain ⟨p4, c4, rfl, hdrop⟩ := id hi4
        have hS4 := HS3.out.below hb4
        have HWI := hid (Width_c _ _ M _ w4 hS4 hi4 (hT.below hT.lt hB4) (by rw [HLEN.out]; omega) (by have := HO1.out; omega))
        rw [HX1.out] at HWI
        have HS4 := hid hS4
        clear hdrop hi4 hn4 HM HS3 hb4 hB3 hS4
        go_wp2_with fail
        refine HWI.out.mono ?_
        rintro e w5 ⟨rfl, hb5⟩
        have hB5 := hB4.trans (hb5.mono hB4.size)
        have hS5 := HS4.out.below hb5
        have HM := hid (MinDegree_c _ M w5 hS5 (hT.below hT.lt hB5) (by rw [HLEN.out]; omega))
        have HS5 := hid hS5
        clear hS5 HWI HS4 hb5 hB4
        go_wp2_with fail
        refine HM.out.mono ?_
        rintro e w6 ⟨v6, rfl, hn6, hb6⟩
        have hB6 := hB5.trans (hb6.mono hB5.size)
        have hi6 := hn6.ints
        obtain ⟨p6, c6, rfl, hdrop⟩ := id hi6
        have hS6 := HS5.out.below hb6
        have HWI := hid (Width_c _ _ M _ w6 hS6 hi6 (hT.below hT.lt hB6) (by rw [HLEN.out]; omega) (by have := HO2.out; omega))
        rw [HX2.out] at HWI
        clear hdrop hi6 hn6 HM HS5 hb6 hB5 hS6
        go_wp2_with fail
        refine HWI.out.mono ?_
        rintro e w7 ⟨rfl, hb7⟩
        have hB7 := hB6.trans (hb7.mono hB6.size)
        go_wp2_with fail
        refine (HW.out w7 hB7).mono ?_
        rintro e w8 ⟨rfl, hb8⟩
        have hB8 := hB7.trans (hb8.mono hB7.size)
        go_wp2_with fail
        go_ret
        exact ⟨rfl, hB8⟩
end Go.Proofs.YthgkklahiclcpaaDoor
