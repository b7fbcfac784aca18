/- Walks: widths of orders. -/
import Derived.Test.YthgkklahiclcpaaDoorSWalk3
import Derived.Test.YthgkklahiclcpaaDoorSOrder
namespace Go.Proofs.YthgkklahiclcpaaDoor
open Go.RowKit
attribute [local go_sem ↓] run_eqlS run_neqS run_eqlS0 run_neqS0

/-- What stands in a round of Width. -/
structure WiSt (w3 wr : World) (g : Nat) (L : List VS) (l : List Int) (k : Nat) (X : Int) (M : List VS) : Prop where
  lo : 0 ≤ X
  hi : X ≤ 128
  says : max X (widthF (gOf M) (l.drop k)) = widthF (gOf L) l
  ok : ValidG M
  len : M.length = L.length
  row : SetRow wr g M
  grew : w3.grownBy wr (some g)
set_option maxRecDepth 100000 in
set_option maxHeartbeats 4000000 in
theorem Width_c (v v2 : Value) (L : List VS) (l : List Int) (w : World) (hI : SetsAt w v L) (hJ : IntsAt w v2 l) (hT : TabAt w) (hL : L.length ≤ 140737488355328) (hl : l.length ≤ 140737488355328) :
    Calls Tryd.prog 19 #[v, v2] w fun e w' => e = .returned (.int .i64 (widthP L l)) ∧ Below w.heap.size w w' := by
  have HV := hid (valid_c v L w hI hT hL)
  obtain ⟨p, c, rfl, hdrop⟩ := id hI
  obtain ⟨p2, c2, rfl, hdrop2⟩ := id hJ
  clear hdrop hdrop2
  cases hv : validG L
  · rw [hv] at HV
    have HW := hid (widthP_no1 (l := l) hv)
    clear hv
    go_enter Tryd.func19, Tryd.ntmps19
    go_wp2_with fail
    refine HV.out.mono ?_
    rintro e w2 ⟨rfl, hb2⟩
    go_wp2_with fail
    go_ret
    exact ⟨by rw [HW.out]; rfl, hb2⟩
  · rw [hv] at HV
    have HVL := hid (validG_iff.1 hv)
    have hp := HVL.out.pos
    have hle := HVL.out.le
    by_cases hlen : l.length + 1 = L.length
    · have d1 : ((l.length : Int) != (L.length : Int) - 1) = false := by simp; omega
      by_cases hof : ofL l = allV (l.length : Int)
      · have hIO := isOrd_of (by omega) rfl hof
        have hne : (!(ofL l == allV (l.length : Int))) = false := by rw [hof]; simp
        have HW := hid (widthP_yes hv hlen hof)
        have HIO := hid hIO
        have HLEN := hid hlen
        clear hv hof hIO
        go_enter Tryd.func19, Tryd.ntmps19
        go_wp2_with fail
        refine HV.out.mono ?_
        rintro e w2 ⟨rfl, hb2⟩
        have hJ2 := hJ.below hb2
        have hI2 := hI.below hb2
        have HOF := hid (Of_c _ l w2 hJ2 hl)
        clear hlen
        go_wp2_with fail
        refine HOF.out.mono ?_
        rintro e w3 ⟨rfl, hb3⟩
        have hB3 := hb2.trans (hb3.mono hb2.size)
        have hI3 := hI2.below hb3
        clear hb2 hb3 hI2 hJ2 HOF
        go_wp2_with fail
        refine (All_c (l.length : Int) w3).mono ?_
        rintro e w4 ⟨rfl, hb4⟩
        have hB4 := hB3.trans (hb4.mono hB3.size)
        have hI4 := hI3.below hb4
        clear hB3 hI3 hb4 HV
        go_wp2_with fail
        refine (Clone_c _ L w4 hI4 (by intro e; rw [e] at hp; simp at hp) (by omega)).mono ?_
        rintro e w5 ⟨g, cg, rfl, hg, hR5, hb5, hcl, hcm⟩
        have hB5 := hB4.trans (hb5.mono hB4.size)
        have hT5 := hT.below hT.lt hB5
        have hJ5 := hJ.below hB5
        have hgt : 0 < g := Nat.lt_of_lt_of_le hT.lt (Nat.le_trans hB4.size hg)
        obtain ⟨p5, c5, e5, hJc⟩ := hJ
        injection e5 with e5 _ e6
        subst e5
        have HJ := hid hJc
        have hgw : w.heap.size ≤ g := Nat.le_trans hB4.size hg
        clear hB4 hI4 hb5 hJ5 d1 hne hJc hI e6
        go_wp2_with fail
        go_loopw [5, 31] (fun x i wr => ∃ (k : Nat) (X : Int) (M : List VS), k ≤ l.length ∧ i = .int .i64 k ∧ x = .int .i64 X ∧ WiSt w5 wr g L l k X M) (fun _ i _ => l.length - (intOf i).toNat)
        case atStart => exact ⟨0, 0, L, Nat.zero_le _, rfl, rfl, ⟨by omega, by omega, by have := widthF_pos (gOf L) l; rw [List.drop_zero]; omega, HVL.out, rfl, hR5, World.grownBy.refl _ _⟩⟩
        case round =>
          clear hR5
          obtain ⟨k, X, M, hk, rfl, rfl, st⟩ := hrel
          by_cases hkl : k < l.length
          · obtain ⟨b, off, ep, hm⟩ := HJ.out.resolve_left (by intro e; rw [e] at hkl; simp at hkl)
            subst ep
            have hc := hm k hkl
            rw [List.getElem?_eq_getElem hkl, Option.getD_some] at hc
            have hbw : b < w.heap.size := cell_lt hc
            have hc1 := (hB5.cell (cell_lt hc)).trans hc
            have hc2 := (World.cell?_of_block (w := w5) (st.grew.block b (cell_lt hc1) (by simp; omega))).trans hc1
            have hrg := (HIO.out.mem l[k]).1 (List.getElem_mem hkl)
            obtain ⟨un, hun⟩ : ∃ un : Nat, l[k] = (un : Int) := ⟨(l[k]).toNat, by omega⟩
            have HDR := hid (List.drop_eq_getElem_cons hkl)
            rw [hun] at hc2 hrg HDR
            have hll := HLEN.out
            have hlu : un < L.length := by omega
            have zu : (0 : Int) ≤ (un : Int) ∧ (un : Int) < (L.length : Int) := by omega
            have zk : (0 : Int) ≤ (k : Int) ∧ (k : Int) < (l.length : Int) := by omega
            obtain ⟨t, hgt', r0, r1, _, _⟩ := st.row.get un (by rw [st.len]; exact hlu)
            have HGT := hid hgt'
            have hx0 := st.lo
            have hx1 := st.hi
            have HST := hid st
            have hgl := st.row.lt
            have hlt := len_pos (s := t)
            have hlt2 := len_le t
            have HLT := hid hlt
            have HLT2 := hid hlt2
            clear hm hc hc1 hrg hun hgt' hbw hll st
            go_wp2_with fail
            refine (Len_c t _).mono ?_
            rintro e w7 ⟨rfl, hb7⟩
            have hg7 := grownBy_then HST.out.grew (grownBy_of_below' hb7 (some g))
            have hR7 := HST.out.row.below hb7 HST.out.row.lt
            have hT7 := hT5.kept hg7 (fun k e => by injection e with e; omega)
            have HE := hid (eliminate_c g cg M un w7 hR7 hT7 hgt (by rw [HST.out.len]; exact hlu) (fun u hu => by have := HST.out.ok.range hu; omega) (by rw [HST.out.len]; exact hle))
            rw [HST.out.len] at HE
            have hee := gOf_elL HST.out.ok (v := (un : Int)) (by omega) (by rw [HST.out.len]; omega)
            have HN : Hid (max X (max (len t) (widthF (gOf (elL M (un : Int))) (l.drop (k + 1)))) = widthF (gOf L) l) := by
              show _ = _
              rw [← HST.out.says, HDR.out, hee]
              simp only [widthF]
              rw [HGT.out]
            have HEV := hid (elL_valid HST.out.ok (v := (un : Int)) (by omega) (by rw [HST.out.len]; omega))
            have HG7 := hid hg7
            have HEL := hid ((elL_length M (un : Int)).trans HST.out.len)
            clear hee hR7 hT7 hg7 hb7 r0 r1
            generalize hld : len t = d at *
            go_wp2_with fail
            all_goals
              refine HE.out.mono ?_
              rintro e w8 ⟨rfl, hR8, hg8⟩
              go_wp2_with fail
              go_roundw
              case rel => exact ⟨k + 1, _, elL M (un : Int), by omega, by go_num, rfl, ⟨by omega, by have := HLT2.out; omega, by have := HN.out; omega, HEV.out, HEL.out, hR8, grownBy_then HG7.out hg8⟩⟩
              case measure => simp [intOf]; omega
          · obtain rfl : k = l.length := by omega
            have HX : Hid (X = widthF (gOf L) l) := by
              have := st.says
              rw [List.drop_length] at this
              have := st.lo
              simp only [widthF] at *
              show X = _
              omega
            have hBw : Below w.heap.size w wr := hB5.grown st.grew hB5.size (fun k e => by injection e with e; omega)
            clear st
            go_wp2_with fail
            go_ret
            exact ⟨by rw [HW.out, ← HX.out]; rfl, hBw⟩
      · have hne : (!(ofL l == allV (l.length : Int))) = true := by simp [hof]
        have HW := hid (widthP_no3 (L := L) hof)
        clear hv hof
        go_enter Tryd.func19, Tryd.ntmps19
        go_wp2_with fail
        refine HV.out.mono ?_
        rintro e w2 ⟨rfl, hb2⟩
        have HOF := hid (Of_c _ l w2 (hJ.below hb2) hl)
        go_wp2_with fail
        refine HOF.out.mono ?_
        rintro e w3 ⟨rfl, hb3⟩
        have hB3 := hb2.trans (hb3.mono hb2.size)
        clear hb2 hb3 HOF hI hJ
        go_wp2_with fail
        refine (All_c (l.length : Int) w3).mono ?_
        rintro e w4 ⟨rfl, hb4⟩
        have hB4 := hB3.trans (hb4.mono hB3.size)
        clear hB3 hb4 HV
        go_wp2_with fail
        go_ret
        exact ⟨by rw [HW.out]; rfl, hB4⟩
    · have d1 : ((l.length : Int) != (L.length : Int) - 1) = true := by simp; omega
      have HW := hid (widthP_no2 hlen)
      clear hv hlen hI hJ
      go_enter Tryd.func19, Tryd.ntmps19
      go_wp2_with fail
      refine HV.out.mono ?_
      rintro e w2 ⟨rfl, hb2⟩
      go_wp2_with fail
      go_ret
      exact ⟨by rw [HW.out]; rfl, hb2⟩
end Go.Proofs.YthgkklahiclcpaaDoor
