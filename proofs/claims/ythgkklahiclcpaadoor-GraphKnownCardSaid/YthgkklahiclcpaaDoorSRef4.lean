/- Walks: the reference of the layer graph: widths. -/
import Derived.Test.YthgkklahiclcpaaDoorSRef3
namespace Go.Proofs.YthgkklahiclcpaaDoor
open Go.RowKit
attribute [local go_sem ↓] run_eqlS run_neqS run_eqlS0 run_neqS0

theorem SetsAt.get {w : World} {b off c : Nat} {L : List VS} (h : SetsAt w (.slice (some ⟨b, off, none⟩) L.length c) L) (i : Nat) (hi : i < L.length) :
    ∃ t, gOf L (i : Int) = t ∧ w.cell? ⟨b, off + i * 2, none⟩ = some (.int .u64 ((lw t).toNat : Int)) ∧ w.cell? ⟨b, off + i * 2 + 1, none⟩ = some (.int .u64 ((hw t).toNat : Int)) := by
  obtain ⟨p, c', e, hh⟩ := h
  injection e with e1 _ _
  obtain ⟨b2, off2, e2, hc⟩ := hh.resolve_left (by rintro rfl; simp at hi)
  rw [← e1] at e2
  injection e2 with e2
  injection e2 with e3 e4 _
  subst e3; subst e4
  exact ⟨L[i], gOf_nat L i hi, (hc i hi).lo, (hc i hi).hi⟩
theorem SetsAt.form {w : World} {v : Value} {L : List VS} (h : SetsAt w v L) (hne : 0 < L.length) : ∃ b off c, v = .slice (some ⟨b, off, none⟩) L.length c ∧ b < w.heap.size := by
  obtain ⟨p, c, rfl, hh⟩ := h
  obtain ⟨b, off, rfl, hc⟩ := hh.resolve_left (by rintro rfl; simp at hne)
  exact ⟨b, off, c, rfl, cell_lt (hc 0 hne).lo⟩
theorem ordB_iff {L : List VS} {l : List Int} (_h : 1 ≤ L.length) : isOrdB l ((L.length : Int) - 1) = true ↔ l.length + 1 = L.length ∧ ofL l = allV (l.length : Int) := by
  unfold isOrdB
  simp only [Bool.and_eq_true, decide_eq_true_eq]
  constructor
  · rintro ⟨h1, h2⟩; exact ⟨by omega, by rw [h2, h1]⟩
  · rintro ⟨h1, h2⟩
    have h3 : (l.length : Int) = (L.length : Int) - 1 := by omega
    exact ⟨h3, by rw [h2, h3]⟩
theorem elR_valid {L : List VS} (h : ValidG L) {v : Int} (h1 : 0 ≤ v) (h2 : v < (L.length : Int)) : ValidG (elR L v) := by rw [elR_eq h h1 h2]; exact elL_valid h h1 h2
/-- What stands in a round of the reference's Width. -/
structure RwSt (w wr : World) (u : Value) (L : List VS) (l : List Int) (k : Nat) (X : Int) (M : List VS) : Prop where
  lo : 0 ≤ X
  hi : X ≤ 128
  says : max X (widthF (gOf M) (l.drop k)) = widthF (gOf L) l
  ok : ValidG M
  len : M.length = L.length
  row : SetsAt wr u M
  low : Below w.heap.size w wr
set_option maxRecDepth 100000 in
set_option maxHeartbeats 4000000 in
theorem rWidth_c (v v2 : Value) (L : List VS) (l : List Int) (w : World) (hI : SetsAt w v L) (hJ : IntsAt w v2 l) (hL : L.length ≤ 140737488355328) (hl : l.length ≤ 140737488355328) :
    Calls Tryd.prog 20 #[v, v2] w fun e w' => e = .returned (.int .i64 (widthP L l)) ∧ Below w.heap.size w w' := by
  have HV := hid (rValid_c v L w hI hL)
  have hI0 := hI
  obtain ⟨p, c, rfl, hdrop⟩ := id hI
  obtain ⟨p2, c2, rfl, hdrop2⟩ := id hJ
  clear hdrop hdrop2
  cases hv : validG L
  · rw [hv] at HV
    have HW := hid (widthP_no1 (l := l) hv)
    clear hv
    go_enter Tryd.func20, Tryd.ntmps20
    go_wp2_with fail
    refine HV.out.mono ?_
    rintro e w2 ⟨rfl, hb2⟩
    go_wp2_with fail
    go_ret
    exact ⟨by rw [HW.out]; rfl, hb2⟩
  · rw [hv] at HV
    have HVL := hid (validG_iff.1 hv)
    have hp := HVL.out.pos
    have hle := HVL.out.le
    have HIF := hid (ordB_iff (l := l) hp)
    have HOC := fun w' (h : IntsAt w' (.slice p2 l.length c2) l) => rOrder_c _ l ((L.length : Int) - 1) w' h hl
    cases ho : isOrdB l ((L.length : Int) - 1)
    · have HW : Hid (widthP L l = -1) := by
        show _ = _
        unfold widthP
        rw [if_neg]
        rintro ⟨_, h2, h3⟩
        have := HIF.out.2 ⟨h2, h3⟩
        rw [ho] at this; cases this
      rw [ho] at HOC
      have HO := hid HOC
      clear hv ho HOC HIF
      go_enter Tryd.func20, Tryd.ntmps20
      go_wp2_with fail
      refine HV.out.mono ?_
      rintro e w2 ⟨rfl, hb2⟩
      have HO2 := hid (HO.out w2 (hJ.below hb2))
      go_wp2_with fail
      refine HO2.out.mono ?_
      rintro e w3 ⟨rfl, hb3⟩
      have hB3 := hb2.trans (hb3.mono hb2.size)
      clear hb2 hb3 HO2
      go_wp2_with fail
      go_ret
      exact ⟨by rw [HW.out]; rfl, hB3⟩
    · obtain ⟨hlen, hof⟩ := HIF.out.1 ho
      have HIO := hid (isOrd_of (by omega) rfl hof)
      have HW := hid (widthP_yes hv hlen hof)
      have HLEN := hid hlen
      rw [ho] at HOC
      have HO := hid HOC
      clear hv ho HOC HIF hof hlen
      go_enter Tryd.func20, Tryd.ntmps20
      go_wp2_with fail
      refine HV.out.mono ?_
      rintro e w2 ⟨rfl, hb2⟩
      have HO2 := hid (HO.out w2 (hJ.below hb2))
      go_wp2_with fail
      refine HO2.out.mono ?_
      rintro e w3 ⟨rfl, hb3⟩
      have hB3 := hb2.trans (hb3.mono hb2.size)
      have hI3 := hI0.below hB3
      obtain ⟨p5, c5, e5, hJc⟩ := hJ
      injection e5 with e5 _ e6
      subst e5
      have HJ := hid hJc
      clear hb2 hb3 HO2 HO HV hJc e6 hI hI0
      go_wp2_with fail
      go_loopw [0, 5, 6] (fun u x i wr => ∃ (k : Nat) (X : Int) (M : List VS), k ≤ l.length ∧ i = .int .i64 k ∧ x = .int .i64 X ∧ RwSt w wr u L l k X M) (fun _ _ i _ => l.length - (intOf i).toNat)
      case atStart => exact ⟨0, 0, L, Nat.zero_le _, rfl, rfl, ⟨by omega, by omega, by have := widthF_pos (gOf L) l; rw [List.drop_zero]; omega, HVL.out, rfl, hI3, hB3⟩⟩
      case round =>
        clear hI3 hB3
        obtain ⟨k, X, M, hk, rfl, rfl, st⟩ := hrel
        by_cases hkl : k < l.length
        · obtain ⟨b, off, ep, hm⟩ := HJ.out.resolve_left (by intro e; rw [e] at hkl; simp at hkl)
          subst ep
          have hc := hm k hkl
          rw [List.getElem?_eq_getElem hkl, Option.getD_some] at hc
          have hc2 := (st.low.cell (cell_lt hc)).trans hc
          have HCL := hid (cell_lt hc)
          have hrg := (HIO.out.mem l[k]).1 (List.getElem_mem hkl)
          obtain ⟨un, hun⟩ : ∃ un : Nat, l[k] = (un : Int) := ⟨(l[k]).toNat, by omega⟩
          have HDR := hid (List.drop_eq_getElem_cons hkl)
          rw [hun] at hc hc2 hrg HDR
          have HCC := hid hc
          have hll := HLEN.out
          have hlu : un < M.length := by rw [st.len]; omega
          obtain ⟨gb, go, gc, rfl, hgb⟩ := st.row.form (by omega)
          have zu : (0 : Int) ≤ (un : Int) ∧ (un : Int) < (M.length : Int) := by omega
          have zk : (0 : Int) ≤ (k : Int) ∧ (k : Int) < (l.length : Int) := by omega
          obtain ⟨t, hgt', r0, r1⟩ := st.row.get un hlu
          have HGT := hid hgt'
          have hx0 := st.lo
          have hx1 := st.hi
          have HST := hid st
          have hlt := len_pos (s := t)
          have hlt2 := len_le t
          have HLT := hid hlt
          have HLT2 := hid hlt2
          have HLU := hid hlu
          have HRL := hid (rLen_c t wr)
          clear hm hc hrg hun hgt' hll st hlu
          go_wp2_with fail
          refine HRL.out.mono ?_
          rintro e w7 ⟨rfl, hb7⟩
          have hB7 := HST.out.low.trans (hb7.mono HST.out.low.size)
          have hR7 := HST.out.row.below hb7
          have hc7 := (hB7.cell HCL.out).trans HCC.out
          have HE := hid (rEliminate_c _ M un w7 hR7 HLU.out HST.out.ok)
          have hee := gOf_elR HST.out.ok (v := (un : Int)) (by omega) (by omega)
          have HN : Hid (max X (max (len t) (widthF (gOf (elR M (un : Int))) (l.drop (k + 1)))) = widthF (gOf L) l) := by
            show _ = _
            rw [← HST.out.says, HDR.out, hee]
            simp only [widthF]
            rw [HGT.out]
          have HEV := hid (elR_valid HST.out.ok (v := (un : Int)) (by omega) (by omega))
          have HEL := hid ((elR_length M (un : Int)).trans HST.out.len)
          clear hee hR7 hb7 r0 r1 hc2 HRL
          generalize hld : len t = d at *
          go_wp2_with fail
          all_goals
            refine HE.out.mono ?_
            rintro e w8 ⟨g8, c8, rfl, hg8, hR8, hb8, hc8, hm8⟩
            go_wp2_with fail
            go_roundw
            case rel => exact ⟨k + 1, _, elR M (un : Int), by omega, by go_num, rfl, ⟨by omega, by have := HLT2.out; omega, by have := HN.out; omega, HEV.out, HEL.out, hR8.sets c8, hB7.trans (hb8.mono hB7.size)⟩⟩
            case measure => simp [intOf]; omega
        · obtain rfl : k = l.length := by omega
          have HX : Hid (X = widthF (gOf L) l) := by
            have := st.says
            rw [List.drop_length] at this
            have := st.lo
            simp only [widthF] at *
            show X = _
            omega
          have hBw := st.low
          clear st
          go_wp2_with fail
          go_ret
          exact ⟨by rw [HW.out, ← HX.out]; rfl, hBw⟩
end Go.Proofs.YthgkklahiclcpaaDoor
