/- Walks: the reference of the layer graph: which graphs are valid; orders; widths. -/
import Derived.Test.YthgkklahiclcpaaDoorSRef2
namespace Go.Proofs.YthgkklahiclcpaaDoor
open Go.RowKit
attribute [local go_sem ↓] run_eqlS run_neqS run_eqlS0 run_neqS0

set_option maxRecDepth 100000 in
set_option maxHeartbeats 4000000 in
theorem rValid_c (v : Value) (L : List VS) (w : World) (hI : SetsAt w v L) (hl : L.length ≤ 140737488355328) :
    Calls Tryd.prog 34 #[v] w fun e w' => e = .returned (.bool (validG L)) ∧ Below w.heap.size w w' := by
  obtain ⟨p, c, rfl, h⟩ := hI
  by_cases h1 : 1 ≤ L.length ∧ L.length ≤ 129
  · obtain ⟨h1, h2⟩ := h1
    obtain ⟨b, off, rfl, hc⟩ := h.resolve_left (by rintro rfl; simp at h1)
    have n1 : ¬ (L.length : Int) - 1 < 0 := by omega
    have n2 : ¬ 128 < (L.length : Int) - 1 := by omega
    obtain ⟨q0, q1⟩ := hc 0 (by omega)
    have HC := hid hc
    rw [show off + 0 * 2 = off from by omega] at q0 q1
    have HZ := hid (gOf_nat L 0 (by omega))
    generalize hs0 : L[0] = s0 at *
    clear hc h hs0
    have z1 : (0 : Int) < (L.length : Int) := by omega
    have HLEN := hid (rLen_c s0 w)
    by_cases hz : 0 < len s0
    · have d0 : decide (0 < len s0) = true := decide_eq_true hz
      have hv := hid (validG_no (L := L) fun hv => by
        have e : s0 = 0 := HZ.out.symm.trans hv.zero
        rw [e, len_zero] at hz; omega)
      clear hz
      go_enter Tryd.func34, Tryd.ntmps34
      go_wp2_with fail
      refine HLEN.out.mono ?_
      rintro e w2 ⟨rfl, hb2⟩
      go_wp2_with fail
      go_ret
      exact ⟨by rw [hv.out]; rfl, hb2⟩
    · have d0 : decide (0 < len s0) = false := decide_eq_false hz
      have hzero : Hid (gOf L 0 = 0) := hid (HZ.out.trans (len_none (by omega)))
      clear hz
      go_enter Tryd.func34, Tryd.ntmps34
      go_wp2_with fail
      refine HLEN.out.mono ?_
      rintro e w2 ⟨rfl, hb2⟩
      clear q0 q1 z1
      go_wp2_with fail
      clear d0
      go_loopw [4] (fun i wr => ∃ k : Nat, 1 ≤ k ∧ k ≤ L.length ∧ i = .int .i64 k ∧ Hid (okTo L k) ∧ Below w.heap.size w wr) (fun i _ => L.length - (intOf i).toNat)
      case atStart => exact ⟨1, by omega, h1, rfl, okTo_one L, hb2⟩
      case round =>
        obtain ⟨k, hk1, hk, rfl, hok, hB⟩ := hrel
        by_cases hlt : k < L.length
        · obtain ⟨q0, q1⟩ := (HC.out k hlt).below hB
          have HG := hid (gOf_nat L k hlt)
          have z1 : (0 : Int) ≤ (k : Int) ∧ (k : Int) < (L.length : Int) := by omega
          have z2 : decide ((k : Int) ≤ (L.length : Int) - 1) = true := decide_eq_true (by omega)
          have HS := hid (okTo_succ hok.out)
          have HN := hid (fun h : ¬ OkV L (k : Int) => validG_no (L := L) fun hv => h (hv.ok k hk1 hlt))
          generalize hss : L[k] = s at *
          clear hss
          have HLI := hid (rList_c s wr)
          go_wp2_with fail
          refine HLI.out.mono ?_
          rintro e w3 ⟨v3, rfl, hn3, hb3⟩
          have hB3 := hB.trans (hb3.mono hB.size)
          obtain ⟨pm, cm, e4, hm⟩ := hn3.ints
          subst e4
          have HM := hid hm
          have hml := mems_length s
          clear hm hn3 hb3 HLI q0 q1
          have hk0 : (0 : Int) ≤ (k : Int) := by omega
          go_wp2_with fail
          go_loopw [6] (fun i wq => ∃ j : Nat, j ≤ (mems s).length ∧ i = .int .i64 j ∧ Hid (∀ u ∈ (mems s).take j, u ≤ (L.length : Int) - 1 ∧ u ≠ (k : Int) ∧ has (gOf L u) (k : Int) = true) ∧ Below w3.heap.size w3 wq) (fun i _ => (mems s).length - (intOf i).toNat)
          case atStart => exact ⟨0, Nat.zero_le _, rfl, fun u hu => by simp at hu, Below.refl _ _⟩
          case round =>
            obtain ⟨j, hj, rfl, hall, hBq⟩ := hrel
            have hBw := hB3.trans (hBq.mono hB3.size)
            by_cases hjl : j < (mems s).length
            · obtain ⟨bm, om, rfl, hm⟩ := HM.out.resolve_left (by intro e; rw [e] at hjl; simp at hjl)
              have hc := hm j hjl
              rw [List.getElem?_eq_getElem hjl, Option.getD_some] at hc
              have hc2 := (hBq.cell (cell_lt hc)).trans hc
              have hmem : has s (mems s)[j] = true := (mem_mems _ _).1 (List.getElem_mem hjl)
              have hr := has_range hmem
              obtain ⟨un, hun⟩ : ∃ un : Nat, (mems s)[j] = (un : Int) := ⟨((mems s)[j]).toNat, by omega⟩
              have HT := hid (List.take_succ_eq_append_getElem hjl)
              rw [hun] at hc2 hr hmem HT
              have HMEM := hid hmem
              have zj : (0 : Int) ≤ (j : Int) ∧ (j : Int) < ((mems s).length : Int) := by omega
              clear hm hc hr hun hmem
              by_cases g1 : (L.length : Int) - 1 < (un : Int)
              · have d1 : decide ((L.length : Int) - 1 < (un : Int)) = true := decide_eq_true g1
                have HV := hid (HN.out fun ho => by have := ho.le un (by rw [HG.out]; exact HMEM.out); omega)
                clear g1
                go_wp2_with fail
                go_ret
                exact ⟨by rw [HV.out]; rfl, hBw⟩
              · have d1 : decide ((L.length : Int) - 1 < (un : Int)) = false := decide_eq_false g1
                have hlu : un < L.length := by omega
                by_cases g2 : un = k
                · have d2 : ((un : Int) == (k : Int)) = true := by simp [g2]
                  have HV := hid (HN.out fun ho => by
                    have h1 := ho.self
                    have h2 := HMEM.out
                    rw [g2] at h2
                    rw [HG.out, h2] at h1; cases h1)
                  clear g1 g2
                  go_wp2_with fail
                  go_ret
                  exact ⟨by rw [HV.out]; rfl, hBw⟩
                · have d2 : ((un : Int) == (k : Int)) = false := by simp; omega
                  have HU := hid (show (un : Int) ≤ (L.length : Int) - 1 ∧ (un : Int) ≠ (k : Int) by omega)
                  obtain ⟨q0, q1⟩ := ((HC.out un hlu).below hB3).below hBq
                  have HGU := hid (gOf_nat L un hlu)
                  have zu : (0 : Int) ≤ (un : Int) ∧ (un : Int) < (L.length : Int) := by omega
                  generalize L[un] = t at *
                  have HH := hid (rHas_c t (k : Int) wr)
                  clear g1 g2
                  cases e3 : has t (k : Int)
                  · rw [e3] at HH
                    have HV := hid (HN.out fun ho => by have := ho.sym un (by rw [HG.out]; exact HMEM.out); rw [HGU.out, e3] at this; cases this)
                    clear e3
                    go_wp2_with fail
                    refine HH.out.mono ?_
                    rintro e w5 ⟨rfl, hb5⟩
                    go_wp2_with fail
                    go_ret
                    exact ⟨by rw [HV.out]; rfl, hBw.trans (hb5.mono hBw.size)⟩
                  · rw [e3] at HH
                    have HE := hid e3
                    clear e3
                    go_wp2_with fail
                    refine HH.out.mono ?_
                    rintro e w5 ⟨rfl, hb5⟩
                    go_wp2_with fail
                    go_roundw
                    case rel =>
                      refine ⟨j + 1, by omega, by go_num, fun u hu => ?_, hBq.trans (hb5.mono hBq.size)⟩
                      rw [HT.out] at hu
                      rcases List.mem_append.1 hu with hu | hu
                      · exact hall.out u hu
                      · obtain rfl : u = (un : Int) := by simpa using hu
                        exact ⟨HU.out.1, HU.out.2, by rw [HGU.out]; exact HE.out⟩
                    case measure => simp [intOf]; omega
            · obtain rfl : j = (mems s).length := by omega
              have hal : ∀ u, has (gOf L (k : Int)) u = true → u ≤ (L.length : Int) - 1 ∧ u ≠ (k : Int) ∧ has (gOf L u) (k : Int) = true := fun u hu => hall.out u (by rw [List.take_length]; rw [HG.out] at hu; exact (mem_mems _ _).2 hu)
              have HOK := hid (HS.out ⟨by
                cases e : has (gOf L (k : Int)) (k : Int) with
                | false => rfl
                | true => exact absurd rfl (hal _ e).2.1, fun u hu => (hal u hu).1, fun u hu => (hal u hu).2.2⟩)
              clear hal
              go_wp2_with fail
              go_roundw
              case rel => exact ⟨k + 1, by omega, by omega, by go_num, HOK.out, hBw⟩
              case measure => simp [intOf]; omega
        · obtain rfl : k = L.length := by omega
          have hv := hid (validG_yes (L := L) ⟨h1, h2, hzero.out, fun j a c => hok.out j a c⟩)
          have z2 : decide ((L.length : Int) ≤ (L.length : Int) - 1) = false := decide_eq_false (by omega)
          go_wp2_with fail
          go_ret
          exact ⟨by rw [hv.out]; rfl, hB⟩
  · have hv := hid (validG_no (L := L) fun hv => h1 ⟨hv.pos, hv.le⟩)
    rcases (by omega : (L.length : Int) - 1 < 0 ∨ (¬ (L.length : Int) - 1 < 0 ∧ 128 < (L.length : Int) - 1)) with n1 | ⟨n1, n2⟩ <;>
    · clear h1 h
      go_enter Tryd.func34, Tryd.ntmps34
      go_wp2_with fail
      go_ret
      exact ⟨by rw [hv.out]; rfl, Below.refl _ _⟩
def isOrdB (l : List Int) (n : Int) : Bool := decide ((l.length : Int) = n) && decide (ofL l = allV n)
set_option maxRecDepth 100000 in
set_option maxHeartbeats 1000000 in
theorem rOrder_c (v : Value) (l : List Int) (n : Int) (w : World) (hJ : IntsAt w v l) (hl : l.length ≤ 140737488355328) :
    Calls Tryd.prog 36 #[v, .int .i64 n] w fun e w' => e = .returned (.bool (isOrdB l n)) ∧ Below w.heap.size w w' := by
  obtain ⟨p, c, rfl, hdrop⟩ := id hJ
  clear hdrop
  by_cases h1 : (l.length : Int) = n
  · have d1 : ((l.length : Int) == n) = true := by simp [h1]
    have HO := hid (rOf_c _ l w hJ hl)
    have HB : Hid (isOrdB l n = (ofL l == allV n)) := by
      show _ = _
      unfold isOrdB
      rw [decide_eq_true h1, Bool.true_and, Bool.eq_iff_iff]; simp
    clear h1
    go_enter Tryd.func36, Tryd.ntmps36
    go_wp2_with fail
    refine HO.out.mono ?_
    rintro e w2 ⟨rfl, hb2⟩
    go_wp2_with fail
    refine (rAll_c n w2).mono ?_
    rintro e w3 ⟨rfl, hb3⟩
    have hB3 := hb2.trans (hb3.mono hb2.size)
    go_wp2_with fail
    go_ret
    exact ⟨by rw [HB.out]; rfl, hB3⟩
  · have d1 : ((l.length : Int) == n) = false := by simp [h1]
    have HB : Hid (isOrdB l n = false) := by
      show _ = _
      unfold isOrdB
      rw [decide_eq_false h1, Bool.false_and]
    clear h1
    go_enter Tryd.func36, Tryd.ntmps36
    go_wp2_with fail
    go_ret
    exact ⟨by rw [HB.out]; rfl, Below.refl _ _⟩
end Go.Proofs.YthgkklahiclcpaaDoor
