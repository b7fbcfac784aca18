/- Walks: which graphs are valid (width). -/
import Derived.Test.YtmlecpapoeodkaaDoorSWalk2
namespace Go.Proofs.YtmlecpapoeodkaaDoor
open Go.RowKit
attribute [local go_sem ↓] run_eqlS run_neqS run_eqlS0 run_neqS0

def okTo0 (L : List VS) (k : Nat) : Prop := ∀ j : Nat, j < k → OkV L (j : Int)
theorem okTo0_succ {L : List VS} {k : Nat} (h : okTo0 L k) (hk : OkV L (k : Int)) : okTo0 L (k + 1) := fun j h2 => by
  by_cases e : j = k
  · subst e; exact hk
  · exact h j (by omega)
set_option maxRecDepth 100000 in
set_option maxHeartbeats 4000000 in
theorem wvalid_c (v : Value) (L : List VS) (w : World) (hI : SetsAt w v L) (hT : TabAt w) (hl : L.length ≤ 140737488355328) :
    Calls Tryd.prog 38 #[v] w fun e w' => e = .returned (.bool (validG L)) ∧ Below w.heap.size w w' := by
  obtain ⟨p, c, rfl, h⟩ := hI
  by_cases h1 : 1 ≤ L.length ∧ L.length ≤ 129
  · obtain ⟨h1, h2⟩ := h1
    obtain ⟨b, off, rfl, hc⟩ := h.resolve_left (by rintro rfl; simp at h1)
    have n1 : ¬ (L.length : Int) - 1 < 0 := by omega
    have n2 : ¬ 128 < (L.length : Int) - 1 := by omega
    have h0 := hc 0 (by omega)
    have HC := hid hc
    obtain ⟨q0, q1⟩ := h0
    rw [show off + 0 * 2 = off from by omega] at q0 q1
    have HZ := hid (gOf_nat L 0 (by omega))
    generalize hs0 : L[0] = s0 at *
    clear hc h hs0
    have z1 : (0 : Int) < (L.length : Int) := by omega
    cases hz : (s0 == 0)
    · have hv := hid (validG_no (L := L) fun hv => by
        have e : s0 = 0 := HZ.out.symm.trans hv.zero
        rw [e] at hz; simp at hz)
      have hz2 : (s0 == 0#128) = false := hz
      have hz3 : ¬ s0 = 0#128 := by simpa using hz
      go_enter Tryd.func38, Tryd.ntmps38
      go_wp2_with fail
      go_ret
      exact ⟨by rw [hv.out]; rfl, Below.refl _ _⟩
    · have hzero : Hid (gOf L 0 = 0) := hid (HZ.out.trans (by simpa using hz))
      have hz2 : (s0 == 0#128) = true := hz
      go_enter Tryd.func38, Tryd.ntmps38
      go_wp2_with fail
      clear q0 q1 hz z1 hz2
      go_loopw [26] (fun i wr => ∃ k : Nat, k ≤ L.length ∧ i = .int .i64 k ∧ Hid (okTo0 L k) ∧ Below w.heap.size w wr) (fun i _ => L.length - (intOf i).toNat)
      case atStart => exact ⟨0, Nat.zero_le _, rfl, fun j hj => by omega, Below.refl _ _⟩
      case round =>
        obtain ⟨k, hk, rfl, hok, hB⟩ := hrel
        by_cases hlt : k < L.length
        · have hs' := (HC.out k hlt).below hB
          obtain ⟨q0, q1⟩ := hs'
          have lb : b < wr.heap.size := cell_lt q0
          have HG := hid (gOf_nat L k hlt)
          have z1 : (0 : Int) ≤ (k : Int) ∧ (k : Int) < (L.length : Int) := by omega
          have HS := hid (okTo0_succ hok.out)
          have HN := hid (fun h : ¬ OkV L (k : Int) => validG_no (L := L) fun hv => h (hv.okAll k))
          have HSUB := hid (sub_no (k := k) h2)
          rw [HG.out] at HSUB
          generalize hss : L[k] = s at *
          have p1 := fun x => Has_c s (k : Int) x
          have p2 := fun x => All_c ((L.length : Int) - 1) x
          have p3 := fun x => Sub_c s (allV ((L.length : Int) - 1)) x
          have hbA : Below wr.heap.size wr (wr.alloc (.cells #[.int .u64 ((lw s).toNat : Int), .int .u64 ((hw s).toNat : Int)] 32)) := (Below.refl _ wr).alloc (Nat.le_refl _) _
          have hSA := SetVar.new wr s 32
          have HBA := hid (hB.trans (hbA.mono hB.size))
          clear hbA
          go_wp2_with fail
          have hnew : wr.heap.size < (wr.alloc (.cells #[.int .u64 ((lw s).toNat : Int), .int .u64 ((hw s).toNat : Int)] 32)).heap.size := hSA.lt
          obtain ⟨n0, n1', _, _⟩ := hSA.cells
          generalize wr.alloc (.cells #[.int .u64 ((lw s).toNat : Int), .int .u64 ((hw s).toNat : Int)] 32) = wa at *
          have hBA := HBA.out
          clear q0 q1 lb
          cases e1 : has s (k : Int)
          · cases e2 : sub s (allV ((L.length : Int) - 1))
            · rw [e1] at p1
              rw [e2] at p3
              have HV := hid (HN.out (HSUB.out e2))
              clear HN HS HSUB e1 e2
              refine wp_region_pure (by kernel_rfl) (by kernel_rfl) ?_
              repeat (go_big_quiet_step ((first | (go_at_call 76; exact Calls.ext_of (p1 _)) | (go_at_call 30; exact Calls.ext_of (p2 _)) | (go_at_call 31; exact Calls.ext_of (p3 _)))))
              refine wpQuiet_nil ?_
              intro w2 hb2
              go_wp2_with fail
              go_ret
              exact ⟨by rw [HV.out]; rfl, hBA.trans (hb2.mono hBA.size)⟩
            · rw [e1] at p1
              rw [e2] at p3
              have HSL := hid (sub_of_le e2)
              have HSE := hid e1
              clear HSUB e1 e2
              refine wp_region_pure (by kernel_rfl) (by kernel_rfl) ?_
              repeat (go_big_quiet_step ((first | (go_at_call 76; exact Calls.ext_of (p1 _)) | (go_at_call 30; exact Calls.ext_of (p2 _)) | (go_at_call 31; exact Calls.ext_of (p3 _)))))
              refine wpQuiet_nil ?_
              intro w2 hb2
              have hB2 := hBA.trans (hb2.mono hBA.size)
              have hn2 := hSA.below hb2 hnew
              obtain ⟨r0, r1, _, _⟩ := hn2.cells
              have HL := hid (List_c s w2 (hT.below hT.lt hB2))
              clear p1 p2 p3 hB hb2 n0 n1' hBA HBA
              go_wp2_with fail
              refine HL.out.mono ?_
              rintro e w3 ⟨v3, rfl, hn3, hb3⟩
              have hB3 := hB2.trans (hb3.mono hB2.size)
              obtain ⟨pm, cm, e4, hm⟩ := hn3.ints
              subst e4
              have HM := hid hm
              have hml := mems_length s
              clear hm hn3 hb3 HL r0 r1 hB2 hn2 hSA hnew
              go_wp2_with fail
              go_loopw [44] (fun i wq => ∃ j : Nat, j ≤ (mems s).length ∧ i = .int .i64 j ∧ Hid (∀ u ∈ (mems s).take j, has (gOf L u) (k : Int) = true) ∧ Below w3.heap.size w3 wq) (fun i _ => (mems s).length - (intOf i).toNat)
              case atStart => exact ⟨0, Nat.zero_le _, rfl, fun u hu => by simp at hu, Below.refl _ _⟩
              case round =>
                obtain ⟨j, hj, rfl, hall, hBq⟩ := hrel
                by_cases hjl : j < (mems s).length
                · obtain ⟨bm, om, rfl, hm⟩ := HM.out.resolve_left (by intro e; rw [e] at hjl; simp at hjl)
                  have hc := hm j hjl
                  rw [List.getElem?_eq_getElem hjl, Option.getD_some] at hc
                  have hc2 := (hBq.cell (cell_lt hc)).trans hc
                  have hmem : has s (mems s)[j] = true := (mem_mems _ _).1 (List.getElem_mem hjl)
                  have hr := has_range hmem
                  have hle := HSL.out _ hmem
                  obtain ⟨un, hun⟩ : ∃ un : Nat, (mems s)[j] = (un : Int) := ⟨((mems s)[j]).toNat, by omega⟩
                  have HT := hid (List.take_succ_eq_append_getElem hjl)
                  rw [hun] at hc2 hr hle hmem HT
                  have hlu : un < L.length := by omega
                  obtain ⟨q0, q1⟩ := ((HC.out un hlu).below hB3).below hBq
                  have HGU := hid (gOf_nat L un hlu)
                  have zu : (0 : Int) ≤ (un : Int) ∧ (un : Int) < (L.length : Int) := by omega
                  have zj : (0 : Int) ≤ (j : Int) ∧ (j : Int) < ((mems s).length : Int) := by omega
                  have hBw := hB3.trans (hBq.mono hB3.size)
                  clear hm hc hr hle hun
                  generalize L[un] = t at *
                  have HH := hid (Has_c t (k : Int) wr)
                  have HMEM := hid hmem
                  cases e3 : has t (k : Int)
                  · rw [e3] at HH
                    have HV := hid (HN.out fun ho => by have := ho.sym un (by rw [HG.out]; exact HMEM.out); rw [HGU.out, e3] at this; cases this)
                    clear e3 hmem
                    go_wp2_with fail
                    refine HH.out.mono ?_
                    rintro e w5 ⟨rfl, hb5⟩
                    go_wp2_with fail
                    go_ret
                    exact ⟨by rw [HV.out]; rfl, hBw.trans (hb5.mono hBw.size)⟩
                  · rw [e3] at HH
                    have HE := hid e3
                    clear e3 hmem
                    go_wp2_with fail
                    refine HH.out.mono ?_
                    rintro e w5 ⟨rfl, hb5⟩
                    go_wp2_with fail
                    go_roundw
                    case rel =>
                      refine ⟨j + 1, by omega, by go_num, fun u hu => ?_, hBq.trans (hb5.mono hBq.size)⟩
                      rw [HT.out] at hu
                      rcases List.mem_append.1 hu with hu | hu
                      · exact hall.out u hu
                      · obtain rfl : u = (un : Int) := by simpa using hu
                        rw [HGU.out]; exact HE.out
                    case measure => simp [intOf]; omega
                · obtain rfl : j = (mems s).length := by omega
                  have HA := hid hall.out
                  rw [List.take_length] at HA
                  have HOK := hid (HS.out ⟨by rw [HG.out]; exact HSE.out, fun u hu => HSL.out u (by rw [HG.out] at hu; exact hu), fun u hu => HA.out u (by rw [HG.out, ← mem_mems] at hu; exact hu)⟩)
                  have hBw := hB3.trans (hBq.mono hB3.size)
                  go_wp2_with fail
                  go_roundw
                  case rel => exact ⟨k + 1, by omega, by go_num, HOK.out, hBw⟩
                  case measure => simp [intOf]; omega
          · rw [e1] at p1
            have HV := hid (HN.out fun ho => by have := ho.self; rw [HG.out, e1] at this; cases this)
            clear HN HS HSUB e1
            refine wp_region_pure (by kernel_rfl) (by kernel_rfl) ?_
            repeat (go_big_quiet_step ((first | (go_at_call 76; exact Calls.ext_of (p1 _)) | (go_at_call 30; exact Calls.ext_of (p2 _)) | (go_at_call 31; exact Calls.ext_of (p3 _)))))
            refine wpQuiet_nil ?_
            intro w2 hb2
            go_wp2_with fail
            go_ret
            exact ⟨by rw [HV.out]; rfl, hBA.trans (hb2.mono hBA.size)⟩
        · obtain rfl : k = L.length := by omega
          have HV := hid (validG_yes (L := L) ⟨h1, h2, hzero.out, fun j _ hj => hok.out j hj⟩)
          go_wp2_with fail
          go_ret
          exact ⟨by rw [HV.out]; rfl, hB⟩
  · have hv := hid (validG_no (L := L) fun hv => h1 ⟨hv.pos, hv.le⟩)
    have hs : (L.length : Int) - 1 < 0 ∨ (¬ (L.length : Int) - 1 < 0 ∧ 128 < (L.length : Int) - 1) := by omega
    clear h h1
    rcases hs with hs | ⟨hs, hs2⟩
    · go_enter Tryd.func38, Tryd.ntmps38
      go_wp2_with fail
      go_ret
      exact ⟨by rw [hv.out]; rfl, Below.refl _ _⟩
    · go_enter Tryd.func38, Tryd.ntmps38
      go_wp2_with fail
      go_ret
      exact ⟨by rw [hv.out]; rfl, Below.refl _ _⟩
end Go.Proofs.YtmlecpapoeodkaaDoor
