/- Walks: a graph's clone, and which graphs are valid. -/
import Derived.Test.YthgkklahiclcpaaDoorSPlain
import Derived.Test.YthgkklahiclcpaaDoorSMem
import Derived.Test.YthgkklahiclcpaaDoorVWalk8
import Derived.Test.YthgkklahiclcpaaDoorTake2
import Derived.Lib.BufferMore
namespace Go.Proofs.YthgkklahiclcpaaDoor
open Go.RowKit
attribute [local go_sem ↓] run_eqlS run_neqS run_eqlS0 run_neqS0

theorem sets_nil (w : World) (c : Nat) : SetsAt w (.slice none 0 c) [] := ⟨_, _, rfl, .inl rfl⟩
def CloneS (L : List VS) (w : World) (e : Ending) (w' : World) : Prop := ∃ g c, e = .returned (.slice (some ⟨g, 0, none⟩) L.length c) ∧ w.heap.size ≤ g ∧ SetRow w' g L ∧ Below w.heap.size w w' ∧ L.length ≤ c ∧ c ≤ maxLen
set_option maxRecDepth 100000 in
set_option maxHeartbeats 1000000 in
theorem Clone_c (v : Value) (L : List VS) (w : World) (hI : SetsAt w v L) (hne : L ≠ []) (hl : L.length ≤ 4294967296) :
    Calls Tryd.prog 48 #[v] w (CloneS L w) := by
  obtain ⟨p, c, rfl, h⟩ := hI
  obtain ⟨b, off, rfl, hc⟩ := h.resolve_left hne
  obtain ⟨i0, hi, hz0, hz1, hz2⟩ := info_parts info_set
  have hb1 : Below w.heap.size w (w.alloc (.cells #[] 35)) := (Below.refl _ w).alloc (Nat.le_refl _) _
  have hpos : 0 < L.length := List.length_pos_iff.2 hne
  have hnil : ∀ W, (binOp .eql 22 (.slice (some ⟨b, off, none⟩) L.length c) (.slice none 0 0)).run Tryd.prog W = .ok (.bool false) W := fun W => Lib.run_eql_slice_some_nil W _ _ _ Tryd.underlying22
  have HC := hid (SetsAt.cells (w := w.alloc (.cells #[] 35)) fun i hi => (hc i hi).below hb1)
  clear hc h
  go_enter Tryd.func48, Tryd.ntmps48
  go_wp2_with (at_builtin; refine wpList_append_grows _ rfl _ _ 22 rfl 35 i0 (encS 0) 2 16 Tryd.underlying22 hi hz0 hz1 hz2 rfl (by decide) (some ⟨w.heap.size, 0, none⟩) 0 0 [] rfl (fun e => by cases e) rfl (fun b hb j u hj => by simp at hj) ⟨b, off, none⟩ L.length c (setCells L) rfl (setCells_length L) HC.out (setCells_one L) (by omega) (by unfold maxLen; omega) (by omega) ?_; intro v' w' hown hgr)
  go_ret
  rw [Nat.zero_add, List.nil_append] at hown
  obtain ⟨g, c', rfl, hg, hr, h1, h2⟩ := ownsRow_sets hown hne
  exact ⟨g, c', rfl, by simp at hg; omega, hr, hb1.grown hgr (by simp) (fun k e => by cases e), h1, h2⟩
/-- What is known of the vertices before k. -/
def okTo (L : List VS) (k : Nat) : Prop := ∀ j : Nat, 1 ≤ j → j < k → OkV L (j : Int)
theorem okTo_one (L : List VS) : okTo L 1 := fun j h1 h2 => by omega
theorem okTo_succ {L : List VS} {k : Nat} (h : okTo L k) (hk : OkV L (k : Int)) : okTo L (k + 1) := fun j h1 h2 => by
  by_cases e : j = k
  · subst e; exact hk
  · exact h j h1 (by omega)
theorem sub_of_le {s : VS} {n : Int} (h : sub s (allV n) = true) : ∀ w, has s w = true → w ≤ n := fun w hw => by
  have := (sub_iff _ _).1 h w hw
  rw [has_allV] at this
  simp at this; omega
theorem sub_no {L : List VS} {k : Nat} (_hle : L.length ≤ 129) (h : sub (gOf L (k : Int)) (allV ((L.length : Int) - 1)) = false) : ¬ OkV L (k : Int) := fun ho => by
  have : sub (gOf L (k : Int)) (allV ((L.length : Int) - 1)) = true := (sub_iff _ _).2 fun w hw => by
    rw [has_allV]
    have := ho.le w hw
    have := has_range hw
    simp; omega
  rw [h] at this; cases this
set_option maxRecDepth 100000 in
set_option maxHeartbeats 4000000 in
theorem valid_c (v : Value) (L : List VS) (w : World) (hI : SetsAt w v L) (hT : TabAt w) (hl : L.length ≤ 140737488355328) :
    Calls Tryd.prog 45 #[v] w fun e w' => e = .returned (.bool (validG L)) ∧ Below w.heap.size w w' := by
  obtain ⟨p, c, rfl, h⟩ := hI
  by_cases h1 : 1 ≤ L.length ∧ L.length ≤ 129
  · obtain ⟨h1, h2⟩ := h1
    obtain ⟨b, off, rfl, hc⟩ := h.resolve_left (by rintro rfl; simp at h1)
    have n1 : ¬ (L.length : Int) - 1 < 0 := by omega
    have n2 : ¬ 128 < (L.length : Int) - 1 := by omega
    have h0 := hc 0 (by omega)
    have HC := hid hc
    obtain ⟨q0, q1⟩ := h0
    rw [show off + 0 * 2 = off from by omega] at q0 q1
    have HZ := hid (gOf_nat L 0 (by omega))
    generalize hs0 : L[0] = s0 at *
    clear hc h hs0
    have z1 : (0 : Int) < (L.length : Int) := by omega
    cases hz : (s0 == 0)
    · have hv := hid (validG_no (L := L) fun hv => by
        have e : s0 = 0 := HZ.out.symm.trans hv.zero
        rw [e] at hz; simp at hz)
      have hz2 : (s0 == 0#128) = false := hz
      have hz3 : ¬ s0 = 0#128 := by simpa using hz
      go_enter Tryd.func45, Tryd.ntmps45
      go_wp2_with fail
      go_ret
      exact ⟨by rw [hv.out]; rfl, Below.refl _ _⟩
    · have hzero : Hid (gOf L 0 = 0) := hid (HZ.out.trans (by simpa using hz))
      have hz2 : (s0 == 0#128) = true := hz
      go_enter Tryd.func45, Tryd.ntmps45
      go_wp2_with fail
      clear q0 q1 hz z1 hz2
      go_loopw [4] (fun i wr => ∃ k : Nat, 1 ≤ k ∧ k ≤ L.length ∧ i = .int .i64 k ∧ Hid (okTo L k) ∧ Below w.heap.size w wr) (fun i _ => L.length - (intOf i).toNat)
      case atStart => exact ⟨1, by omega, h1, rfl, okTo_one L, Below.refl _ _⟩
      case round =>
        obtain ⟨k, hk1, hk, rfl, hok, hB⟩ := hrel
        by_cases hlt : k < L.length
        · have hs' := (HC.out k hlt).below hB
          obtain ⟨q0, q1⟩ := hs'
          have lb : b < wr.heap.size := cell_lt q0
          have HG := hid (gOf_nat L k hlt)
          have z1 : (0 : Int) ≤ (k : Int) ∧ (k : Int) < (L.length : Int) := by omega
          have z2 : decide ((k : Int) ≤ (L.length : Int) - 1) = true := decide_eq_true (by omega)
          have HS := hid (okTo_succ hok.out)
          have HN := hid (fun h : ¬ OkV L (k : Int) => validG_no (L := L) fun hv => h (hv.ok k hk1 hlt))
          have HSUB := hid (sub_no (k := k) h2)
          rw [HG.out] at HSUB
          generalize hss : L[k] = s at *
          have p1 := fun x => Has_c s (k : Int) (ext wr x)
          have p2 := fun x => All_c ((L.length : Int) - 1) (ext wr x)
          have p3 := fun x => Sub_c s (allV ((L.length : Int) - 1)) (ext wr x)
          cases e1 : has s (k : Int)
          · cases e2 : sub s (allV ((L.length : Int) - 1))
            · rw [e1] at p1
              rw [e2] at p3
              have HV := hid (HN.out (HSUB.out e2))
              clear HN HS HSUB e1 e2
              go_wp2_with fail
              refine wp_region_pure (by kernel_rfl) (by kernel_rfl) ?_
              repeat (go_big_quiet_step ((first | (go_at_call 68; exact Calls.ext_of (p1 _)) | (go_at_call 47; exact Calls.ext_of (p2 _)) | (go_at_call 69; exact Calls.ext_of (p3 _)))))
              refine wpQuiet_nil ?_
              intro w2 hb2
              go_wp2_with fail
              go_ret
              exact ⟨by rw [HV.out]; rfl, hB.trans (hb2.mono hB.size)⟩
            · rw [e1] at p1
              rw [e2] at p3
              have HSL := hid (sub_of_le e2)
              have HSE := hid e1
              clear HSUB e1 e2
              go_wp2_with fail
              refine wp_region_pure (by kernel_rfl) (by kernel_rfl) ?_
              repeat (go_big_quiet_step ((first | (go_at_call 68; exact Calls.ext_of (p1 _)) | (go_at_call 47; exact Calls.ext_of (p2 _)) | (go_at_call 69; exact Calls.ext_of (p3 _)))))
              refine wpQuiet_nil ?_
              intro w2 hb2
              have hB2 := hB.trans (hb2.mono hB.size)
              have hs2 := (HC.out k hlt).below hB2
              rw [hss] at hs2
              obtain ⟨r0, r1⟩ := hs2
              have HL := hid (List_c s w2 (hT.below hT.lt hB2))
              clear p1 p2 p3 q0 q1 hB lb hb2
              go_wp2_with fail
              refine HL.out.mono ?_
              rintro e w3 ⟨v3, rfl, hn3, hb3⟩
              have hB3 := hB2.trans (hb3.mono hB2.size)
              obtain ⟨pm, cm, e4, hm⟩ := hn3.ints
              subst e4
              have HM := hid hm
              have hml := mems_length s
              clear hm hn3 hb3 HL r0 r1 hB2
              have hk0 : (0 : Int) ≤ (k : Int) := by omega
              go_wp2_with fail
              go_loopw [50] (fun i wq => ∃ j : Nat, j ≤ (mems s).length ∧ i = .int .i64 j ∧ Hid (∀ u ∈ (mems s).take j, has (gOf L u) (k : Int) = true) ∧ Below w3.heap.size w3 wq) (fun i _ => (mems s).length - (intOf i).toNat)
              case atStart => exact ⟨0, Nat.zero_le _, rfl, fun u hu => by simp at hu, Below.refl _ _⟩
              case round =>
                obtain ⟨j, hj, rfl, hall, hBq⟩ := hrel
                by_cases hjl : j < (mems s).length
                · obtain ⟨bm, om, rfl, hm⟩ := HM.out.resolve_left (by intro e; rw [e] at hjl; simp at hjl)
                  have hc := hm j hjl
                  rw [List.getElem?_eq_getElem hjl, Option.getD_some] at hc
                  have hc2 := (hBq.cell (cell_lt hc)).trans hc
                  have hmem : has s (mems s)[j] = true := (mem_mems _ _).1 (List.getElem_mem hjl)
                  have hr := has_range hmem
                  have hle := HSL.out _ hmem
                  obtain ⟨un, hun⟩ : ∃ un : Nat, (mems s)[j] = (un : Int) := ⟨((mems s)[j]).toNat, by omega⟩
                  have HT := hid (List.take_succ_eq_append_getElem hjl)
                  rw [hun] at hc2 hr hle hmem HT
                  have hlu : un < L.length := by omega
                  obtain ⟨q0, q1⟩ := ((HC.out un hlu).below hB3).below hBq
                  have HGU := hid (gOf_nat L un hlu)
                  have zu : (0 : Int) ≤ (un : Int) ∧ (un : Int) < (L.length : Int) := by omega
                  have zj : (0 : Int) ≤ (j : Int) ∧ (j : Int) < ((mems s).length : Int) := by omega
                  have hBw := hB3.trans (hBq.mono hB3.size)
                  clear hm hc hr hle hun
                  generalize L[un] = t at *
                  have HH := hid (Has_c t (k : Int) wr)
                  have HMEM := hid hmem
                  cases e3 : has t (k : Int)
                  · rw [e3] at HH
                    have HV := hid (HN.out fun ho => by have := ho.sym un (by rw [HG.out]; exact HMEM.out); rw [HGU.out, e3] at this; cases this)
                    clear e3 hmem
                    go_wp2_with fail
                    refine HH.out.mono ?_
                    rintro e w5 ⟨rfl, hb5⟩
                    go_wp2_with fail
                    go_ret
                    exact ⟨by rw [HV.out]; rfl, hBw.trans (hb5.mono hBw.size)⟩
                  · rw [e3] at HH
                    have HE := hid e3
                    clear e3 hmem
                    go_wp2_with fail
                    refine HH.out.mono ?_
                    rintro e w5 ⟨rfl, hb5⟩
                    go_wp2_with fail
                    go_roundw
                    case rel =>
                      refine ⟨j + 1, by omega, by go_num, fun u hu => ?_, hBq.trans (hb5.mono hBq.size)⟩
                      rw [HT.out] at hu
                      rcases List.mem_append.1 hu with hu | hu
                      · exact hall.out u hu
                      · obtain rfl : u = (un : Int) := by simpa using hu
                        rw [HGU.out]; exact HE.out
                    case measure => simp [intOf]; omega
                · obtain rfl : j = (mems s).length := by omega
                  have HOK := hid (HS.out ⟨by rw [HG.out]; exact HSE.out, fun u hu => HSL.out u (by rw [HG.out] at hu; exact hu), fun u hu => hall.out u (by rw [List.take_length]; rw [HG.out] at hu; exact (mem_mems _ _).2 hu)⟩)
                  have hBw := hB3.trans (hBq.mono hB3.size)
                  go_wp2_with fail
                  go_roundw
                  case rel => exact ⟨k + 1, by omega, by omega, by go_num, HOK.out, hBw⟩
                  case measure => simp [intOf]; omega
          · rw [e1] at p1
            have HV := hid (HN.out fun ho => by have := ho.self; rw [HG.out, e1] at this; cases this)
            clear HN HS HSUB e1
            go_wp2_with fail
            refine wp_region_pure (by kernel_rfl) (by kernel_rfl) ?_
            repeat (go_big_quiet_step ((first | (go_at_call 68; exact Calls.ext_of (p1 _)) | (go_at_call 47; exact Calls.ext_of (p2 _)) | (go_at_call 69; exact Calls.ext_of (p3 _)))))
            refine wpQuiet_nil ?_
            intro w2 hb2
            go_wp2_with fail
            go_ret
            exact ⟨by rw [HV.out]; rfl, hB.trans (hb2.mono hB.size)⟩
        · obtain rfl : k = L.length := by omega
          have hv := hid (validG_yes (L := L) ⟨h1, h2, hzero.out, fun j a c => hok.out j a c⟩)
          have z2 : decide ((L.length : Int) ≤ (L.length : Int) - 1) = false := decide_eq_false (by omega)
          go_wp2_with fail
          go_ret
          exact ⟨by rw [hv.out]; rfl, hB⟩
  · have hv := hid (validG_no (L := L) fun hv => h1 ⟨hv.pos, hv.le⟩)
    rcases (by omega : (L.length : Int) - 1 < 0 ∨ (¬ (L.length : Int) - 1 < 0 ∧ 128 < (L.length : Int) - 1)) with n1 | ⟨n1, n2⟩ <;>
    · clear h1 h
      go_enter Tryd.func45, Tryd.ntmps45
      go_wp2_with fail
      go_ret
      exact ⟨by rw [hv.out]; rfl, Below.refl _ _⟩
end Go.Proofs.YthgkklahiclcpaaDoor
