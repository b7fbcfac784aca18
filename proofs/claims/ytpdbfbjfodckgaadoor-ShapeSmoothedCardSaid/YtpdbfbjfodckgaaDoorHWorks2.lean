/- Walks: the example that every law of the chapter looks at, walked. -/
import Derived.Test.YtpdbfbjfodckgaaDoorHWorks
namespace Go.Proofs.YtpdbfbjfodckgaaDoor
open Go.RowKit

set_option maxRecDepth 100000 in
set_option maxHeartbeats 8000000 in
theorem works_c (w : World) (hT : TabAt w) (hP : PatAt w) : Calls Tryd.prog 13 #[] w (LawPost w) := by
  have HT := hid hT
  have HP := hid hP
  clear hT hP
  go_enter Tryd.func13, Tryd.ntmps13
  go_wp2_with fail
  refine (sample_c w).mono ?_
  rintro e w1 ⟨vn, rfl, hn1, hb1⟩
  obtain ⟨pn, cn, rfl⟩ : ∃ p c, vn = .slice p 5 c := by obtain ⟨p, c, e, _⟩ := hn1; exact ⟨p, c, e⟩
  have hb2 : Below w1.heap.size w1 (w1.alloc (.cells #[.int .i64 3, .slice pn 5 cn] 24)) := (Below.refl _ w1).alloc (Nat.le_refl _) _
  have hv2 := NetVar.new w1 3 (.slice pn 5 cn) 24
  have hB2 := hb1.trans (hb2.mono hb1.size)
  have hn2 := hn1.below hb2
  have hDT := Deterministic_c 3 sampleL _ _ hn2 (HT.out.below HT.out.lt hB2) (HP.out.below HP.out.lt hB2)
  obtain ⟨x0, x1⟩ := hv2
  have HV2 := hid (NetVar.new w1 3 (.slice pn 5 cn) 24)
  have HB2 := hid hB2
  have HN2 := hid hn2
  have HDT := hid hDT
  clear hn1 hb1 hb2 hB2 hn2 hDT
  go_wp2_with fail
  generalize w1.alloc (.cells #[.int .i64 3, .slice pn 5 cn] 24) = w2 at *
  obtain ⟨bn, hbn⟩ : ∃ bn, bn = w1.heap.size := ⟨_, rfl⟩
  rw [← hbn] at HV2 ⊢
  clear hbn x0 x1
  refine HDT.out.mono ?_
  rintro e w3 ⟨rfl, hb3⟩
  rw [sample_detYes, sample_detNo]
  have hv3 := HV2.out.below hb3
  obtain ⟨y0, y1⟩ := hv3
  have HV3 := hid (HV2.out.below hb3)
  have HN3 := hid (HN2.out.below hb3)
  have HB3 := hid (HB2.out.trans (hb3.mono HB2.out.size))
  have HSM := hid (Smoothed_c 3 sampleL _ w3 HN3.out sample_valid (HT.out.below HT.out.lt HB3.out) (by rw [sample_smooth]; decide) (by decide))
  clear hb3 HV2 HN2 HB2 HDT
  go_wp2_with fail
  refine HSM.out.mono ?_
  rintro e w4 ⟨vs, us, rfl, ho4, hb4⟩
  rw [sample_smooth] at ho4
  have hs4 := ho4.nodes
  obtain ⟨bs, os, cs, rfl, hs4c⟩ : ∃ b o c, vs = .slice (some ⟨b, o, none⟩) 9 c ∧ ∀ i (h : i < sampleS.length), ∃ u, NodeAt w4 b (o + i * 3) sampleS[i] u := by
    obtain ⟨p, c, e, h⟩ := hs4
    obtain ⟨b, o, rfl, h2⟩ := h.resolve_left (by decide)
    exact ⟨b, o, c, e, h2⟩
  have hb5 : Below w4.heap.size w4 (w4.alloc (.cells #[.int .i64 3, .slice (some ⟨bs, os, none⟩) 9 cs] 24)) := (Below.refl _ w4).alloc (Nat.le_refl _) _
  have h35 := hb4.trans (hb5.mono hb4.size)
  have HV5 := hid (HV3.out.below h35)
  have HN5 := hid (HN3.out.below h35)
  have HB5 := hid (HB3.out.trans (h35.mono HB3.out.size))
  have HS5 := hid (show NodesAt _ _ sampleS from hs4.below hb5)
  obtain ⟨z0, z1⟩ := NetVar.new w4 3 (.slice (some ⟨bs, os, none⟩) 9 cs) 24
  have HZ5 := hid (NetVar.new w4 3 (.slice (some ⟨bs, os, none⟩) 9 cs) 24)
  obtain ⟨y0', y1'⟩ := HV3.out.below hb4
  have ly : bn < w4.heap.size := cell_lt y0'
  clear hb4 hb5 h35 hs4 ho4 HV3 HN3 HB3 HSM y0 y1
  obtain ⟨u7, hu7⟩ := hs4c 7 (by decide)
  have HU5 := hid (show NodeAt (w4.alloc (.cells #[.int .i64 3, .slice (some ⟨bs, os, none⟩) 9 cs] 24)) bs (os + 21) ⟨3, 0, [3, 6]⟩ u7 from hu7.below ((Below.refl _ w4).alloc (Nat.le_refl _) _))
  clear hs4c hu7
  go_wp2_with fail
  obtain ⟨bz, hbz⟩ : ∃ bz, bz = w4.heap.size := ⟨_, rfl⟩
  rw [← hbz] at HZ5 z0 z1 ly ⊢
  generalize w4.alloc (.cells #[.int .i64 3, .slice (some ⟨bs, os, none⟩) 9 cs] 24) = w5 at *
  clear hbz z0 z1 y0' y1' ly
  refine (Decomposable_c 3 sampleL _ w5 HN5.out).mono ?_
  rintro e w6 ⟨rfl, hb6⟩
  rw [sample_valid, sample_dec]
  obtain ⟨y0, y1⟩ := HV5.out.below hb6
  obtain ⟨z0, z1⟩ := HZ5.out.below hb6
  have HV6 := hid (HV5.out.below hb6)
  have HZ6 := hid (HZ5.out.below hb6)
  have HN6 := hid (HN5.out.below hb6)
  have HS6 := hid (HS5.out.below hb6)
  have HU6 := hid (HU5.out.below hb6)
  have HB6 := hid (HB5.out.trans (hb6.mono HB5.out.size))
  clear hb6 HV5 HZ5 HN5 HS5 HU5 HB5
  go_wp2_with fail
  refine (Decision_c 3 sampleL _ w6 HN6.out (by intro k h; exact (show ∀ x ∈ sampleL, x.ins.length ≤ 65536 by decide) _ (List.getElem_mem h))).mono ?_
  rintro e w7 ⟨rfl, hb7⟩
  rw [sample_valid, sample_dcn]
  obtain ⟨y0, y1⟩ := HV6.out.below hb7
  obtain ⟨z0, z1⟩ := HZ6.out.below hb7
  have HV7 := hid (HV6.out.below hb7)
  have HZ7 := hid (HZ6.out.below hb7)
  have HN7 := hid (HN6.out.below hb7)
  have HS7 := hid (HS6.out.below hb7)
  have HU7 := hid (HU6.out.below hb7)
  have HB7 := hid (HB6.out.trans (hb7.mono HB6.out.size))
  clear hb7 HV6 HZ6 HN6 HS6 HU6 HB6
  go_wp2_with fail
  refine (Smooth_c 3 sampleL _ w7 HN7.out).mono ?_
  rintro e w8 ⟨rfl, hb8⟩
  rw [sample_valid, sample_rough]
  obtain ⟨y0, y1⟩ := HV7.out.below hb8
  obtain ⟨z0, z1⟩ := HZ7.out.below hb8
  have HV8 := hid (HV7.out.below hb8)
  have HZ8 := hid (HZ7.out.below hb8)
  have HN8 := hid (HN7.out.below hb8)
  have HS8 := hid (HS7.out.below hb8)
  have HU8 := hid (HU7.out.below hb8)
  have HB8 := hid (HB7.out.trans (hb8.mono HB7.out.size))
  clear hb8 HV7 HZ7 HN7 HS7 HU7 HB7
  go_wp2_with fail
  refine (Smooth_c 3 sampleS _ w8 HS8.out).mono ?_
  rintro e w9 ⟨rfl, hb9⟩
  rw [sampleS_valid, sampleS_smooth]
  obtain ⟨y0, y1⟩ := HV8.out.below hb9
  obtain ⟨z0, z1⟩ := HZ8.out.below hb9
  have HV9 := hid (HV8.out.below hb9)
  have HZ9 := hid (HZ8.out.below hb9)
  have HN9 := hid (HN8.out.below hb9)
  have HS9 := hid (HS8.out.below hb9)
  have HU9 := hid (HU8.out.below hb9)
  have HB9 := hid (HB8.out.trans (hb9.mono HB8.out.size))
  clear hb9 HV8 HZ8 HN8 HS8 HU8 HB8
  have k7 := HU9.out.ins
  obtain ⟨p7, c7, rfl, h7⟩ : ∃ p c, u7 = .slice p 2 c ∧ ([(3 : Int), 6] = [] ∨ ∃ b off, p = some ⟨b, off, none⟩ ∧ ∀ i, i < 2 → w9.cell? ⟨b, off + i, none⟩ = some (.int .i64 ([(3 : Int), 6][i]?.getD 0))) := HU9.out.ints
  obtain ⟨b7, o7, rfl, h7b⟩ := h7.resolve_left (by simp)
  have i0 := h7b 0 (by decide)
  have i1 := h7b 1 (by decide)
  simp only [Nat.add_zero, List.getElem?_cons_zero, List.getElem?_cons_succ, Option.getD_some] at i0 i1
  clear h7 h7b
  go_wp2_with fail
  refine (lit_c 1 _).mono ?_
  rintro e w10 ⟨rfl, hb10⟩
  have HB10 := hid (HB9.out.trans (hb10.mono HB9.out.size))
  clear hb10 i0 i1 k7 y0 y1 z0 z1 HV9 HZ9 HN9 HS9 HU9 HB9
  go_wp2_with fail
  refine (lit_c (-1) _).mono ?_
  rintro e w11 ⟨rfl, hb11⟩
  have hB11 := HB10.out.trans (hb11.mono HB10.out.size)
  have HB12 := hid (hB11.alloc hB11.size (.cells #[.int .i64 0, .int .i64 1] 3))
  have I12 := hid (own_pair w11 (B := 0) (Nat.zero_le _) 0 1)
  clear hb11 HB10 hB11
  go_wp2_with fail
  generalize w11.alloc (.cells #[.int .i64 0, .int .i64 1] 3) = w12 at *
  refine (and_c _ _ _ _).mono ?_
  rintro e w13 ⟨rfl, hb13⟩
  have hB13 := HB12.out.trans (hb13.mono HB12.out.size)
  have hi13 := (I12.out.below hb13).ints
  have hn13 := nodes_new w13 badL [.slice none 0 0, .slice none 0 0, .slice (some ⟨w11.heap.size, 0, none⟩) 2 2] 3 rfl (fun i hi => by
    have hi3 : i < 3 := hi
    match i, hi3 with
    | 0, _ => exact ⟨_, rfl, IntsAt.none_nil _, by simp [badL]⟩
    | 1, _ => exact ⟨_, rfl, IntsAt.none_nil _, by simp [badL]⟩
    | 2, _ => exact ⟨_, rfl, hi13, by simp [badL]⟩)
  have HB14 := hid (hB13.alloc hB13.size (.cells (nodeCells badL [.slice none 0 0, .slice none 0 0, .slice (some ⟨w11.heap.size, 0, none⟩) 2 2]).toArray 39))
  have HDC := hid (Decomposable_c 1 badL _ _ hn13)
  clear hb13 hB13 hi13 hn13 I12 HB12
  go_wp2_with fail
  refine HDC.out.mono ?_
  rintro e w15 ⟨rfl, hb15⟩
  rw [bad_valid, bad_dec]
  have HB15 := hid (HB14.out.trans (hb15.mono HB14.out.size))
  clear hb15
  go_wp2_with fail
  go_ret
  exact ⟨rfl, HB15.out⟩
end Go.Proofs.YtpdbfbjfodckgaaDoor
