/- The walks of the laws FileReads and FileSeals. -/
import Derived.Test.YtkfmblpcfgdgpaaGDec
import Derived.Test.YtkfmblpcfgdgpaaFOneW
namespace Go.Proofs.Ytkfmblpcfgdgpaa
open Go.RowKit

theorem decNet_len (b : List UInt8) : (decNet b).l.length ≤ 65536 := by
  by_cases h : decNo b = 0
  · have := (encNo_zero.1 (enc_dec h).1).1
    exact (valid_from.1 this).1.2.2.2
  · rw [dec_bad h]; exact Nat.zero_le _
set_option maxRecDepth 100000 in
set_option maxHeartbeats 4000000 in
theorem fileReads_walk (p : Option Addr) (c : Nat) (l : List UInt8) (w : World) (hI : BytesAt w (.slice p l.length c) l) (hc : l.length ≤ c) (_hcm : c ≤ 9223372036854775807) :
    Calls Try.prog 4 #[.slice p l.length c] w (LawPost w) := by
  by_cases hgt : 5000 < l.length
  · have hg : decide ((5000 : Int) < (l.length : Int)) = true := decide_eq_true (by omega)
    go_enter Try.func4, Try.ntmps4
    go_wp2_with fail
    refine (works_c w).mono ?_
    rintro e w2 ⟨rfl, hb2⟩
    go_wp2_with fail
    go_ret
    exact ⟨rfl, hb2⟩
  · have hg : decide ((5000 : Int) < (l.length : Int)) = false := decide_eq_false (by omega)
    have hr0 := Row.lit w [] (by simp)
    have hb0 : Below w.heap.size w (w.alloc (.cells #[] 5)) := (Below.refl _ w).alloc (Nat.le_refl _) _
    have hI0 := hI.below hb0
    change Row (w.alloc (.cells #[] 5)) w.heap.size (.slice (some ⟨w.heap.size, 0, none⟩) 0 0) [] at hr0
    go_enter Try.func4, Try.ntmps4
    go_wp2_with (at_builtin; refine wpList_append_bytes rfl _ _ rfl w.heap.size _ [] rfl hr0 _ l rfl hI0 (by simp; omega) (by simp) ?_; intro v2 w2 hr2 hb2 hg2; have hB2 := hb0.trans hb2)
    rw [List.nil_append] at hr2
    obtain ⟨p2, c2, rfl, hc2, hm2⟩ := hr2.capOk (by omega)
    have hI2 := hI.below hB2
    have hby2 := hr2.bytes
    clear hr2 hb2 hg2 hI0 hb0 hr0
    refine (Decode_c p2 c2 l w2 hby2 hc2 hm2 (by omega)).mono ?_
    rintro e w3 ⟨v3, vs3, rfl, ho3, hb3⟩
    have hB3 := hB2.trans (hb3.mono hB2.size)
    have hby3 := hby2.below hb3
    have hI3 := hI2.below hb3
    have hN3 := ho3.nodes
    obtain ⟨p3, c3, rfl, hdrop⟩ := id hN3
    clear hdrop ho3 hb3 hI2 hby2 hB2
    have hln := decNet_len l
    have hlz : l.length ≤ 140737488355328 := by omega
    have HREF := hid (fun w' (h : BytesAt w' (.slice p l.length c) l) => rDecode_c p c l w' h hc hlz)
    clear hlz
    generalize hd : decNet l = d at *
    obtain ⟨dn, dl⟩ := d
    have HD := hid hd
    generalize hdo : decNo l = no at *
    have HDO := hid hdo
    clear hd hdo
    have hln : dl.length ≤ 65536 := hln
    change NodesAt w3 (.slice p3 dl.length c3) dl at hN3
    have hbe : Below w3.heap.size w3 (w3.alloc (.cells #[.int .i64 dn, .slice p3 dl.length c3] 24)) := (Below.refl _ w3).alloc (Nat.le_refl _) _
    have hB4 := hB3.trans (hbe.mono hB3.size)
    have hby4 := hby3.below hbe
    have hI4 := hI3.below hbe
    have hN4 := hN3.below hbe
    have hbx4 := heap_alloc_new w3 (.cells #[.int .i64 dn, .slice p3 dl.length c3] 24)
    clear hbe hB3 hby3 hI3 hN3
    go_wp2_with fail
    generalize w3.alloc (.cells #[.int .i64 dn, .slice p3 dl.length c3] 24) = w4 at *
    refine (HREF.out w4 hI4).mono ?_
    rintro e w5 ⟨v5, vs5, rfl, ho5, hb5⟩
    rw [HD.out] at ho5
    rw [HD.out, HDO.out]
    have hB5 := hB4.trans (hb5.mono hB4.size)
    have hby5 := hby4.below hb5
    have hI5 := hI4.below hb5
    have hN5 := hN4.below hb5
    have hM5 : NodesAt w5 v5 dl := ho5.nodes
    have hbx5 := (hb5.block _ (box_lt hbx4)).trans hbx4
    obtain ⟨p5, c5, rfl, hdrop⟩ := id hM5
    clear hdrop ho5 hb5 hB4 hby4 hI4 hN4 hbx4 HREF
    have hbe : Below w5.heap.size w5 (w5.alloc (.cells #[.int .i64 dn, .slice p5 dl.length c5] 24)) := (Below.refl _ w5).alloc (Nat.le_refl _) _
    have hB6 := hB5.trans (hbe.mono hB5.size)
    have hby6 := hby5.below hbe
    have hI6 := hI5.below hbe
    have hN6 := hN5.below hbe
    have hM6 := hM5.below hbe
    have hbx6 := (hbe.block _ (box_lt hbx5)).trans hbx5
    have hby6' := heap_alloc_new w5 (.cells #[.int .i64 dn, .slice p5 dl.length c5] 24)
    obtain ⟨⟨m0, m1⟩, _⟩ := box2 hbx6
    obtain ⟨⟨q0, q1⟩, _⟩ := box2 hby6'
    have HS := hid (rSameNet_c dn dn dl dl _ _ _ hN6 hM6 (by omega) (by omega))
    rw [decide_eq_true (rfl : (⟨dn, dl⟩ : NetT) = ⟨dn, dl⟩)] at HS
    have HBY := hid hby6
    have HIB := hid hI6
    clear hbe hB5 hby5 hI5 hN5 hM5 hbx5 hbx6 hby6' hN6 hM6 hI hby6 hI6
    go_wp2_with fail
    generalize w5.alloc (.cells #[.int .i64 dn, .slice p5 dl.length c5] 24) = w6 at *
    refine HS.out.mono ?_
    rintro e w7 ⟨rfl, hb7⟩
    have hB7 := hB6.trans (hb7.mono hB6.size)
    have hca := conv_str (HBY.out.below hb7)
    have hcb := conv_str (HIB.out.below hb7)
    clear hb7 hB6
    go_wp2_with fail
    refine (works_c w7).mono ?_
    rintro e w8 ⟨rfl, hb8⟩
    have hB8 := hB7.trans (hb8.mono hB7.size)
    clear hb8 hB7
    go_wp2_with fail
    go_ret
    exact ⟨rfl, hB8⟩
set_option maxRecDepth 100000 in
set_option maxHeartbeats 4000000 in
theorem fileSeals_walk (p : Option Addr) (c : Nat) (l : List UInt8) (w : World) (hI : BytesAt w (.slice p l.length c) l) (_hc : l.length ≤ c) (_hcm : c ≤ 9223372036854775807) :
    Calls Try.prog 5 #[.slice p l.length c] w (LawPost w) := by
  by_cases hgt : 5000 < l.length
  · have hg : decide ((5000 : Int) < (l.length : Int)) = true := decide_eq_true (by omega)
    go_enter Try.func5, Try.ntmps5
    go_wp2_with fail
    refine (works_c w).mono ?_
    rintro e w2 ⟨rfl, hb2⟩
    go_wp2_with fail
    go_ret
    exact ⟨rfl, hb2⟩
  · have hg : decide ((5000 : Int) < (l.length : Int)) = false := decide_eq_false (by omega)
    have hcv := conv_bytes
    have hr1 : Row (w.alloc (.cells #[.int .u8 67, .int .u8 78, .int .u8 69, .int .u8 84] 5 (4, 5))) w.heap.size (.slice (some ⟨w.heap.size, 0, none⟩) 4 4) magic :=
      .inr ⟨w.heap.size, _, (4, 5), rfl, Nat.le_refl _, heap_alloc_new w _, by decide, rfl⟩
    have hb1 : Below w.heap.size w (w.alloc (.cells #[.int .u8 67, .int .u8 78, .int .u8 69, .int .u8 84] 5 (4, 5))) := (Below.refl _ w).alloc (Nat.le_refl _) _
    have hI1 := hI.below hb1
    have hml : magic.length = 4 := rfl
    go_enter Try.func5, Try.ntmps5
    go_wp2_with (at_builtin; refine wpList_append_bytes rfl _ _ rfl w.heap.size _ magic rfl hr1 _ l rfl hI1 (by omega) (by simp) ?_; intro v2 w2 hr2 hb2 hg2; have hB2 := hb1.trans hb2)
    refine (Seal_c v2 (magic ++ l) w2 hr2.bytes (by simp only [List.length_append]; omega)).mono ?_
    rintro e w3 ⟨v3, rfl, hr3, hb3⟩
    have hB3 := hB2.trans (hb3.mono hB2.size)
    have hsl : (sealOf (magic ++ l)).length ≤ 5008 := by rw [sealOf_length, List.length_append]; omega
    obtain ⟨p3, c3, rfl, hc3, hm3⟩ := hr3.capOk (by omega)
    have hby3 := hr3.bytes
    generalize hl1 : sealOf (magic ++ l) = l1 at *
    clear hl1 hr3 hb3 hB2 hr2 hb2 hg2 hI1 hb1 hr1
    go_wp2_with fail
    refine (fileReads_walk p3 c3 l1 w3 hby3 hc3 hm3).mono ?_
    rintro e w4 ⟨rfl, hb4⟩
    have hB4 := hB3.trans (hb4.mono hB3.size)
    clear hB3 hb4
    go_wp2_with fail
    go_ret
    exact ⟨rfl, hB4⟩
end Go.Proofs.Ytkfmblpcfgdgpaa
