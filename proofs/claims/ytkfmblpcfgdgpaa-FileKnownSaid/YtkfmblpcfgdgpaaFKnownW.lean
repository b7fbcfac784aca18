/- The walk of the law FileKnown. -/
import Derived.Test.YtkfmblpcfgdgpaaGPeek
import Derived.Test.YtkfmblpcfgdgpaaFBackW
namespace Go.Proofs.Ytkfmblpcfgdgpaa
open Go.RowKit

theorem node1 (w : World) (k l : Int) : NodesAt (w.alloc (.cells #[.int .i64 k, .int .i64 l, .slice none 0 0] 46)) (.slice (some ⟨w.heap.size, 0, none⟩) 1 1) [⟨k, l, []⟩] := by
  refine ⟨_, _, rfl, .inr ⟨_, _, rfl, fun i hi => ?_⟩⟩
  obtain rfl : i = 0 := by simpa using hi
  refine ⟨.slice none 0 0, ⟨?_, ?_, ?_, ⟨none, 0, rfl, .inl rfl⟩, Nat.zero_le _⟩⟩ <;> simp [go_sem]
def kA : List UInt8 := [67, 78, 69, 84, 0, 1, 1, 157, 149, 189, 103]
def kA' : List UInt8 := [67, 78, 69, 84, 0, 1, 1, 157, 149, 189, 104]
def kB : List UInt8 := [67, 78, 69, 84, 128, 1, 1, 2, 129, 2, 40, 75, 206, 98]
theorem knownA : encNo ⟨0, [⟨1, 0, []⟩]⟩ = 0 ∧ encBytes ⟨0, [⟨1, 0, []⟩]⟩ = kA := by
  have h1 : encodeOf ⟨0, [⟨1, 0, []⟩]⟩ = kA := by decide +kernel
  have h0 : encNo ⟨0, [⟨1, 0, []⟩]⟩ = 0 := encNo_zero.2 ⟨by decide +kernel, by rw [h1]; decide⟩
  exact ⟨h0, by unfold encBytes; rw [if_pos h0, h1]⟩
theorem knownB : encNo ⟨128, [⟨2, -128, []⟩]⟩ = 0 ∧ encBytes ⟨128, [⟨2, -128, []⟩]⟩ = kB := by
  have h1 : encodeOf ⟨128, [⟨2, -128, []⟩]⟩ = kB := by decide +kernel
  have h0 : encNo ⟨128, [⟨2, -128, []⟩]⟩ = 0 := encNo_zero.2 ⟨by decide +kernel, by rw [h1]; decide⟩
  exact ⟨h0, by unfold encBytes; rw [if_pos h0, h1]⟩
theorem knownC : encNo ⟨0, []⟩ = 1 := by decide +kernel
theorem knownD : decNo kA' = 430 := by
  have h1 : beginsNo kA' = 0 := by decide +kernel
  have h2 : sealOf (kA'.take (kA'.length - 4)) ≠ kA' := by decide +kernel
  unfold decNo; rw [if_neg (by simp [h1]), if_pos h2]
theorem knownE : decNo (kA.take 10) = 5 := by
  have h1 : beginsNo (kA.take 10) = 5 := by decide +kernel
  unfold decNo; rw [if_pos (by simp [h1]), h1]
theorem knownF : peekR [67, 78, 69, 84, 5, 7, 46, 46, 46, 46, 46] = (5, 7, 0) := by
  have h1 : rd 128 0 0 ([67, 78, 69, 84, 5, 7, 46, 46, 46, 46, 46].drop 4) = some (5, [7, 46, 46, 46, 46, 46]) := by decide +kernel
  have h2 : rd 65536 0 0 [7, 46, 46, 46, 46, 46] = some (7, [46, 46, 46, 46, 46]) := by decide +kernel
  exact peekR_good (by decide +kernel) h1 h2 (by decide)
theorem knownG : peekR [67, 78, 69, 84, 5, 0, 46, 46, 46, 46, 46] = (0, 0, 5) := by
  have h1 : rd 128 0 0 ([67, 78, 69, 84, 5, 0, 46, 46, 46, 46, 46].drop 4) = some (5, [0, 46, 46, 46, 46, 46]) := by decide +kernel
  have h2 : rd 65536 0 0 [0, 46, 46, 46, 46, 46] = some (0, [46, 46, 46, 46, 46]) := by decide +kernel
  exact peekR_few (by decide +kernel) h1 h2 (by decide)
theorem crc_none : (crc []).toNat = 0 := by decide +kernel
set_option maxRecDepth 100000 in
set_option maxHeartbeats 8000000 in
theorem fileKnown_walk (w : World) : Calls Try.prog 13 #[] w (LawPost w) := by
  have hcv := conv_bytes
  have hb1 : Below w.heap.size w (w.alloc (.cells #[.int .i64 1, .int .i64 0, .slice none 0 0] 46)) := (Below.refl _ w).alloc (Nat.le_refl _) _
  have HA := hid (Encode_c 0 [⟨1, 0, []⟩] _ _ (node1 w 1 0))
  go_enter Try.func13, Try.ntmps13
  go_wp2_with fail
  refine HA.out.mono ?_
  rintro e w2 ⟨va, rfl, ho2, hb2⟩
  rw [knownA.1]
  rw [knownA.2] at ho2
  have hB2 := hb1.trans (hb2.mono hb1.size)
  clear HA hb1 hb2
  rcases ho2 with ⟨_, h⟩ | ⟨g, cur, rfl, hg1, hg2, hg3, hg4, hg5⟩
  · exact absurd h (by simp [kA])
  rw [show kA.length = 11 from rfl] at *
  have hgw : w.heap.size ≤ g := by simp at hg1; omega
  have hb3 : Below w2.heap.size w2 (w2.alloc (.cells #[.int .i64 2, .int .i64 (-128), .slice none 0 0] 46)) := (Below.refl _ w2).alloc (Nat.le_refl _) _
  have HB := hid (Encode_c 128 [⟨2, -128, []⟩] _ _ (node1 w2 2 (-128)))
  go_wp2_with fail
  refine HB.out.mono ?_
  rintro e w4 ⟨vb, rfl, ho4, hb4⟩
  rw [knownB.1]
  rw [knownB.2] at ho4
  have hB24 := hb3.trans (hb4.mono hb3.size)
  have hB4 := hB2.trans (hB24.mono hB2.size)
  clear HB hb3 hb4
  rcases ho4 with ⟨_, h⟩ | ⟨g', cur', rfl, hg1', hg2', hg3', hg4', hg5'⟩
  · exact absurd h (by simp [kB])
  rw [show kB.length = 14 from rfl] at *
  have hg24 : w4.heap[g]? = some (.cells cur 5 (0, 0)) := (hB24.block g (box_lt hg2)).trans hg2
  have hby : BytesAt w4 (.slice (some ⟨g, 0, none⟩) 11 11) kA := bytes_of_take (l := kA) hg24 hg4
  have hby' : BytesAt w4 (.slice (some ⟨g', 0, none⟩) 14 14) kB := bytes_of_take (l := kB) hg2' hg4'
  have hcs := conv_str (hby.take 7 11 (by omega))
  have hcs' := conv_str (hby'.take 10 14 (by omega))
  rw [show kA.take 7 = [67, 78, 69, 84, 0, 1, 1] from rfl] at hcs
  rw [show kB.take 10 = [67, 78, 69, 84, 128, 1, 1, 2, 129, 2] from rfl] at hcs'
  have hbe : ((strB [67, 78, 69, 84, 0, 1, 1]).toList == [67, 78, 69, 84, 0, 1, 1]) = true := by unfold strB; rw [ByteArray.toList_mk]; rfl
  have hbe' : ((strB [67, 78, 69, 84, 128, 1, 1, 2, 129, 2]).toList == [67, 78, 69, 84, 128, 1, 1, 2, 129, 2]) = true := by unfold strB; rw [ByteArray.toList_mk]; rfl
  have k10 : cur[10]? = some (.int .u8 103) := by
    have := congrArg (fun x => x[10]?) hg4
    simp only [List.getElem?_take] at this
    rw [← Array.getElem?_toList]
    have h2 : cur.toList[10]? = some (encB 103) := by simpa [kA] using this
    exact h2
  have c10 : w4.cell? ⟨g, 10, none⟩ = some (.int .u8 103) := by simp [World.cell?, hg24, k10]
  have f10 : w4.frozen? ⟨g, 10, none⟩ = false := by simp [World.frozen?, hg24]
  have hgs := block_set hg24 (.int .u8 104) 10
  have hby5 : BytesAt (w4.setCell ⟨g, 10, none⟩ (.int .u8 104)) (.slice (some ⟨g, 0, none⟩) 11 11) kA' := bytes_of_take (l := kA') hgs (by
    rw [Array.toList_setIfInBounds, List.take_set]
    rw [show kA'.length = 11 from rfl, hg4]; rfl)
  have hBs : Below w.heap.size w (w4.setCell ⟨g, 10, none⟩ (.int .u8 104)) := hB4.setCell (p := ⟨g, 10, none⟩) hgw _
  clear hB24 hB2 hB4 hg2 hg2' hg24 hg1 hg1' hg3 hg3' hg5 hg5' hg4' hby hby'
  clear hgs hg4 k10
  go_wp2_with fail
  generalize w4.setCell ⟨g, 10, none⟩ (.int .u8 104) = w5 at *
  refine (Decode_c _ 11 kA' w5 hby5 (by decide) (by decide) (by decide)).mono ?_
  rintro e w6 ⟨v6, vs6, rfl, ho6, hb6⟩
  rw [knownD, dec_bad (show decNo kA' ≠ 0 by rw [knownD]; decide)]
  obtain ⟨p6, c6, e6, hdrop⟩ := ho6.nodes
  subst e6
  have hB6 := hBs.trans (hb6.mono hBs.size)
  have hby6 := hby5.below hb6
  clear hdrop ho6 hb6 hBs hby5 hcs hcs' hbe hbe' c10 f10
  have hbe6 := ((Below.refl _ w6).alloc (Nat.le_refl _) (.cells #[.int .i64 noNet.n, .slice p6 (decNet kA').l.length c6] 24))
  have hby7 := (hby6.below hbe6).take 10 11 (by decide)
  have hB7 := hB6.trans (hbe6.mono hB6.size)
  clear hbe6 hby6 hB6
  go_wp2_with fail
  generalize w6.alloc (.cells #[.int .i64 noNet.n, .slice p6 (decNet kA').l.length c6] 24) = w7 at *
  refine (Decode_c _ 11 (kA.take 10) w7 hby7 (by decide) (by decide) (by decide)).mono ?_
  rintro e w8 ⟨v8, vs8, rfl, ho8, hb8⟩
  rw [knownE, dec_bad (show decNo (kA.take 10) ≠ 0 by rw [knownE]; decide)]
  obtain ⟨p8, c8, e8, hdrop⟩ := ho8.nodes
  subst e8
  have hB8 := hB7.trans (hb8.mono hB7.size)
  clear hdrop ho8 hb8 hB7 hby7
  have hbe8 := ((Below.refl _ w8).alloc (Nat.le_refl _) (.cells #[.int .i64 noNet.n, .slice p8 (decNet (kA.take 10)).l.length c8] 24))
  have hB9 := hB8.trans (hbe8.mono hB8.size)
  clear hbe8 hB8
  have hcv2 := fun C n c => conv_bytes (w8.alloc (.cells #[.int .i64 noNet.n, .slice p8 (decNet (kA.take 10)).l.length c8] 24)) C n c
  rw [World.size_alloc] at hcv2
  go_wp2_with fail
  clear hcv2
  have hnew := heap_alloc_new (w8.alloc (.cells #[.int .i64 noNet.n, .slice p8 (decNet (kA.take 10)).l.length c8] 24)) (.cells #[.int .u8 67, .int .u8 78, .int .u8 69, .int .u8 84, .int .u8 5, .int .u8 7, .int .u8 46, .int .u8 46, .int .u8 46, .int .u8 46, .int .u8 46] 5 (11, 12))
  rw [World.size_alloc] at hnew
  generalize hw9 : w8.alloc (.cells #[.int .i64 noNet.n, .slice p8 (decNet (kA.take 10)).l.length c8] 24) = w9 at *
  have hbF : Below w9.heap.size w9 (w9.alloc (.cells #[.int .u8 67, .int .u8 78, .int .u8 69, .int .u8 84, .int .u8 5, .int .u8 7, .int .u8 46, .int .u8 46, .int .u8 46, .int .u8 46, .int .u8 46] 5 (11, 12))) := (Below.refl _ w9).alloc (Nat.le_refl _) _
  have hdF : BytesAt (w9.alloc (.cells #[.int .u8 67, .int .u8 78, .int .u8 69, .int .u8 84, .int .u8 5, .int .u8 7, .int .u8 46, .int .u8 46, .int .u8 46, .int .u8 46, .int .u8 46] 5 (11, 12))) (.slice (some ⟨w8.heap.size + 1, 0, none⟩) 11 11) [67, 78, 69, 84, 5, 7, 46, 46, 46, 46, 46] := bytes_of_take (l := [67, 78, 69, 84, 5, 7, 46, 46, 46, 46, 46]) hnew rfl
  refine (Peek_c _ 11 [67, 78, 69, 84, 5, 7, 46, 46, 46, 46, 46] _ hdF (by decide) (by decide)).mono ?_
  rintro e w10 ⟨rfl, hb10⟩
  rw [knownF]
  have hB10 := (hB9.trans (hbF.mono hB9.size)).trans (hb10.mono (by have := hbF.size; have := hB9.size; omega))
  clear hbF hdF hb10 hB9 hnew hw9
  go_wp2_with fail
  have hbF : Below w10.heap.size w10 (w10.alloc (.cells #[.int .u8 67, .int .u8 78, .int .u8 69, .int .u8 84, .int .u8 5, .int .u8 0, .int .u8 46, .int .u8 46, .int .u8 46, .int .u8 46, .int .u8 46] 5 (11, 12))) := (Below.refl _ w10).alloc (Nat.le_refl _) _
  have hdF : BytesAt (w10.alloc (.cells #[.int .u8 67, .int .u8 78, .int .u8 69, .int .u8 84, .int .u8 5, .int .u8 0, .int .u8 46, .int .u8 46, .int .u8 46, .int .u8 46, .int .u8 46] 5 (11, 12))) (.slice (some ⟨w10.heap.size, 0, none⟩) 11 11) [67, 78, 69, 84, 5, 0, 46, 46, 46, 46, 46] := bytes_of_take (l := [67, 78, 69, 84, 5, 0, 46, 46, 46, 46, 46]) (heap_alloc_new w10 _) rfl
  refine (Peek_c _ 11 [67, 78, 69, 84, 5, 0, 46, 46, 46, 46, 46] _ hdF (by decide) (by decide)).mono ?_
  rintro e w11 ⟨rfl, hb11⟩
  rw [knownG]
  have hB11 := (hB10.trans (hbF.mono hB10.size)).trans (hb11.mono (by have := hbF.size; have := hB10.size; omega))
  clear hbF hdF hb11 hB10
  go_wp2_with fail
  refine (Encode_c 0 [] (.slice none 0 0) w11 ⟨none, 0, rfl, .inl rfl⟩).mono ?_
  rintro e w12 ⟨v12, rfl, ho12, hb12⟩
  rw [knownC]
  have hB12 := hB11.trans (hb12.mono hB11.size)
  clear ho12 hb12 hB11
  go_wp2_with fail
  refine (Sum_c (.slice none 0 0) [] w12 ⟨none, 0, rfl, .inl rfl⟩ (by decide)).mono ?_
  rintro e w13 ⟨rfl, rfl⟩
  rw [crc_none]
  go_wp2_with fail
  refine (works_c _).mono ?_
  rintro e w14 ⟨rfl, hb14⟩
  have hB14 := hB12.trans (hb14.mono hB12.size)
  clear hb14 hB12
  go_wp2_with fail
  go_ret
  exact ⟨rfl, hB14⟩
end Go.Proofs.Ytkfmblpcfgdgpaa
