/- The walk of the law FileSees. -/
import Derived.Test.YtkfmblpcfgdgpaaGPeek
import Derived.Test.YtkfmblpcfgdgpaaFBackW
namespace Go.Proofs.Ytkfmblpcfgdgpaa
open Go.RowKit

theorem peekR_enc {x : NetT} (h : encNo x = 0) : peekR (encBytes x) = (x.n, (x.l.length : Int), 0) := by
  have hd := (dec_enc h).1
  have hb : beginsNo (encBytes x) = 0 := by
    by_cases hb : beginsNo (encBytes x) = 0
    · exact hb
    · unfold decNo at hd; rw [if_pos hb] at hd; exact absurd hd hb
  obtain ⟨hv, hl⟩ := encNo_zero.1 h
  have he : encBytes x = encodeOf x := by unfold encBytes; rw [if_pos h]
  obtain ⟨⟨v1, v2, v3, v4⟩, _⟩ := valid_from.1 hv
  have h4 : (encBytes x).drop 4 = encNum x.n.toNat ++ (encNum x.l.length ++ (encFrom 0 x.l ++ le32 (crc (bodyOf x)))) := by
    rw [he]; unfold encodeOf sealOf
    rw [List.drop_append_of_le_length (by have := bodyOf_length v3; omega), bodyOf_drop]
    simp
  rw [peekR_good hb (by rw [h4]; exact rd_num _ (by omega) (by decide)) (rd_num _ v4 (by decide)) (by omega)]
  rw [Int.toNat_of_nonneg v1]
set_option maxRecDepth 100000 in
set_option maxHeartbeats 4000000 in
theorem fileSees_walk (n : Int) (L : List NodeT) (v : Value) (w : World) (hN : NodesIn w v L) (hl : L.length ≤ 9223372036854775807) :
    Calls Try.prog 11 #[.agg #[.int .i64 n, v]] w (LawPost w) := by
  have hB1 : Below w.heap.size w (w.alloc (.cells #[.int .i64 n, v] 24)) := (Below.refl _ w).alloc (Nat.le_refl _) _
  have hx := NetVar.new w n v 24
  replace hN := hN.below hB1
  have HLI := hid (light_c n L v _ hN hl)
  cases hL : lightB L
  · rw [hL] at HLI
    go_enter Try.func11, Try.ntmps11
    go_wp2_with fail
    refine HLI.out.mono ?_
    rintro e w2 ⟨rfl, hb2⟩
    have hB2 := hB1.trans (hb2.mono hB1.size)
    go_wp2_with fail
    refine (works_c w2).mono ?_
    rintro e w3 ⟨rfl, hb3⟩
    have hB3 := hB2.trans (hb3.mono hB2.size)
    clear hB1 hx hN hb2 hb3 hB2
    go_wp2_with fail
    go_ret
    exact ⟨rfl, hB3⟩
  · rw [hL] at HLI
    obtain ⟨hl300, hi300⟩ := light_len hL
    have hNA := hN.nodes (fun x hx => by have := hi300 x hx; omega)
    clear hN hi300
    go_enter Try.func11, Try.ntmps11
    go_wp2_with fail
    refine HLI.out.mono ?_
    rintro e w2 ⟨rfl, hb2⟩
    have hB2 := hB1.trans (hb2.mono hB1.size)
    have hx2 := hx.below hb2
    have hN2 := hNA.below hb2
    clear hx hNA hb2 hB1
    obtain ⟨x0, x1⟩ := hx2
    have hpn2 : w.heap.size < w2.heap.size := cell_lt x0
    go_wp2_with fail
    refine (Encode_c n L v w2 hN2).mono ?_
    rintro e w3 ⟨vb, rfl, ho3, hb3⟩
    have hB3 := hB2.trans (hb3.mono hB2.size)
    have y0 := (hb3.cell (p := ⟨w.heap.size, 0, none⟩) hpn2).trans x0
    have y1 := (hb3.cell (p := ⟨w.heap.size, 1, none⟩) hpn2).trans x1
    by_cases h0 : encNo ⟨n, L⟩ = 0
    · obtain ⟨hd1, hd2⟩ := dec_enc h0
      have hpk : peekR (encBytes ⟨n, L⟩) = (n, (L.length : Int), 0) := peekR_enc h0
      rw [h0]
      rcases ho3 with ⟨_, h⟩ | ⟨g, cur, rfl, hg1, hg2, hg3, hg4, hg5⟩
      · exfalso
        rw [h] at hd1
        have : decNo [] = 5 := by decide +kernel
        omega
      have hby : BytesAt w3 (.slice (some ⟨g, 0, none⟩) (encBytes ⟨n, L⟩).length (encBytes ⟨n, L⟩).length) (encBytes ⟨n, L⟩) := bytes_of_take hg2 hg4
      have hlen : (encBytes ⟨n, L⟩).length ≤ 16777216 := by
        have h1 := (encNo_zero.1 h0).2
        have h2 : encBytes ⟨n, L⟩ = encodeOf ⟨n, L⟩ := by unfold encBytes; rw [if_pos h0]
        rw [h2]; exact h1
      generalize encBytes ⟨n, L⟩ = bs at *
      obtain ⟨pv, cv, rfl, hdrop⟩ := id hN2
      clear hdrop
      have HD := hid (Peek_c _ bs.length bs w3 hby (Nat.le_refl _) (by omega))
      have HPK := hid hpk
      clear hby h0 hd1 hd2 hg4 hg5 hpk hN2
      go_wp2_with fail
      refine HD.out.mono ?_
      rintro e w4 ⟨rfl, hb4⟩
      rw [HPK.out]
      have hB4 := hB3.trans (hb4.mono hB3.size)
      have z0 := (hb4.cell (p := ⟨w.heap.size, 0, none⟩) (Nat.lt_of_lt_of_le hpn2 hb3.size)).trans y0
      have z1 := (hb4.cell (p := ⟨w.heap.size, 1, none⟩) (Nat.lt_of_lt_of_le hpn2 hb3.size)).trans y1
      clear x0 x1 y0 y1 hB3 hB2 hb3 hb4 HD hg1 hg2 hg3
      go_wp2_with fail
      refine (works_c w4).mono ?_
      rintro e w8 ⟨rfl, hb8⟩
      have hB8 := hB4.trans (hb8.mono hB4.size)
      clear hb8 hB4 z0 z1
      go_wp2_with fail
      go_ret
      exact ⟨rfl, hB8⟩
    · have hne : (encNo ⟨n, L⟩ != 0) = true := by simpa using h0
      have hbe : encBytes ⟨n, L⟩ = [] := by unfold encBytes; rw [if_neg h0]
      rw [hbe] at ho3
      obtain ⟨p3, c3, e3, hdrop⟩ := ho3.bytes
      clear hdrop ho3 hbe h0
      subst e3
      generalize encNo ⟨n, L⟩ = en at *
      go_wp2_with fail
      refine (works_c w3).mono ?_
      rintro e w4 ⟨rfl, hb4⟩
      have hB4 := hB3.trans (hb4.mono hB3.size)
      clear hB2 hB3 hb3 hb4 hN2
      go_wp2_with fail
      go_ret
      exact ⟨rfl, hB4⟩
end Go.Proofs.Ytkfmblpcfgdgpaa
