/- The walk of the law FileWrites. -/
import Derived.Test.YtkfmblpcfgdgpaaFCopy
import Derived.Test.YtkfmblpcfgdgpaaFBackW
import Derived.Test.YtkfmblpcfgdgpaaFRef3
namespace Go.Proofs.Ytkfmblpcfgdgpaa
open Go.RowKit

theorem encFrom_len (n : Int) (m : Nat) (hm : m < 9223372036854775808) : ∀ (L : List NodeT) (i : Nat), i + L.length < 9223372036854775808 → formedFrom n i L → (∀ x ∈ L, x.ins.length ≤ m) → (encFrom i L).length ≤ L.length * (20 + 10 * m)
  | [], _, _, _, _ => by simp [encFrom]
  | x :: L, i, hi, hf, hl => by
    obtain ⟨h1, h2⟩ := hf
    have h3 := hl x (by simp)
    simp only [List.length_cons] at hi
    have h4 := node_len_le (i := i) (by omega) h1 (by omega)
    have h5 := encFrom_len n m hm L (i + 1) (by omega) h2 (fun y hy => hl y (by simp [hy]))
    simp only [encFrom, List.length_append, List.length_cons, Nat.add_mul, Nat.one_mul]
    omega
theorem light_body {n : Int} {L : List NodeT} (h : lightB L = true) (hv : validNet ⟨n, L⟩ = true) : (bodyOf ⟨n, L⟩).length ≤ 70368744177000 := by
  obtain ⟨h1, h2⟩ := light_len h
  obtain ⟨⟨v1, v2, v3, v4⟩, hf⟩ := valid_from.1 hv
  have v1' : 0 ≤ n := v1
  have v2' : n ≤ 128 := v2
  have a := headOf_len ⟨n, L⟩ (by show n.toNat < _; omega) (by show L.length < _; omega)
  have b := encFrom_len n 300 (by decide) L 0 (by omega) hf h2
  have c : (bodyOf ⟨n, L⟩).length = (headOf ⟨n, L⟩).length + (encFrom 0 L).length := by unfold bodyOf; simp
  omega
set_option maxRecDepth 100000 in
set_option maxHeartbeats 4000000 in
theorem fileWrites_walk (n : Int) (L : List NodeT) (v : Value) (w : World) (hN : NodesIn w v L) (hl : L.length ≤ 9223372036854775807) :
    Calls Try.prog 3 #[.agg #[.int .i64 n, v]] w (LawPost w) := by
  have hB1 : Below w.heap.size w (w.alloc (.cells #[.int .i64 n, v] 24)) := (Below.refl _ w).alloc (Nat.le_refl _) _
  have hx := NetVar.new w n v 24
  replace hN := hN.below hB1
  have HLI := hid (light_c n L v _ hN hl)
  cases hL : lightB L
  · rw [hL] at HLI
    go_enter Try.func3, Try.ntmps3
    go_wp2_with fail
    refine HLI.out.mono ?_
    rintro e w2 ⟨rfl, hb2⟩
    have hB2 := hB1.trans (hb2.mono hB1.size)
    go_wp2_with fail
    refine (works_c w2).mono ?_
    rintro e w3 ⟨rfl, hb3⟩
    have hB3 := hB2.trans (hb3.mono hB2.size)
    clear hB1 hx hN hb2 hb3 hB2
    go_wp2_with fail
    go_ret
    exact ⟨rfl, hB3⟩
  · rw [hL] at HLI
    obtain ⟨hl300, hi300⟩ := light_len hL
    have HBL := hid (fun h => light_body (n := n) hL h)
    have HI := hid hi300
    clear hi300
    go_enter Try.func3, Try.ntmps3
    go_wp2_with fail
    refine HLI.out.mono ?_
    rintro e w2 ⟨rfl, hb2⟩
    have hB2 := hB1.trans (hb2.mono hB1.size)
    have hx2 := hx.below hb2
    have hN2 := hN.below hb2
    clear hx hN hb2 hB1 HLI
    obtain ⟨x0, x1⟩ := hx2
    have hlt2 : w.heap.size < w2.heap.size := cell_lt x0
    go_wp2_with fail
    refine (copied_c n L v w2 hN2 hl300 HI.out).mono ?_
    rintro e w3 ⟨u, vs, rfl, ho3, hb3⟩
    have hB3 := hB2.trans (hb3.mono hB2.size)
    have hN3 := (hN2.nodes (fun x hx => by have := HI.out x hx; omega)).below hb3
    have c0 := (hb3.cell (p := ⟨w.heap.size, 0, none⟩) hlt2).trans x0
    have c1 := (hb3.cell (p := ⟨w.heap.size, 1, none⟩) hlt2).trans x1
    have hm3 := ho3.nodes
    obtain ⟨pu, cu, rfl, hdrop⟩ := id hm3
    clear hdrop
    have hlt3 : w.heap.size < w3.heap.size := cell_lt c0
    have hbe : Below w3.heap.size w3 (w3.alloc (.cells #[.int .i64 n, .slice pu L.length cu] 24)) := (Below.refl _ w3).alloc (Nat.le_refl _) _
    have hnm := NetVar.new w3 n (.slice pu L.length cu) 24
    have hB4 := hB3.trans (hbe.mono hB3.size)
    have hN4 := hN3.below hbe
    have hm4 := hm3.below hbe
    have d0 := (hbe.cell (p := ⟨w.heap.size, 0, none⟩) hlt3).trans c0
    have d1 := (hbe.cell (p := ⟨w.heap.size, 1, none⟩) hlt3).trans c1
    clear x0 x1 c0 c1 ho3 hb3 hB2 hB3 hN2 hN3 hm3 hbe
    go_wp2_with fail
    generalize w3.alloc (.cells #[.int .i64 n, .slice pu L.length cu] 24) = w4 at *
    obtain ⟨m0, m1⟩ := hnm
    have hl4 : w.heap.size < w4.heap.size := cell_lt d0
    have hk4 : w3.heap.size < w4.heap.size := cell_lt m0
    refine (Encode_c n L _ w4 hm4).mono ?_
    rintro e w5 ⟨va, rfl, hoa, hb5⟩
    have hB5 := hB4.trans (hb5.mono hB4.size)
    have hN5 := hN4.below hb5
    have hm5 := hm4.below hb5
    have f0 := (hb5.cell (p := ⟨w.heap.size, 0, none⟩) hl4).trans d0
    have f1 := (hb5.cell (p := ⟨w.heap.size, 1, none⟩) hl4).trans d1
    have k0 := (hb5.cell (p := ⟨w3.heap.size, 0, none⟩) hk4).trans m0
    have k1 := (hb5.cell (p := ⟨w3.heap.size, 1, none⟩) hk4).trans m1
    have hl5 : w.heap.size < w5.heap.size := cell_lt f0
    have hk5 : w3.heap.size < w5.heap.size := cell_lt k0
    have hba := hoa.bytes
    clear d0 d1 m0 m1 hB4 hN4 hm4 hb5 hoa
    go_wp2_with fail
    refine (rEncode_c n L v w5 hN5 HBL.out).mono ?_
    rintro e w6 ⟨vb, rfl, hob, hb6⟩
    have hB6 := hB5.trans (hb6.mono hB5.size)
    have hN6 := hN5.below hb6
    have hm6 := hm5.below hb6
    have q0 := (hb6.cell (p := ⟨w.heap.size, 0, none⟩) hl5).trans f0
    have q1 := (hb6.cell (p := ⟨w.heap.size, 1, none⟩) hl5).trans f1
    have r0 := (hb6.cell (p := ⟨w3.heap.size, 0, none⟩) hk5).trans k0
    have r1 := (hb6.cell (p := ⟨w3.heap.size, 1, none⟩) hk5).trans k1
    have hca := conv_str (hba.below hb6)
    have hcb := conv_str hob.bytes
    have HS := hid (rSameNet_c n n L L _ _ w6 hm6 hN6 (by omega) (by omega))
    rw [decide_eq_true (rfl : (⟨n, L⟩ : NetT) = ⟨n, L⟩)] at HS
    clear f0 f1 k0 k1 hB5 hN5 hm5 hb6 hob hba HBL
    obtain ⟨p, c, e, hdrop⟩ := id hN6
    clear hdrop
    subst e
    clear hN6 hm6
    generalize encNo ⟨n, L⟩ = en at *
    generalize encBytes ⟨n, L⟩ = bs at *
    go_wp2_with fail
    refine HS.out.mono ?_
    rintro e w7 ⟨rfl, hb7⟩
    have hB7 := hB6.trans (hb7.mono hB6.size)
    clear hb7 hB6
    go_wp2_with fail
    refine (works_c w7).mono ?_
    rintro e w8 ⟨rfl, hb8⟩
    have hB8 := hB7.trans (hb8.mono hB7.size)
    clear hb8 hB7
    go_wp2_with fail
    go_ret
    exact ⟨rfl, hB8⟩
end Go.Proofs.Ytkfmblpcfgdgpaa
