/- The walk of the law FileBack. -/
import Derived.Test.YtkfmblpcfgdgpaaFLaw2
namespace Go.Proofs.Ytkfmblpcfgdgpaa
open Go.RowKit

/-- How a law ends. -/
def LawPost (w : World) (e : Ending) (w' : World) : Prop := e = .returned (.bool true) ∧ Below w.heap.size w w'
theorem netVar_cells {w w' : World} {b : Nat} {n : Int} {v : Value} (h : NetVar w b n v) (hb : Below w.heap.size w w') : w'.cell? ⟨b, 0, none⟩ = some (.int .i64 n) ∧ w'.cell? ⟨b, 1, none⟩ = some v := ⟨(h.below hb).n, (h.below hb).l⟩
/-- What stands in a round of FileBack. -/
structure BackSt (w2 wr : World) (g bm pn n0 : Nat) (n : Int) (v v4 : Value) (L : List NodeT) (vs : List Value) (size : Nat) (B : Nat) : Prop where
  file : ∃ cur, wr.heap[g]? = some (.cells cur 5 (0, 0)) ∧ cur.size = size
  own : OwnNodes wr B v4 L vs
  box : wr.heap[bm]? = some (.cells #[.int .i64 n, v4] 24 (0, 0))
  net : NetVar wr pn n v
  arg : NodesAt wr v L
  low : Below n0 w2 wr
theorem BackSt.set {w2 wr : World} {g bm pn n0 : Nat} {n : Int} {v v4 : Value} {L : List NodeT} {vs : List Value} {size B : Nat} (h : BackSt w2 wr g bm pn n0 n v v4 L vs size B) (hn0 : n0 ≤ g) (hgB : g < B) (hb : bm ≠ g) (hp : pn < n0) (harg : ∀ W, Below n0 w2 W → NodesAt W v L) (k : Nat) (x : Value) : BackSt w2 (wr.setCell ⟨g, k, none⟩ x) g bm pn n0 n v v4 L vs size B := by
  obtain ⟨⟨cur, h1, h2⟩, h3, h4, h5, h6, h7⟩ := h
  have hlow := h7.setCell (p := ⟨g, k, none⟩) hn0 x
  refine ⟨⟨_, block_set h1 x k, by simp [h2]⟩, h3.low (grownBy_set wr g k x) (fun j e => by injection e with e; omega), ?_, ?_, harg _ hlow, hlow⟩
  · rw [Below.heap_setCell _ _ _ _ (by exact hb)]; exact h4
  · have : ∀ o, (wr.setCell ⟨g, k, none⟩ x).cell? ⟨pn, o, none⟩ = wr.cell? ⟨pn, o, none⟩ := fun o => World.cell?_of_block (Below.heap_setCell _ _ _ _ (by show pn ≠ g; omega))
    exact ⟨(this 0).trans h5.n, (this 1).trans h5.l⟩
set_option maxRecDepth 100000 in
set_option maxHeartbeats 4000000 in
theorem fileBack_walk (n : Int) (L : List NodeT) (v : Value) (w : World) (hN : NodesIn w v L) (hl : L.length ≤ 9223372036854775807) :
    Calls Try.prog 6 #[.agg #[.int .i64 n, v]] w (LawPost w) := by
  have hB1 : Below w.heap.size w (w.alloc (.cells #[.int .i64 n, v] 24)) := (Below.refl _ w).alloc (Nat.le_refl _) _
  have hx := NetVar.new w n v 24
  replace hN := hN.below hB1
  have HLI := hid (light_c n L v _ hN hl)
  cases hL : lightB L
  · rw [hL] at HLI
    go_enter Try.func6, Try.ntmps6
    go_wp2_with fail
    refine HLI.out.mono ?_
    rintro e w2 ⟨rfl, hb2⟩
    have hB2 := hB1.trans (hb2.mono hB1.size)
    go_wp2_with fail
    refine (works_c w2).mono ?_
    rintro e w3 ⟨rfl, hb3⟩
    have hB3 := hB2.trans (hb3.mono hB2.size)
    clear hB1 hx hN hb2 hb3 hB2
    go_wp2_with fail
    go_ret
    exact ⟨rfl, hB3⟩
  · rw [hL] at HLI
    obtain ⟨hl300, hi300⟩ := light_len hL
    have hNA := hN.nodes (fun x hx => by have := hi300 x hx; omega)
    clear hN hi300
    go_enter Try.func6, Try.ntmps6
    go_wp2_with fail
    refine HLI.out.mono ?_
    rintro e w2 ⟨rfl, hb2⟩
    have hB2 := hB1.trans (hb2.mono hB1.size)
    have hx2 := hx.below hb2
    have hN2 := hNA.below hb2
    clear hx hNA hb2 hB1
    obtain ⟨x0, x1⟩ := hx2
    have hpn2 : w.heap.size < w2.heap.size := cell_lt x0
    go_wp2_with fail
    refine (Encode_c n L v w2 hN2).mono ?_
    rintro e w3 ⟨vb, rfl, ho3, hb3⟩
    have hB3 := hB2.trans (hb3.mono hB2.size)
    have y0 := (hb3.cell (p := ⟨w.heap.size, 0, none⟩) hpn2).trans x0
    have y1 := (hb3.cell (p := ⟨w.heap.size, 1, none⟩) hpn2).trans x1
    by_cases h0 : encNo ⟨n, L⟩ = 0
    · obtain ⟨hd1, hd2⟩ := dec_enc h0
      rw [h0]
      rcases ho3 with ⟨_, h⟩ | ⟨g, cur, rfl, hg1, hg2, hg3, hg4, hg5⟩
      · exfalso
        rw [h] at hd1
        have : decNo [] = 5 := by decide +kernel
        omega
      have hby : BytesAt w3 (.slice (some ⟨g, 0, none⟩) (encBytes ⟨n, L⟩).length (encBytes ⟨n, L⟩).length) (encBytes ⟨n, L⟩) := bytes_of_take hg2 hg4
      have hlen : (encBytes ⟨n, L⟩).length ≤ 16777216 := by
        have h1 := (encNo_zero.1 h0).2
        have h2 : encBytes ⟨n, L⟩ = encodeOf ⟨n, L⟩ := by unfold encBytes; rw [if_pos h0]
        rw [h2]; exact h1
      generalize encBytes ⟨n, L⟩ = bs at *
      have hN3 := hN2.below hb3
      have HD := hid (Decode_c _ bs.length bs w3 hby (Nat.le_refl _) (by omega) (by omega))
      have HD1 := hid hd1
      have HD2 := hid hd2
      clear hby h0 hd1 hd2 hg4 hg5
      go_wp2_with fail
      refine HD.out.mono ?_
      rintro e w4 ⟨v4, vs4, rfl, ho4, hb4⟩
      rw [HD1.out, HD2.out]
      rw [HD2.out] at ho4
      change OwnNodes w4 w3.heap.size v4 L vs4 at ho4
      obtain ⟨p4, c4, e4, hdrop⟩ := ho4.nodes
      clear hdrop
      subst e4
      have hB4 := hB3.trans (hb4.mono hB3.size)
      have hB24 := hb3.trans (hb4.mono hb3.size)
      have z0 := (hb4.cell (p := ⟨w.heap.size, 0, none⟩) (Nat.lt_of_lt_of_le hpn2 hb3.size)).trans y0
      have z1 := (hb4.cell (p := ⟨w.heap.size, 1, none⟩) (Nat.lt_of_lt_of_le hpn2 hb3.size)).trans y1
      have hN4 := hN3.below hb4
      have hpn4 : w.heap.size < w4.heap.size := cell_lt z0
      obtain ⟨p, c, e, hdrop⟩ := id hN4
      clear hdrop
      subst e
      have hg2' : w4.heap[g]? = some (.cells cur 5 (0, 0)) := (hb4.block g (box_lt hg2)).trans hg2
      have hglt : g < w3.heap.size := box_lt hg2
      clear hg2 y0 y1 x0 x1 HD HD1 HD2 hN3
      have hbox := heap_alloc_new w4 (.cells #[.int .i64 n, .slice p4 L.length c4] 24)
      have hbe : Below w4.heap.size w4 (w4.alloc (.cells #[.int .i64 n, .slice p4 L.length c4] 24)) := (Below.refl _ w4).alloc (Nat.le_refl _) _
      have HS := hid (rSameNet_c n n L L _ _ (w4.alloc (.cells #[.int .i64 n, .slice p4 L.length c4] 24)) (ho4.nodes.below hbe) (hN4.below hbe) (by omega) (by omega))
      rw [decide_eq_true (rfl : (⟨n, L⟩ : NetT) = ⟨n, L⟩)] at HS
      have hB5 := hB4.trans (hbe.mono hB4.size)
      have hB25 := hB24.trans (hbe.mono hB24.size)
      have ho5 := ho4.below hbe
      have hg5 : (w4.alloc (.cells #[.int .i64 n, .slice p4 L.length c4] 24)).heap[g]? = some (.cells cur 5 (0, 0)) := by
        rw [heap_alloc_old w4 _ (box_lt hg2')]; exact hg2'
      have hsz5 : w4.heap.size < (w4.alloc (.cells #[.int .i64 n, .slice p4 L.length c4] 24)).heap.size := by simp
      go_wp2_with fail
      refine HS.out.mono ?_
      rintro e w6 ⟨rfl, hb6⟩
      have hB6 := hB5.trans (hb6.mono hB5.size)
      have hB26 := hB25.trans (hb6.mono hB25.size)
      have harg : Hid (∀ W, Below w2.heap.size w2 W → NodesAt W (.slice p L.length c) L) := hid (fun W h => hN2.below h)
      have hst : BackSt w2 w6 g w4.heap.size w.heap.size w2.heap.size n (.slice p L.length c) (.slice p4 L.length c4) L vs4 cur.size w3.heap.size :=
        ⟨⟨cur, (hb6.block g (box_lt hg5)).trans hg5, rfl⟩, ho5.below hb6, (hb6.block _ (box_lt hbox)).trans hbox, ⟨(hb6.cell (p := ⟨w.heap.size, 0, none⟩) (Nat.lt_trans hpn4 hsz5)).trans ((hbe.cell (p := ⟨w.heap.size, 0, none⟩) hpn4).trans z0), (hb6.cell (p := ⟨w.heap.size, 1, none⟩) (Nat.lt_trans hpn4 hsz5)).trans ((hbe.cell (p := ⟨w.heap.size, 1, none⟩) hpn4).trans z1)⟩, harg.out _ hB26, hB26⟩
      have h34 : w3.heap.size ≤ w4.heap.size := hb4.size
      generalize hbm : w4.heap.size = bm at *
      generalize hBB : w3.heap.size = B at *
      have HBM := hid hbm
      have HBB := hid hBB
      clear hbm hBB z0 z1 hbox hbe HS hg5 hB5 hB25 ho5 hsz5 hb6 hN4 ho4 hg2' hB26 hB6 hN2 hb4 hb3 hB3 hB4 hB24
      go_wp2_with fail
      go_loopw [40] (fun i wr => ∃ k : Nat, k ≤ bs.length ∧ i = .int .i64 k ∧ BackSt w2 wr g bm w.heap.size w2.heap.size n (.slice p L.length c) (.slice p4 L.length c4) L vs4 cur.size B) (fun i _ => bs.length - (intOf i).toNat)
      case atStart => exact ⟨0, Nat.zero_le _, rfl, hst⟩
      case round =>
        clear hst
        obtain ⟨k, hk, rfl, st⟩ := hrel
        by_cases hlt : k < bs.length
        · obtain ⟨cur2, hc2, hs2⟩ := st.file
          have hkc : k < cur2.size := by omega
          obtain ⟨old, hold⟩ : ∃ old, cur2[k]? = some old := ⟨_, Array.getElem?_eq_getElem hkc⟩
          have c1 : wr.cell? ⟨g, k, none⟩ = some old := by simp [World.cell?, hc2, hold]
          have f1 : wr.frozen? ⟨g, k, none⟩ = false := by simp [World.frozen?, hc2]
          have hst2 := st.set hg1 hglt (by omega) hpn2 harg.out k (.int .u8 0)
          clear hc2 hs2 hkc hold
          go_wp2_with fail
          go_roundw
          case rel => exact ⟨k + 1, by omega, by go_num, hst2⟩
          case measure => simp [intOf]; omega
        · obtain ⟨⟨m0, m1⟩, _⟩ := box2 st.box
          obtain ⟨n0, n1⟩ := st.net
          have HS := hid (rSameNet_c n n L L _ _ wr st.own.nodes st.arg (by omega) (by omega))
          rw [decide_eq_true (rfl : (⟨n, L⟩ : NetT) = ⟨n, L⟩)] at HS
          have hB7 := hB2.trans (st.low.mono hB2.size)
          go_wp2_with fail
          refine HS.out.mono ?_
          rintro e w7 ⟨rfl, hb7⟩
          have hB8 := hB7.trans (hb7.mono hB7.size)
          go_wp2_with fail
          refine (works_c w7).mono ?_
          rintro e w8 ⟨rfl, hb8⟩
          have hB9 := hB8.trans (hb8.mono hB8.size)
          clear hB7 hB8 hb7 hb8 HS
          go_wp2_with fail
          go_ret
          exact ⟨rfl, hB9⟩
    · have hne : (encNo ⟨n, L⟩ != 0) = true := by simpa using h0
      have hbe : encBytes ⟨n, L⟩ = [] := by unfold encBytes; rw [if_neg h0]
      rw [hbe] at ho3
      obtain ⟨p3, c3, e3, hdrop⟩ := ho3.bytes
      clear hdrop ho3 hbe h0
      subst e3
      generalize encNo ⟨n, L⟩ = en at *
      go_wp2_with fail
      refine (works_c w3).mono ?_
      rintro e w4 ⟨rfl, hb4⟩
      have hB4 := hB3.trans (hb4.mono hB3.size)
      clear hB2 hB3 hb3 hb4 hN2
      go_wp2_with fail
      go_ret
      exact ⟨rfl, hB4⟩
end Go.Proofs.Ytkfmblpcfgdgpaa
