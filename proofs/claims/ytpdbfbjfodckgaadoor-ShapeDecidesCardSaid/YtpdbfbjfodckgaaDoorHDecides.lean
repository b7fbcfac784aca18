/- The law ShapeDecides: plain law (a net that decides is deterministic) and walk. -/
import Derived.Test.YtpdbfbjfodckgaaDoorHLaw
namespace Go.Proofs.YtpdbfbjfodckgaaDoor
open Go.RowKit

theorem litVar_neg (l : Int) : litVar (-l) = litVar l := by unfold litVar; split <;> split <;> (try split) <;> (try split) <;> omega
theorem nOf_mem {L : List NodeT} {i : Int} (h : (nOf L i).kind ≠ 0) : ∃ k : Nat, i = (k : Int) ∧ ∃ hk : k < L.length, nOf L i = L[k] := by
  unfold nOf at h ⊢
  by_cases h0 : 0 ≤ i
  · rw [if_pos h0] at h ⊢
    by_cases hk : i.toNat < L.length
    · exact ⟨i.toNat, by omega, hk, by rw [List.getD_eq_getElem?_getD, List.getElem?_eq_getElem hk, Option.getD_some]⟩
    · rw [List.getD_eq_getElem?_getD, List.getElem?_eq_none (by omega)] at h
      exact absurd rfl h
  · rw [if_neg h0] at h
    exact absurd rfl h
/-- A literal, true or not, at a node. -/
theorem lit_true {n : Int} {L : List NodeT} (hv : validNet ⟨n, L⟩ = true) (A : Int → Bool) {i : Int} (h : (nOf L i).kind = 2) : bOf (bsOf A L) i = litB A (nOf L i).lit ∧ 1 ≤ litVar (nOf L i).lit := by
  obtain ⟨_, hft⟩ := (validNet_iff _).1 hv
  obtain ⟨k, rfl, hk, e⟩ := nOf_mem (show (nOf L i).kind ≠ 0 by rw [h]; decide)
  rw [e] at h ⊢
  refine ⟨?_, (kind2_range hv (List.getElem_mem hk) h).1⟩
  rw [bsOf_get A hft hk]
  unfold bNode
  rw [if_neg (by rw [h]; decide), if_pos h]
theorem head_true {n : Int} {L : List NodeT} (hv : validNet ⟨n, L⟩ = true) (A : Int → Bool) {i l : Int} (hl : l ∈ heads L i) (hb : bOf (bsOf A L) i = true) : litB A l = true ∧ 1 ≤ litVar l := by
  obtain ⟨_, hft⟩ := (validNet_iff _).1 hv
  unfold heads at hl
  split at hl
  · rename_i h2
    obtain rfl : l = (nOf L i).lit := by simpa using hl
    have := lit_true hv A h2
    exact ⟨this.1 ▸ hb, this.2⟩
  · split at hl
    · rename_i h3
      obtain ⟨k, rfl, hk, e⟩ := nOf_mem (show (nOf L i).kind ≠ 0 by rw [h3]; decide)
      unfold litsOf at hl
      rw [List.mem_filterMap] at hl
      obtain ⟨j, hj, hjl⟩ := hl
      split at hjl
      · rename_i hj2
        injection hjl with hjl
        subst hjl
        have := lit_true hv A hj2
        refine ⟨?_, this.2⟩
        rw [← this.1]
        rw [bsOf_get A hft hk] at hb
        unfold bNode at hb
        rw [e] at h3 hj
        rw [if_neg (by rw [h3]; decide), if_neg (by rw [h3]; decide), if_pos h3, List.all_eq_true] at hb
        exact hb j hj
      · cases hjl
    · cases hl
theorem litB_neg {A : Int → Bool} {l : Int} (h : 1 ≤ litVar l) (h1 : litB A l = true) (h2 : litB A (-l) = true) : False := by
  have h0 : l ≠ 0 := by intro e; subst e; revert h; decide
  unfold litB at h1 h2
  rw [litVar_neg] at h2
  by_cases hn : l < 0
  · rw [if_pos hn] at h1; rw [if_neg (by omega)] at h2
    rw [h2] at h1; cases h1
  · rw [if_neg hn] at h1; rw [if_pos (by omega)] at h2
    rw [h1] at h2; cases h2
/-- THE PLAIN LAW: a net that decides is deterministic. -/
theorem decides_det {n : Int} {L : List NodeT} (hv : validNet ⟨n, L⟩ = true) (hd : decideB L = true) : detB L = true := by
  rw [detB_iff hv]
  intro A
  unfold orOk
  rw [List.all_eq_true]
  intro x hx
  unfold decideB at hd
  rw [List.all_eq_true] at hd
  have hdx := hd x hx
  rw [Bool.or_eq_true] at hdx ⊢
  rcases hdx with h | h
  · exact .inl h
  · right
    rw [Bool.and_eq_true, beq_iff_eq] at h
    obtain ⟨hlen, ho⟩ := h
    match hins : x.ins, hlen, ho with
    | [a, b], _, ho =>
      unfold opp at ho
      rw [List.any_eq_true] at ho
      obtain ⟨l, hl, hc⟩ := ho
      have hl' : l ∈ heads L b := hl
      have hc' : -l ∈ heads L a := by simpa using hc
      show (!(false && bOf (bsOf A L) a) && (!((false || bOf (bsOf A L) a) && bOf (bsOf A L) b) && true)) = true
      cases ha : bOf (bsOf A L) a with
      | false => rfl
      | true =>
        cases hb : bOf (bsOf A L) b with
        | false => rfl
        | true =>
          obtain ⟨t1, r1⟩ := head_true hv A hl' hb
          obtain ⟨t2, _⟩ := head_true hv A hc' ha
          exact (litB_neg r1 t1 t2).elim
theorem det_long {x : NetT} (hv : validNet x = true) (h : 16 < (mems (litsVS x.l)).length) : detNo x = 2 ∧ detYes x = false := by
  have : detNo x = 2 := by unfold detNo; rw [if_pos hv, if_pos h]
  exact ⟨this, by unfold detYes; rw [this]; rfl⟩
theorem det_short {x : NetT} (hv : validNet x = true) (h : ¬ 16 < (mems (litsVS x.l)).length) : detNo x = 0 ∧ detYes x = detB x.l := by
  have : detNo x = 0 := by unfold detNo; rw [if_pos hv, if_neg h]
  exact ⟨this, by unfold detYes; rw [this]; rfl⟩
set_option maxRecDepth 100000 in
set_option maxHeartbeats 4000000 in
theorem shapeDecides_walk (n : Int) (L : List NodeT) (v : Value) (w : World) (hT : TabAt w) (hP : PatAt w) (hN : NodesIn w v L) (hl : L.length ≤ 9223372036854775807) :
    Calls Tryd.prog 7 #[.agg #[.int .i64 n, v]] w (LawPost w) := by
  have hB1 : Below w.heap.size w (w.alloc (.cells #[.int .i64 n, v] 24)) := (Below.refl _ w).alloc (Nat.le_refl _) _
  have HX := hid (NetVar.new w n v 24)
  have HN := hid (hN.below hB1)
  have HLI := hid (light_c 100 n L v _ (hN.below hB1) hl)
  have HT := hid (hT.below hT.lt hB1)
  have HP := hid (hP.below hP.lt hB1)
  have HB1 := hid hB1
  obtain ⟨x0, x1⟩ := HX.out
  clear hT hP hN hB1
  go_enter Tryd.func7, Tryd.ntmps7
  go_wp2_with fail
  refine HLI.out.mono ?_
  rintro e w2 ⟨rfl, hb2⟩
  clear x0 x1
  obtain ⟨x0, x1⟩ := HX.out.below hb2
  have HX2 := hid (HX.out.below hb2)
  have HN2 := hid (HN.out.below hb2)
  have HT2 := hid (HT.out.below HT.out.lt hb2)
  have HP2 := hid (HP.out.below HP.out.lt hb2)
  have HB2 := hid (HB1.out.trans (hb2.mono HB1.out.size))
  clear hb2 HX HN HLI HT HP HB1
  cases hL : lightB 100 L
  · go_wp2_with fail
    refine (works_c w2 HT2.out HP2.out).mono ?_
    rintro e w3 ⟨rfl, hb3⟩
    go_wp2_with fail
    go_ret
    exact ⟨rfl, HB2.out.trans (hb3.mono HB2.out.size)⟩
  · obtain ⟨hlen, hins⟩ := light_len hL
    have HNA := hid (HN2.out.nodes fun x hx => by have := hins x hx; omega)
    have HDC := hid (Decision_c n L v w2 HNA.out (fun k h => by have := hins _ (List.getElem_mem h); omega))
    clear HN2 hlen hins
    go_wp2_with fail
    refine HDC.out.mono ?_
    rintro e w3 ⟨rfl, hb3⟩
    clear x0 x1
    obtain ⟨x0, x1⟩ := HX2.out.below hb3
    have HNA3 := hid (HNA.out.below hb3)
    have HT3 := hid (HT2.out.below HT2.out.lt hb3)
    have HP3 := hid (HP2.out.below HP2.out.lt hb3)
    have HB3 := hid (HB2.out.trans (hb3.mono HB2.out.size))
    clear hb3 HX2 HT2 HP2 HB2 HDC HNA
    cases hD : (validNet ⟨n, L⟩ && decideB L)
    · go_wp2_with fail
      refine (works_c w3 HT3.out HP3.out).mono ?_
      rintro e w4 ⟨rfl, hb4⟩
      go_wp2_with fail
      go_ret
      exact ⟨rfl, HB3.out.trans (hb4.mono HB3.out.size)⟩
    · obtain ⟨hv, hd⟩ := Bool.and_eq_true_iff.1 hD
      have HDT := hid (Deterministic_c n L v w3 HNA3.out HT3.out HP3.out)
      have HY := hid (show (detNo ⟨n, L⟩ = 2 ∧ detYes ⟨n, L⟩ = false) ∨ (detNo ⟨n, L⟩ = 0 ∧ detYes ⟨n, L⟩ = true) from by
        by_cases h : 16 < (mems (litsVS L)).length
        · exact .inl (det_long hv h)
        · have := det_short hv (x := ⟨n, L⟩) h
          exact .inr ⟨this.1, this.2.trans (decides_det hv hd)⟩)
      clear hv hd hD
      go_wp2_with fail
      refine HDT.out.mono ?_
      rintro e w4 ⟨rfl, hb4⟩
      have HT4 := hid (HT3.out.below HT3.out.lt hb4)
      have HP4 := hid (HP3.out.below HP3.out.lt hb4)
      have HB4 := hid (HB3.out.trans (hb4.mono HB3.out.size))
      clear hb4 HDT HT3 HP3 HB3 x0 x1 HNA3
      rcases HY.out with ⟨e1, e2⟩ | ⟨e1, e2⟩ <;> rw [e1, e2] <;> clear e1 e2
      all_goals
        go_wp2_with fail
        refine (works_c w4 HT4.out HP4.out).mono ?_
        rintro e w5 ⟨rfl, hb5⟩
        go_wp2_with fail
        go_ret
        exact ⟨rfl, HB4.out.trans (hb5.mono HB4.out.size)⟩
end Go.Proofs.YtpdbfbjfodckgaaDoor
