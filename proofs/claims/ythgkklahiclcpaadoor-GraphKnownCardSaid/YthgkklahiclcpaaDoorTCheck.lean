/- Walk: theory.Check. -/
import Derived.Test.YthgkklahiclcpaaDoorTLit
namespace Go.Proofs.YthgkklahiclcpaaDoor
open Go.RowKit

theorem checkL_drop {n : Int} {L : List (List Int)} {k : Nat} (h : checkL n L = checkL n (L.drop k)) (hk : k < L.length) : checkL n L = if clauseP n L[k] = 0 then checkL n (L.drop (k + 1)) else clauseP n L[k] := by
  rw [h, List.drop_eq_getElem_cons hk, checkL]
theorem all_drop {n : Int} {c : List Int} {q : Nat} (h : c.all (litOK n) = (c.drop q).all (litOK n)) (hq : q < c.length) : c.all (litOK n) = (litOK n c[q] && (c.drop (q + 1)).all (litOK n)) := by
  rw [h, List.drop_eq_getElem_cons hq, List.all_cons]
theorem IntsAt.get {w : World} {v : Value} {l : List Int} (h : IntsAt w v l) {q : Nat} (hq : q < l.length) : ∃ b off c, v = .slice (some ⟨b, off, none⟩) l.length c ∧ w.cell? ⟨b, off + q, none⟩ = some (.int .i64 l[q]) := by
  obtain ⟨p, c, rfl, h0⟩ := h
  obtain ⟨b, off, rfl, hh⟩ := h0.resolve_left (by rintro rfl; simp at hq)
  have := hh q hq
  rw [List.getElem?_eq_getElem hq, Option.getD_some] at this
  exact ⟨b, off, c, rfl, this⟩
set_option maxRecDepth 100000 in
set_option maxHeartbeats 4000000 in
theorem Check_c (n : Int) (u : Value) (L : List (List Int)) (w : World) (hI : LitsAt w u L) (hL : L.length ≤ 9223372036854775807) (hc : ∀ c ∈ L, c.length ≤ 9223372036854775807) :
    Calls Tryd.prog 56 #[.agg #[.int .i64 n, u]] w fun e w' => e = .returned (.int .i64 (checkP n L)) ∧ Below w.heap.size w w' := by
  have HI := hid hI
  have HC := hid hc
  obtain ⟨p, cp, rfl, hdrop⟩ := id hI
  clear hdrop hI hc
  have hB0 : Below w.heap.size w (w.alloc (.cells #[.int .i64 n, .slice p L.length cp] 48)) := (Below.refl _ w).alloc (Nat.le_refl _) _
  by_cases h1 : n < 0
  · have e : checkP n L = 6 := by unfold checkP; rw [if_pos (.inl h1)]
    rw [e]; clear e
    go_enter Tryd.func56, Tryd.ntmps56
    go_wp2_with fail
    go_ret
    exact ⟨rfl, hB0⟩
  by_cases h2 : 128 < n
  · have e : checkP n L = 6 := by unfold checkP; rw [if_pos (.inr h2)]
    rw [e]; clear e
    go_enter Tryd.func56, Tryd.ntmps56
    go_wp2_with fail
    go_ret
    exact ⟨rfl, hB0⟩
  by_cases h3 : (4096 : Int) < (L.length : Int)
  · have e : checkP n L = 2 := by unfold checkP; rw [if_neg (by omega), if_pos (by omega)]
    rw [e]; clear e
    go_enter Tryd.func56, Tryd.ntmps56
    go_wp2_with fail
    go_ret
    exact ⟨rfl, hB0⟩
  have e : checkP n L = checkL n L := by unfold checkP; rw [if_neg (by omega), if_neg (by omega)]
  rw [e]; clear e
  have HN0 : Hid ((w.alloc (.cells #[.int .i64 n, .slice p L.length cp] 48)).cell? ⟨w.heap.size, 0, none⟩ = some (.int .i64 n)) := by show _ = _; simp only [World.cell?, heap_alloc_new]; rfl
  go_enter Tryd.func56, Tryd.ntmps56
  go_wp2_with fail
  obtain ⟨w1, hw1⟩ : ∃ w1, w1 = w.alloc (.cells #[.int .i64 n, .slice p L.length cp] 48) := ⟨_, rfl⟩
  rw [← hw1] at HN0 hB0 ⊢
  clear hw1
  go_loopw [22] (fun i wr => ∃ k : Nat, k ≤ L.length ∧ i = .int .i64 k ∧ Hid (checkL n L = checkL n (L.drop k)) ∧ Below w1.heap.size w1 wr) (fun i _ => L.length - (intOf i).toNat)
  case atStart => exact ⟨0, Nat.zero_le _, rfl, rfl, Below.refl _ _⟩
  case round =>
    obtain ⟨k, hk, rfl, HE, hB⟩ := hrel
    by_cases hkl : k < L.length
    · have hBw := hB0.trans (hB.mono hB0.size)
      obtain ⟨p', c', e', hh⟩ := HI.out
      injection e' with e1 _ e2
      subst e1; subst e2
      obtain ⟨b, off, rfl, hh2⟩ := hh.resolve_left (by rintro rfl; simp at hkl)
      obtain ⟨u, hcu, hiu⟩ := hh2 k hkl
      have hcu2 := (hBw.cell (cell_lt hcu)).trans hcu
      have hiu2 := hiu.below hBw
      have hcl := HC.out _ (List.getElem_mem hkl)
      have HD := hid (checkL_drop HE.out hkl)
      have zk : (0 : Int) ≤ (k : Int) ∧ (k : Int) < (L.length : Int) := by omega
      generalize L[k] = c at *
      obtain ⟨pc, cc, rfl, hdrop⟩ := id hiu2
      have HIU := hid hiu2
      clear hdrop hh hh2 hcu hiu hiu2
      by_cases h4 : (128 : Int) < (c.length : Int)
      · have e2 : clauseP n c = 2 := by unfold clauseP; rw [if_pos (by omega)]
        have HX : Hid (checkL n L = 2) := by show _ = _; rw [HD.out, e2]; rfl
        clear e2
        go_wp2_with fail
        go_ret
        exact ⟨by rw [HX.out]; rfl, hBw⟩
      · have HCL : Hid (clauseP n c = if c.all (litOK n) = true then 0 else 1) := by show _ = _; unfold clauseP; rw [if_neg (by omega)]
        have HB := hid hB
        have HBW := hid hBw
        obtain ⟨wo, hwo⟩ : ∃ wo : World, wo = wr := ⟨_, rfl⟩
        clear hB hBw
        subst hwo
        go_wp2_with fail
        go_loopw [31] (fun j wq => ∃ q : Nat, q ≤ c.length ∧ j = .int .i64 q ∧ Hid (c.all (litOK n) = (c.drop q).all (litOK n)) ∧ Below wo.heap.size wo wq) (fun j _ => c.length - (intOf j).toNat)
        case atStart => exact ⟨0, Nat.zero_le _, rfl, rfl, Below.refl _ _⟩
        case round =>
          obtain ⟨q, hq, rfl, HQ, hBq⟩ := hrel
          have hB2 := HBW.out.trans (hBq.mono HBW.out.size)
          by_cases hql : q < c.length
          · obtain ⟨b2, o2, c2, e2, hcx⟩ := HIU.out.get hql
            injection e2 with e2 _ e3
            subst e2; subst e3
            have hcx2 := (hBq.cell (cell_lt hcx)).trans hcx
            have hn1 := (HB.out.cell (cell_lt HN0.out)).trans HN0.out
            have hn2 := (hBq.cell (cell_lt hn1)).trans hn1
            have HA := hid (all_drop HQ.out hql)
            have zq : (0 : Int) ≤ (q : Int) ∧ (q : Int) < (c.length : Int) := by omega
            generalize c[q] = x at *
            have HV := hid (litValid_c x n wr)
            clear hcx hn1
            cases ho : litOK n x with
            | false =>
              rw [ho] at HV
              have HX : Hid (checkL n L = 1) := by
                have e5 : c.all (litOK n) = false := by rw [HA.out, ho]; rfl
                show _ = _
                rw [HD.out, HCL.out, e5]; rfl
              clear ho
              go_wp2_with fail
              refine HV.out.mono ?_
              rintro e w5 ⟨rfl, hb5⟩
              have hB5 := hB2.trans (hb5.mono hB2.size)
              go_wp2_with fail
              go_ret
              exact ⟨by rw [HX.out]; rfl, hB5⟩
            | true =>
              rw [ho] at HV
              have HA2 : Hid (c.all (litOK n) = (c.drop (q + 1)).all (litOK n)) := by show _ = _; rw [HA.out, ho]; rfl
              clear ho
              go_wp2_with fail
              refine HV.out.mono ?_
              rintro e w5 ⟨rfl, hb5⟩
              have hB5 := hBq.trans (hb5.mono hBq.size)
              go_wp2_with fail
              go_roundw
              case rel => exact ⟨q + 1, by omega, by go_num, HA2.out, hB5⟩
              case measure => simp [intOf]; omega
          · obtain rfl : q = c.length := by omega
            have HX : Hid (checkL n L = checkL n (L.drop (k + 1))) := by
              have e5 : c.all (litOK n) = true := by rw [HQ.out, List.drop_length]; rfl
              show _ = _
              rw [HD.out, HCL.out, e5]; rfl
            have hB6 := HB.out.trans (hBq.mono HB.out.size)
            go_wp2_with fail
            go_roundw
            case rel => exact ⟨k + 1, by omega, by go_num, HX.out, hB6⟩
            case measure => simp [intOf]; omega
    · obtain rfl : k = L.length := by omega
      have HX : Hid (checkL n L = 0) := by show _ = _; rw [HE.out, List.drop_length]; rfl
      go_wp2_with fail
      go_ret
      exact ⟨by rw [HX.out]; rfl, hB0.trans (hB.mono hB0.size)⟩
end Go.Proofs.YthgkklahiclcpaaDoor
