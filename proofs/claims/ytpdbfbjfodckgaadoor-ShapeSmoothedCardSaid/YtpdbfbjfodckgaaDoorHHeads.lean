/- Walks: the literals of a branch's head. -/
import Derived.Test.YtpdbfbjfodckgaaDoorHDec
namespace Go.Proofs.YtpdbfbjfodckgaaDoor
open Go.RowKit

theorem litsOf_snoc (L : List NodeT) (l : List Int) (x : Int) : litsOf L (l ++ [x]) = litsOf L l ++ (if (nOf L x).kind = 2 then [(nOf L x).lit] else []) := by
  unfold litsOf
  rw [List.filterMap_append]
  congr 1
  by_cases h : (nOf L x).kind = 2
  · rw [if_pos h, List.filterMap_cons]; simp [h]
  · rw [if_neg h, List.filterMap_cons]; simp [h]
theorem litsOf_le (L : List NodeT) (l : List Int) : (litsOf L l).length ≤ l.length := List.length_filterMap_le _ _
set_option maxRecDepth 100000 in
set_option maxHeartbeats 4000000 in
theorem heads_c (n : Int) (L : List NodeT) (v : Value) (w : World) (k : Nat) (hN : NodesAt w v L) (hk : k < L.length) (_hle : L.length ≤ 65536) (hin : ∀ x ∈ L[k].ins, 0 ≤ x ∧ x < (k : Int)) (hxl : L[k].ins.length ≤ 65536) :
    Calls Tryd.prog 50 #[.agg #[.int .i64 n, v], .int .i64 k] w (fun e w' => ∃ u, e = .returned u ∧ IntsAt w' u (heads L (k : Int)) ∧ Below w.heap.size w w') := by
  have hB1 : Below w.heap.size w (w.alloc (.cells #[.int .i64 n, v] 24)) := (Below.refl _ w).alloc (Nat.le_refl _) _
  obtain ⟨p, c, rfl, h⟩ := hN
  obtain ⟨b, off, rfl, hN⟩ := h.resolve_left (by intro e; rw [e] at hk; simp at hk)
  have hx := NetVar.new w n (.slice (some ⟨b, off, none⟩) L.length c) 24
  obtain ⟨x0, x1⟩ := hx
  have HN := hid hN
  have HX := hid (NetVar.new w n (.slice (some ⟨b, off, none⟩) L.length c) 24)
  have HB1 := hid hB1
  have HH := hid (show heads L (k : Int) = if L[k].kind = 2 then [L[k].lit] else if L[k].kind = 3 then litsOf L L[k].ins else [] from by unfold heads; rw [nOf_nat L k hk])
  obtain ⟨u, hu⟩ := hN k hk
  have hur := hu.below hB1
  have d0 := hur.kind
  have d1 := hur.lit
  have d2 := hur.ins
  have HU := hid hur
  have zk : (0 : Int) ≤ (k : Int) ∧ (k : Int) < (L.length : Int) := by omega
  have HIN := hid hin
  clear hN h hB1 hu hur hin
  generalize hxx : L[k] = x at *
  obtain ⟨xk, xl, xi⟩ := x
  obtain ⟨p2, c2, e2, hdrop⟩ := HU.out.ints
  subst e2
  clear hdrop hxx
  have HAL := hid ((HB1.out.alloc HB1.out.size (.cells #[.int .i64 xk, .int .i64 xl, .slice p2 xi.length c2] 39)))
  simp only at HH HIN hxl
  by_cases h2 : xk = 2
  · subst h2
    have ho := one_int ((w.alloc (.cells #[.int .i64 n, .slice (some ⟨b, off, none⟩) L.length c] 24)).alloc (.cells #[.int .i64 2, .int .i64 xl, .slice p2 xi.length c2] 39)) xl 3
    simp only [World.size_alloc] at ho
    have HO := hid ho
    have HAL2 := hid (HAL.out.alloc HAL.out.size (.cells #[.int .i64 xl] 3))
    clear ho
    go_enter Tryd.func50, Tryd.ntmps50
    go_wp2_with fail
    go_ret
    exact ⟨_, rfl, by rw [HH.out, if_pos trivial]; exact HO.out, HAL2.out⟩
  · by_cases h3 : xk = 3
    · subst h3
      go_enter Tryd.func50, Tryd.ntmps50
      go_wp2_with fail
      have HX2 := hid (HX.out.below ((Below.refl _ _).alloc (Nat.le_refl _) (.cells #[.int .i64 3, .int .i64 xl, .slice p2 xi.length c2] 39)))
      obtain ⟨w2, hw2⟩ : ∃ w2, w2 = (w.alloc (.cells #[.int .i64 n, .slice (some ⟨b, off, none⟩) L.length c] 24)).alloc (.cells #[.int .i64 3, .int .i64 xl, .slice p2 xi.length c2] 39) := ⟨_, rfl⟩
      have HU2 := hid (HU.out.below ((Below.refl _ _).alloc (Nat.le_refl _) (.cells #[.int .i64 3, .int .i64 xl, .slice p2 xi.length c2] 39)))
      rw [← hw2] at HX2 HAL HU2 ⊢
      clear hw2 d0 d1 d2 x0 x1 HX HU
      go_loopw [6, 26] (fun y z wr => ∃ (j : Nat), j ≤ xi.length ∧ z = .int .i64 j ∧ Hid (OwnInts wr w2.heap.size y (litsOf L (xi.take j))) ∧ Hid (Below w2.heap.size w2 wr)) (fun _ z _ => xi.length - (intOf z).toNat)
      case atStart => exact ⟨0, Nat.zero_le _, rfl, OwnInts.nil _ _, Below.refl _ _⟩
      case round =>
        obtain ⟨j, hj, rfl, hown, hbr⟩ := hrel
        obtain ⟨x0, x1⟩ := HX2.out.below hbr.out
        by_cases hjl : j < xi.length
        · obtain ⟨p3, c3, e3, h3⟩ := show IntsAt wr (.slice p2 xi.length c2) xi from (HU2.out.below hbr.out).ints
          injection e3 with e1 _ e2
          subst e1; subst e2
          obtain ⟨b2, o2, rfl, hc⟩ := h3.resolve_left (by intro e; rw [e] at hjl; simp at hjl)
          have hcj := hc j hjl
          rw [List.getElem?_eq_getElem hjl, Option.getD_some] at hcj
          have hin := HIN.out _ (List.getElem_mem hjl)
          have HLS := hid (litsOf_snoc L (xi.take j) xi[j])
          rw [← List.take_succ_eq_append_getElem hjl] at HLS
          have hll : (litsOf L (xi.take j)).length ≤ j := by have := litsOf_le L (xi.take j); rw [List.length_take] at this; omega
          obtain ⟨q, hq⟩ : ∃ q : Nat, xi[j] = (q : Int) := ⟨xi[j].toNat, by omega⟩
          rw [hq] at hcj hin HLS
          have zj : (0 : Int) ≤ (j : Int) ∧ (j : Int) < (xi.length : Int) := by omega
          have zq : (0 : Int) ≤ (q : Int) ∧ (q : Int) < (L.length : Int) := by omega
          have hql : q < L.length := by omega
          rw [nOf_nat L q hql] at HLS
          obtain ⟨uq, huq⟩ := HN.out q hql
          have hbw := HAL.out.trans (hbr.out.mono HAL.out.size)
          have huqr := huq.below hbw
          have k0 := huqr.kind
          have k1 := huqr.lit
          generalize hyy : L[q] = y at *
          obtain ⟨yk, yl, yi⟩ := y
          simp only at k0 k1 HLS
          have HOW := hid hown.out
          obtain ⟨pv, cv, ev, _⟩ := hown.out.ints
          generalize hlen : (litsOf L (xi.take j)).length = m at *
          subst ev
          have HBR := hid hbr.out
          clear h3 hc hin hq huq hbw huqr hown hbr hyy
          by_cases hy2 : yk = 2
          · subst hy2
            have HL2 := hid (HLS.out.trans (by rw [if_pos rfl]))
            have HOA := hid (HOW.out.alloc (.cells #[.int .i64 yl] 3))
            have HON := hid (one_int wr yl 3)
            have hsz : w2.heap.size ≤ (wr.alloc (.cells #[.int .i64 yl] 3)).heap.size := by have := HBR.out.size; rw [World.size_alloc]; omega
            have HBA := hid (HBR.out.alloc HBR.out.size (.cells #[.int .i64 yl] 3))
            subst hlen
            clear HOW HBR
            go_wp2_with (at_builtin; go_loud (refine wpList_append_I rfl _ _ rfl w2.heap.size _ _ rfl HOA.out _ [yl] rfl HON.out (by show _ + 1 ≤ 16777216; omega) hsz ?_; intro v3 w3 hown3 hg3 _; obtain ⟨p4, c4, e4, _⟩ := hown3.ints; generalize (litsOf L (List.take j xi) ++ [yl]).length = m4 at e4; subst e4))
            have HB3 := hid (below_app HBA.out (Nat.le_refl _) HOA.out hg3)
            have HO3 := hid hown3
            clear hown3 hg3 HOA HON HBA
            go_roundw
            case rel => exact ⟨j + 1, by omega, by go_num, (by rw [HL2.out]; exact HO3.out), HB3.out⟩
            case measure => simp [intOf]; omega
          · have HL2 := hid (HLS.out.trans (by rw [if_neg hy2, List.append_nil]))
            go_wp2_with fail
            go_roundw
            case rel => exact ⟨j + 1, by omega, by go_num, (by rw [HL2.out]; exact HOW.out), HBR.out⟩
            case measure => simp [intOf]; omega
        · obtain rfl : j = xi.length := by omega
          rw [List.take_length] at hown
          have HR := hid hown.out
          have HBR := hid (HAL.out.trans (hbr.out.mono HAL.out.size))
          clear hown hbr
          go_wp2_with fail
          go_ret
          exact ⟨_, rfl, by rw [HH.out]; exact HR.out.ints, HBR.out⟩
    · go_enter Tryd.func50, Tryd.ntmps50
      go_wp2_with fail
      go_ret
      exact ⟨_, rfl, by rw [HH.out, if_neg h2, if_neg h3]; exact (OwnInts.nil _ 0).ints, HAL.out⟩
end Go.Proofs.YtpdbfbjfodckgaaDoor
