/- Walks of the references censusref21.Decomposable, Smooth, has and Decision. -/
import Derived.Test.YtpdbfbjfodckgaaDoorHRefVars
import Derived.BigQuiet
namespace Go.Proofs.YtpdbfbjfodckgaaDoor
open Go.RowKit

theorem and_or_zero (a b x : VS) : ((a ||| b) &&& x == 0) = ((a &&& x == 0) && (b &&& x == 0)) := by
  rw [Bool.eq_iff_iff, Bool.and_eq_true, beq_iff_eq, beq_iff_eq, beq_iff_eq]
  constructor
  · intro h
    have key : ∀ u, has ((a ||| b) &&& x) u = false := fun u => by rw [h, has_zero]
    constructor
    · refine ext_has fun u _ _ => ?_
      have := key u
      rw [has_and, has_or] at this
      rw [has_and, has_zero]
      cases ha : has a u <;> cases hb : has b u <;> simp_all
    · refine ext_has fun u _ _ => ?_
      have := key u
      rw [has_and, has_or] at this
      rw [has_and, has_zero]
      cases ha : has a u <;> cases hb : has b u <;> simp_all
  · rintro ⟨h1, h2⟩
    refine ext_has fun u _ _ => ?_
    have k1 : has (a &&& x) u = false := by rw [h1, has_zero]
    have k2 : has (b &&& x) u = false := by rw [h2, has_zero]
    rw [has_and] at k1 k2
    rw [has_and, has_or, has_zero]
    cases ha : has a u <;> cases hb : has b u <;> simp_all
theorem orIns_meet (M : List VS) (x : VS) : ∀ (l : List Int) (s : VS), (orIns M s l &&& x == 0) = ((s &&& x == 0) && l.all fun k => sOf M k &&& x == 0)
  | [], s => by show (s &&& x == 0) = _; simp
  | a :: l, s => by
    show (orIns M (s ||| sOf M a) l &&& x == 0) = _
    rw [orIns_meet M x l, and_or_zero, List.all_cons, Bool.and_assoc]
theorem zero_and_v (x : VS) : ((0 : VS) &&& x == 0) = true := by
  rw [beq_iff_eq]
  refine ext_has fun u _ _ => ?_
  rw [has_and, has_zero, Bool.false_and]
theorem and_comm_v (a b : VS) : (a &&& b) = (b &&& a) := by
  refine ext_has fun u _ _ => ?_
  rw [has_and, has_and, Bool.and_comm]
theorem take_meet_yes {M : List VS} {l : List Int} {q : Nat} (hq : q < l.length) (h : ∀ i (hi : i < l.length), i < q → (sOf M l[q] &&& sOf M l[i] == 0) = true) : (orIns M 0 (l.take q) &&& sOf M l[q] == 0) = true := by
  rw [orIns_meet, zero_and_v, Bool.true_and, List.all_eq_true]
  intro x hx
  obtain ⟨i, hi, rfl⟩ := List.getElem_of_mem hx
  rw [List.length_take] at hi
  rw [List.getElem_take, and_comm_v]
  exact h i (by omega) (by omega)
theorem take_meet_no {M : List VS} {l : List Int} {q m : Nat} (hq : q < l.length) (hm : m < q) (h : (sOf M l[q] &&& sOf M (l[m]'(by omega)) == 0) = false) : (orIns M 0 (l.take q) &&& sOf M l[q] == 0) = false := by
  rw [orIns_meet, zero_and_v, Bool.true_and, List.all_eq_false]
  refine ⟨l[m]'(by omega), ?_, by rw [and_comm_v]; simpa using h⟩
  rw [List.mem_take_iff_getElem]
  exact ⟨m, by omega, rfl⟩
set_option maxRecDepth 100000 in
set_option maxHeartbeats 8000000 in
theorem decom21_c (n : Int) (L : List NodeT) (v : Value) (w : World) (hN : NodesAt w v L) :
    Calls Tryd.prog 19 #[.agg #[.int .i64 n, v]] w (DecPost (validNet ⟨n, L⟩ && decomB L) w) := by
  have hB1 : Below w.heap.size w (w.alloc (.cells #[.int .i64 n, v] 24)) := (Below.refl _ w).alloc (Nat.le_refl _) _
  have HCK := hid (valid21_c n L v _ (hN.below hB1))
  have HX := hid (NetVar.new w n v 24)
  have HNA := hid (hN.below hB1)
  have HB1 := hid hB1
  clear hB1
  cases hv : validNet ⟨n, L⟩ with
  | false =>
    rw [hv] at HCK
    obtain ⟨x0, x1⟩ := HX.out
    clear hv hN
    go_enter Tryd.func19, Tryd.ntmps19
    go_wp2_with fail
    refine HCK.out.mono ?_
    rintro e w2 ⟨rfl, hb2⟩
    go_wp2_with fail
    go_ret
    exact ⟨rfl, HB1.out.trans (hb2.mono HB1.out.size)⟩
  | true =>
  obtain ⟨⟨r1, r2, r3, r4⟩, hft⟩ := (validNet_iff _).1 hv
  simp only at r1 r2 r3 r4 hft
  rw [hv] at HCK
  obtain ⟨p, c, rfl, h⟩ := hN
  obtain ⟨b, off, rfl, hN⟩ := h.resolve_left (by intro e; rw [e] at r3; simp at r3)
  have HV := hid (fun w' (h : NodesAt w' (.slice (some ⟨b, off, none⟩) L.length c) L) => vars21_c n L _ w' h hv)
  have HN := hid hN
  have HFT := hid hft
  obtain ⟨x0, x1⟩ := HX.out
  clear hN h hv hft
  go_enter Tryd.func19, Tryd.ntmps19
  go_wp2_with fail
  refine HCK.out.mono ?_
  rintro e w2 ⟨rfl, hb2⟩
  obtain ⟨y0, y1⟩ := HX.out.below hb2
  have HNA2 := hid (HNA.out.below hb2)
  have HX2 := hid (HX.out.below hb2)
  have HB2 := hid (HB1.out.trans (hb2.mono HB1.out.size))
  clear x0 x1 hb2 HCK HX HB1 HNA
  go_wp2_with fail
  refine (HV.out _ HNA2.out).mono ?_
  rintro e w3 ⟨g, rfl, hg, hrow, hb3⟩
  have HX3 := hid (HX2.out.below hb3)
  have HB3 := hid (HB2.out.trans (hb3.mono HB2.out.size))
  have HN3 := hid (fun k (hk : k < L.length) => (HN.out k hk).imp fun u hu => hu.below HB3.out)
  have HR := hid hrow
  clear y0 y1 hb3 hrow HX2 HB2 HNA2 HV hg
  go_wp2_with fail
  go_loopw [4] (fun z wr => ∃ (k : Nat), k ≤ L.length ∧ z = .int .i64 k ∧ Hid (∀ j (hj : j < L.length), j < k → (L[j].kind != 3 || disj (vsOf L) 0 L[j].ins) = true) ∧ Hid (Below w3.heap.size w3 wr)) (fun z _ => L.length - (intOf z).toNat)
  case atStart => exact ⟨0, Nat.zero_le _, rfl, fun j _ h => absurd h (Nat.not_lt_zero _), Below.refl _ _⟩
  case round =>
    obtain ⟨k, hk, rfl, hok, hbr⟩ := hrel
    obtain ⟨x0, x1⟩ := HX3.out.below hbr.out
    by_cases hkl : k < L.length
    · obtain ⟨u, hu⟩ := HN3.out k hkl
      have hur := hu.below hbr.out
      have d0 := hur.kind
      have d2 := hur.ins
      have HU := hid hu
      have HIN := hid (ins_lt HFT.out hkl)
      have hle := hur.len
      have zk : (0 : Int) ≤ (k : Int) ∧ (k : Int) < (L.length : Int) := by omega
      have HOK := hid (show (L[k].kind != 3 || disj (vsOf L) 0 L[k].ins) = true → ∀ j (hj : j < L.length), j < k + 1 → (L[j].kind != 3 || disj (vsOf L) 0 L[j].ins) = true from fun h j hj hlt => by
        by_cases e : j = k
        · subst e; exact h
        · exact hok.out j hj (by omega))
      have HNO := hid (show (L[k].kind != 3 || disj (vsOf L) 0 L[k].ins) = false → decomB L = false from fun h => all_not hkl h)
      have HBR := hid hbr.out
      clear hu hur hok hbr
      generalize hxx : L[k] = x at *
      obtain ⟨xk, xl, xi⟩ := x
      obtain ⟨p2, c2, e2, hdrop⟩ := HU.out.ints
      subst e2
      clear hdrop hxx
      by_cases h3 : xk = 3
      · subst h3
        have HBS := hid HBR.out
        go_wp2_with fail
        go_loopw [6] (fun z wr => ∃ (q : Nat), q ≤ xi.length ∧ z = .int .i64 q ∧ Hid (∀ i (hi : i < xi.length), i < q → (orIns (vsOf L) 0 (xi.take i) &&& sOf (vsOf L) xi[i] == 0) = true) ∧ Hid (Below w3.heap.size w3 wr)) (fun z _ => xi.length - (intOf z).toNat)
        case atStart => exact ⟨0, Nat.zero_le _, rfl, fun i _ h => absurd h (Nat.not_lt_zero _), HBS.out⟩
        case round =>
          clear HBR HBS x0 x1 d0 d2
          obtain ⟨q, hq, rfl, hdj, hbr⟩ := hrel
          obtain ⟨x0, x1⟩ := HX3.out.below hbr.out
          have d0 := (HU.out.below hbr.out).kind
          by_cases hql : q < xi.length
          · have HDJ := hid (show (orIns (vsOf L) 0 (xi.take q) &&& sOf (vsOf L) xi[q] == 0) = true → ∀ i (hi : i < xi.length), i < q + 1 → (orIns (vsOf L) 0 (xi.take i) &&& sOf (vsOf L) xi[i] == 0) = true from fun h i hi hlt => by
              by_cases e : i = q
              · subst e; exact h
              · exact hdj.out i hi (by omega))
            have HBS := hid hbr.out
            have zq : (0 : Int) ≤ (q : Int) ∧ (q : Int) < (xi.length : Int) := by omega
            have hin := HIN.out _ (List.getElem_mem hql)
            obtain ⟨uq, huq⟩ : ∃ u : Nat, xi[q] = (u : Int) := ⟨xi[q].toNat, by omega⟩
            have HUQ := hid huq
            rw [huq] at hin
            have huql : uq < L.length := by omega
            have zuq : (0 : Int) ≤ (uq : Int) ∧ (uq : Int) < (L.length : Int) := by omega
            clear huq hdj hbr
            go_wp2_with fail
            go_loopw [7] (fun z wr => ∃ (m : Nat), m ≤ q ∧ z = .int .i64 m ∧ Hid (∀ i (hi : i < xi.length), i < m → (sOf (vsOf L) xi[q] &&& sOf (vsOf L) xi[i] == 0) = true) ∧ Hid (Below w3.heap.size w3 wr)) (fun z _ => q - (intOf z).toNat)
            case atStart => exact ⟨0, Nat.zero_le _, rfl, fun i _ h => absurd h (Nat.not_lt_zero _), HBS.out⟩
            case round =>
              clear HBS x0 x1 d0
              obtain ⟨m, hm, rfl, hmt, hbr⟩ := hrel
              by_cases hml : m < q
              · have hmx : m < xi.length := by omega
                obtain ⟨p3, c3, e3, h3⟩ := show IntsAt wr (.slice p2 xi.length c2) xi from (HU.out.below hbr.out).ints
                injection e3 with e1 e4 e2
                clear e4
                subst e1; subst e2
                obtain ⟨b2, o2, rfl, hc⟩ := h3.resolve_left (by intro e; rw [e] at hql; simp at hql)
                have hcq := hc q hql
                have hcm := hc m hmx
                rw [List.getElem?_eq_getElem hql, Option.getD_some, HUQ.out] at hcq
                rw [List.getElem?_eq_getElem hmx, Option.getD_some] at hcm
                have hinm := HIN.out _ (List.getElem_mem hmx)
                obtain ⟨um, hum⟩ : ∃ u : Nat, xi[m] = (u : Int) := ⟨xi[m].toNat, by omega⟩
                have HUM := hid hum
                rw [hum] at hinm hcm
                have zm : (0 : Int) ≤ (m : Int) ∧ (m : Int) < (xi.length : Int) := by omega
                have zum : (0 : Int) ≤ (um : Int) ∧ (um : Int) < (L.length : Int) := by omega
                have huml : um < L.length := by omega
                have hrr := HR.out.below hbr.out HR.out.lt
                obtain ⟨s, hs, y0, y1, _, _⟩ := hrr.getS uq (by rw [vsOf_length]; exact huql)
                obtain ⟨t, ht, z0, z1, _, _⟩ := hrr.getS um (by rw [vsOf_length]; exact huml)
                have HMT := hid (show (s &&& t == 0) = true → ∀ i (hi : i < xi.length), i < m + 1 → (sOf (vsOf L) xi[q] &&& sOf (vsOf L) xi[i] == 0) = true from fun h i hi hlt => by
                  by_cases e : i = m
                  · subst e; rw [HUQ.out, HUM.out, hs, ht]; exact h
                  · exact hmt.out i hi (by omega))
                have HBD := hid (show (s &&& t == 0) = false → decomB L = false from fun h => HNO.out (by
                  show ((3 : Int) != 3 || disj (vsOf L) 0 xi) = false
                  rw [disj_take_bad xi 0 q hql (take_meet_no hql hml (by rw [HUQ.out, HUM.out, hs, ht]; exact h))]; rfl))
                have HBS := hid hbr.out
                clear h3 hc hum hrr hs ht hmt hbr
                have lb2 : b2 < wr.heap.size := cell_lt hcq
                have lg2 : g < wr.heap.size := cell_lt y0
                have qm := fun (w' : World) => meets_c s t w'
                cases hst : (s &&& t == 0)
                · rw [hst] at qm
                  have HF := hid (HBD.out hst)
                  go_wp2_with fail
                  refine wp_region_pure (by kernel_rfl) (by kernel_rfl) ?_
                  repeat (go_big_quiet_step ((first | (go_at_call 48; exact Calls.ext_of (qm _)))))
                  refine wpQuiet_nil ?_
                  intro w4 hb4
                  go_wp2_with fail
                  go_ret
                  exact ⟨by rw [HF.out]; rfl, HB3.out.trans ((HBS.out.trans (hb4.mono HBS.out.size)).mono HB3.out.size)⟩
                · rw [hst] at qm
                  have HM2 := hid (HMT.out hst)
                  go_wp2_with fail
                  refine wp_region_pure (by kernel_rfl) (by kernel_rfl) ?_
                  repeat (go_big_quiet_step ((first | (go_at_call 48; exact Calls.ext_of (qm _)))))
                  refine wpQuiet_nil ?_
                  intro w4 hb4
                  go_wp2_with fail
                  go_roundw
                  case rel => exact ⟨m + 1, by omega, by go_num, HM2.out, HBS.out.trans (hb4.mono HBS.out.size)⟩
                  case measure => simp [intOf]; omega
              · obtain rfl : m = q := by omega
                have HD2 := hid (HDJ.out (take_meet_yes hql hmt.out))
                have HBS := hid hbr.out
                clear hmt hbr
                go_wp2_with fail
                go_roundw
                case rel => exact ⟨m + 1, by omega, by go_num, HD2.out, HBS.out⟩
                case measure => simp [intOf]; omega
          · obtain rfl : q = xi.length := by omega
            have HK2 := hid (HOK.out (by
              show ((3 : Int) != 3 || disj (vsOf L) 0 xi) = true
              rw [disj_all xi 0 fun i hi => hdj.out i hi hi]; rfl))
            have HBS := hid hbr.out
            clear hdj hbr
            go_wp2_with fail
            go_roundw
            case rel => exact ⟨k + 1, by omega, by go_num, HK2.out, HBS.out⟩
            case measure => simp [intOf]; omega
      · have HK2 := hid (HOK.out (by simp [h3]))
        have h3' : (xk == 3) = false := by simp [h3]
        clear h3
        by_cases hxl : (0 : Int) < (xi.length : Int)
        · go_wp2_with fail
          go_rounds 1
          go_wp2_with fail
          go_roundw
          case rel => exact ⟨k + 1, by omega, by go_num, HK2.out, HBR.out⟩
          case measure => simp [intOf]; omega
        · go_wp2_with fail
          go_rounds 1
          go_wp2_with fail
          go_roundw
          case rel => exact ⟨k + 1, by omega, by go_num, HK2.out, HBR.out⟩
          case measure => simp [intOf]; omega
    · obtain rfl : k = L.length := by omega
      have HT := hid (show decomB L = true from all_to fun k hk => hok.out k hk hk)
      have HBR := hid hbr.out
      clear hok hbr
      go_wp2_with fail
      go_ret
      exact ⟨by rw [HT.out]; rfl, HB3.out.trans (HBR.out.mono HB3.out.size)⟩
attribute [local go_sem ↓] run_eqlS run_neqS run_eqlS0 run_neqS0

set_option maxRecDepth 100000 in
set_option maxHeartbeats 8000000 in
theorem smooth21_c (n : Int) (L : List NodeT) (v : Value) (w : World) (hN : NodesAt w v L) :
    Calls Tryd.prog 22 #[.agg #[.int .i64 n, v]] w (DecPost (validNet ⟨n, L⟩ && smoothB L) w) := by
  have hB1 : Below w.heap.size w (w.alloc (.cells #[.int .i64 n, v] 24)) := (Below.refl _ w).alloc (Nat.le_refl _) _
  have HCK := hid (valid21_c n L v _ (hN.below hB1))
  have HX := hid (NetVar.new w n v 24)
  have HNA := hid (hN.below hB1)
  have HB1 := hid hB1
  clear hB1
  cases hv : validNet ⟨n, L⟩ with
  | false =>
    rw [hv] at HCK
    obtain ⟨x0, x1⟩ := HX.out
    clear hv hN
    go_enter Tryd.func22, Tryd.ntmps22
    go_wp2_with fail
    refine HCK.out.mono ?_
    rintro e w2 ⟨rfl, hb2⟩
    go_wp2_with fail
    go_ret
    exact ⟨rfl, HB1.out.trans (hb2.mono HB1.out.size)⟩
  | true =>
  obtain ⟨⟨r1, r2, r3, r4⟩, hft⟩ := (validNet_iff _).1 hv
  simp only at r1 r2 r3 r4 hft
  rw [hv] at HCK
  obtain ⟨p, c, rfl, h⟩ := hN
  obtain ⟨b, off, rfl, hN⟩ := h.resolve_left (by intro e; rw [e] at r3; simp at r3)
  have HV := hid (fun w' (h : NodesAt w' (.slice (some ⟨b, off, none⟩) L.length c) L) => vars21_c n L _ w' h hv)
  have HN := hid hN
  have HFT := hid hft
  obtain ⟨x0, x1⟩ := HX.out
  clear hN h hv hft
  go_enter Tryd.func22, Tryd.ntmps22
  go_wp2_with fail
  refine HCK.out.mono ?_
  rintro e w2 ⟨rfl, hb2⟩
  obtain ⟨y0, y1⟩ := HX.out.below hb2
  have HNA2 := hid (HNA.out.below hb2)
  have HX2 := hid (HX.out.below hb2)
  have HB2 := hid (HB1.out.trans (hb2.mono HB1.out.size))
  clear x0 x1 hb2 HCK HX HB1 HNA
  go_wp2_with fail
  refine (HV.out _ HNA2.out).mono ?_
  rintro e w3 ⟨g, rfl, hg, hrow, hb3⟩
  have HX3 := hid (HX2.out.below hb3)
  have HB3 := hid (HB2.out.trans (hb3.mono HB2.out.size))
  have HN3 := hid (fun k (hk : k < L.length) => (HN.out k hk).imp fun u hu => hu.below HB3.out)
  have HR := hid hrow
  clear y0 y1 hb3 hrow HX2 HB2 HNA2 HV hg
  go_wp2_with fail
  go_loopw [4] (fun z wr => ∃ (k : Nat), k ≤ L.length ∧ z = .int .i64 k ∧ Hid (∀ j (hj : j < L.length), j < k → (L[j].kind != 4 || L[j].ins.all fun x => sOf (vsOf L) x == sOf (vsOf L) (j : Int)) = true) ∧ Hid (Below w3.heap.size w3 wr)) (fun z _ => L.length - (intOf z).toNat)
  case atStart => exact ⟨0, Nat.zero_le _, rfl, fun j _ h => absurd h (Nat.not_lt_zero _), Below.refl _ _⟩
  case round =>
    obtain ⟨k, hk, rfl, hok, hbr⟩ := hrel
    obtain ⟨x0, x1⟩ := HX3.out.below hbr.out
    by_cases hkl : k < L.length
    · obtain ⟨u, hu⟩ := HN3.out k hkl
      have hur := hu.below hbr.out
      have d0 := hur.kind
      have d2 := hur.ins
      have HU := hid hu
      have HIN := hid (ins_lt HFT.out hkl)
      have hle := hur.len
      have zk : (0 : Int) ≤ (k : Int) ∧ (k : Int) < (L.length : Int) := by omega
      have HOK := hid (show (L[k].kind != 4 || L[k].ins.all fun x => sOf (vsOf L) x == sOf (vsOf L) (k : Int)) = true → ∀ j (hj : j < L.length), j < k + 1 → (L[j].kind != 4 || L[j].ins.all fun x => sOf (vsOf L) x == sOf (vsOf L) (j : Int)) = true from fun h j hj hlt => by
        by_cases e : j = k
        · subst e; exact h
        · exact hok.out j hj (by omega))
      have HNO := hid (show (L[k].kind != 4 || L[k].ins.all fun x => sOf (vsOf L) x == sOf (vsOf L) (k : Int)) = false → smoothB L = false from fun h => smoothB_false hkl h)
      have HBR := hid hbr.out
      clear hu hur hok hbr
      generalize hxx : L[k] = x at *
      obtain ⟨xk, xl, xi⟩ := x
      obtain ⟨p2, c2, e2, hdrop⟩ := HU.out.ints
      subst e2
      clear hdrop hxx
      obtain ⟨sk, hsk⟩ : ∃ sk, sk = sOf (vsOf L) (k : Int) := ⟨_, rfl⟩
      rw [← hsk] at HOK HNO
      have HSK := hid hsk
      clear hsk
      by_cases h3 : xk = 4
      · subst h3
        have HBS := hid HBR.out
        go_wp2_with fail
        go_loopw [5] (fun z wr => ∃ (j : Nat), j ≤ xi.length ∧ z = .int .i64 j ∧ Hid (∀ i (hi : i < xi.length), i < j → (sOf (vsOf L) xi[i] == sk) = true) ∧ Hid (Below w3.heap.size w3 wr)) (fun z _ => xi.length - (intOf z).toNat)
        case atStart => exact ⟨0, Nat.zero_le _, rfl, fun i _ h => absurd h (Nat.not_lt_zero _), HBS.out⟩
        case round =>
          clear HBR HBS x0 x1 d0 d2
          obtain ⟨j, hj, rfl, hdj, hbr⟩ := hrel
          obtain ⟨x0, x1⟩ := HX3.out.below hbr.out
          have d0 := (HU.out.below hbr.out).kind
          have d2 := (HU.out.below hbr.out).ins
          by_cases hjl : j < xi.length
          · obtain ⟨p3, c3, e3, h3⟩ := show IntsAt wr (.slice p2 xi.length c2) xi from (HU.out.below hbr.out).ints
            injection e3 with e1 e4 e2
            clear e4
            subst e1; subst e2
            obtain ⟨b2, o2, rfl, hc⟩ := h3.resolve_left (by intro e; rw [e] at hjl; simp at hjl)
            have hcj := hc j hjl
            rw [List.getElem?_eq_getElem hjl, Option.getD_some] at hcj
            have hin := HIN.out _ (List.getElem_mem hjl)
            have HDJ := hid (show (sOf (vsOf L) xi[j] == sk) = true → ∀ i (hi : i < xi.length), i < j + 1 → (sOf (vsOf L) xi[i] == sk) = true from fun h i hi hlt => by
              by_cases e : i = j
              · subst e; exact h
              · exact hdj.out i hi (by omega))
            have HBD := hid (fun h => HNO.out (show ((4 : Int) != 4 || xi.all fun x => sOf (vsOf L) x == sk) = false from by rw [all_not (k := j) hjl h]; rfl))
            obtain ⟨u, hu⟩ : ∃ u : Nat, xi[j] = (u : Int) := ⟨xi[j].toNat, by omega⟩
            rw [hu] at hcj hin HDJ HBD
            have zj : (0 : Int) ≤ (j : Int) ∧ (j : Int) < (xi.length : Int) := by omega
            have zu : (0 : Int) ≤ (u : Int) ∧ (u : Int) < (L.length : Int) := by omega
            have hul : u < L.length := by omega
            have hrr := HR.out.below hbr.out HR.out.lt
            obtain ⟨t, ht, y0, y1, _, _⟩ := hrr.getS u (by rw [vsOf_length]; exact hul)
            obtain ⟨t', ht', z0, z1, _, _⟩ := hrr.getS k (by rw [vsOf_length]; exact hkl)
            rw [← HSK.out] at ht'
            subst ht'
            rw [ht] at HDJ HBD
            have HBQ := hid hbr.out
            have RT : Hid (wr.drew.cell? ⟨g, u * 2, none⟩ = some (.int .u64 ((lw t).toNat : Int)) ∧ wr.drew.cell? ⟨g, u * 2 + 1, none⟩ = some (.int .u64 ((hw t).toNat : Int))) := ⟨y0, y1⟩
            have RK : Hid (wr.drew.cell? ⟨g, k * 2, none⟩ = some (.int .u64 ((lw sk).toNat : Int)) ∧ wr.drew.cell? ⟨g, k * 2 + 1, none⟩ = some (.int .u64 ((hw sk).toNat : Int))) := ⟨z0, z1⟩
            have XN : Hid (wr.drew.cell? ⟨w.heap.size, 1, none⟩ = some (.slice (some ⟨b, off, none⟩) L.length c)) := x1
            have RI : Hid (wr.drew.cell? ⟨b, off + k * 3 + 2, none⟩ = some (.slice (some ⟨b2, o2, none⟩) xi.length c2)) := d2
            have RJ : Hid (wr.drew.cell? ⟨b2, o2 + j, none⟩ = some (.int .i64 (u : Int))) := hcj
            clear h3 hc hin hu ht hdj hbr hrr y0 y1 z0 z1
            cases hd : (t == sk) with
            | false =>
              have HD := hid (HBD.out hd)
              have hd3 : ¬ (t = sk) := by simpa using hd
              clear HBD HDJ
              go_wp2_with fail
              refine Go.Proofs.YtpdbfbjfodckgaaDoor.wp_region_L 17 16 (fun w' => (w'.cell? ⟨g, u * 2, none⟩ = some (.int .u64 ((lw (t)).toNat : Int)) ∧ w'.cell? ⟨g, u * 2 + 1, none⟩ = some (.int .u64 ((hw (t)).toNat : Int))) ∧ (w'.cell? ⟨g, k * 2, none⟩ = some (.int .u64 ((lw (sk)).toNat : Int)) ∧ w'.cell? ⟨g, k * 2 + 1, none⟩ = some (.int .u64 ((hw (sk)).toNat : Int))) ∧ w'.cell? ⟨w.heap.size, 1, none⟩ = some (.slice (some ⟨b, off, none⟩) L.length c) ∧ w'.cell? ⟨b, off + k * 3 + 2, none⟩ = some (.slice (some ⟨b2, o2, none⟩) xi.length c2) ∧ w'.cell? ⟨b2, o2 + j, none⟩ = some (.int .i64 (u : Int))) (by kernel_rfl) rfl ⟨RT.out, RK.out, XN.out, RI.out, RJ.out⟩ (fun _ => ?_)
              refine wpAnyL_pure (i := 0) (v := .slice (some ⟨g, 0, none⟩) L.length L.length) (by simp only [List.getElem?_toArray, List.getElem?_cons_zero] <;> rfl) (by kernel_rfl) (by kernel_rfl) (by kernel_rfl) (by exact fun _ _ _ h => h) (by decide) (.inr ⟨RT.out, RK.out, XN.out, RI.out, RJ.out⟩) (Or.inl ⟨by rfl, fun w _ => (by simp [execOp, go_sem, Act.eval])⟩) (fun _ => ?_)
              simp only [Act.put, List.setIfInBounds_toArray, List.set_cons_zero, List.set_cons_succ]
              refine wpAnyL_pure (i := 1) (v := .pointer (some ⟨w.heap.size, 1, none⟩)) (by simp only [List.getElem?_toArray, List.getElem?_cons_zero, List.getElem?_cons_succ] <;> rfl) (by kernel_rfl) (by kernel_rfl) (by kernel_rfl) (by exact fun _ _ _ h => h) (by decide) (.inr ⟨RT.out, RK.out, XN.out, RI.out, RJ.out⟩) (Or.inl ⟨by rfl, fun w _ => (by simp [execOp, go_sem, Act.eval])⟩) (fun _ => ?_)
              simp only [Act.put, List.setIfInBounds_toArray, List.set_cons_zero, List.set_cons_succ]
              refine wpAnyL_load2 (i := 2) (v := .slice (some ⟨b, off, none⟩) L.length c) (by simp only [List.getElem?_toArray, List.getElem?_cons_zero, List.getElem?_cons_succ] <;> rfl) (by kernel_rfl) (by kernel_rfl) (by kernel_rfl) (by exact fun _ _ _ h => h) (by decide) (Waits.more (j := 11) rfl ⟨⟨11, .data⟩, by simp, rfl, rfl⟩ (Waits.more (j := 10) rfl ⟨⟨10, .data⟩, by simp, rfl, rfl⟩ (Waits.more (j := 9) rfl ⟨⟨9, .data⟩, by simp, rfl, rfl⟩ (Waits.more (j := 8) rfl ⟨⟨8, .data⟩, by simp, rfl, rfl⟩ (Waits.more (j := 6) rfl ⟨⟨6, .data⟩, by simp, rfl, rfl⟩ (Waits.more (j := 5) rfl ⟨⟨5, .data⟩, by simp, rfl, rfl⟩ (Waits.more (j := 4) rfl ⟨⟨4, .data⟩, by simp, rfl, rfl⟩ (Waits.one rfl ⟨⟨2, .data⟩, by simp, rfl, rfl⟩)))))))) (by kernel_rfl) (by kernel_rfl) (.inr ⟨RT.out, RK.out, XN.out, RI.out, RJ.out⟩) (Or.inl ⟨by rfl, fun w hw => (by obtain ⟨_, _, x2, _, _⟩ := hw; simp [execOp, go_sem, Act.eval, x2])⟩) (fun _ => ?_)
              simp only [Act.put, List.setIfInBounds_toArray, List.set_cons_zero, List.set_cons_succ]
              refine wpAnyL_pure (i := 3) (v := .int .i64 (k : Int)) (by simp only [List.getElem?_toArray, List.getElem?_cons_zero, List.getElem?_cons_succ] <;> rfl) (by kernel_rfl) (by kernel_rfl) (by kernel_rfl) (by exact fun _ _ _ h => h) (by decide) (.inr ⟨RT.out, RK.out, XN.out, RI.out, RJ.out⟩) (Or.inl ⟨by rfl, fun w _ => (by simp [execOp, go_sem, Act.eval])⟩) (fun _ => ?_)
              simp only [Act.put, List.setIfInBounds_toArray, List.set_cons_zero, List.set_cons_succ]
              refine wpAnyL_pure (i := 4) (v := .pointer (some ⟨b, off + k * 3, none⟩)) (by simp only [List.getElem?_toArray, List.getElem?_cons_zero, List.getElem?_cons_succ] <;> rfl) (by kernel_rfl) (by kernel_rfl) (by kernel_rfl) (by exact fun _ _ _ h => h) (by decide) (.inr ⟨RT.out, RK.out, XN.out, RI.out, RJ.out⟩) (Or.inl ⟨by rfl, fun w _ => (by simp [execOp, go_sem, Act.eval, zk])⟩) (fun _ => ?_)
              simp only [Act.put, List.setIfInBounds_toArray, List.set_cons_zero, List.set_cons_succ]
              refine wpAnyL_pure (i := 5) (v := .pointer (some ⟨b, off + k * 3 + 2, none⟩)) (by simp only [List.getElem?_toArray, List.getElem?_cons_zero, List.getElem?_cons_succ] <;> rfl) (by kernel_rfl) (by kernel_rfl) (by kernel_rfl) (by exact fun _ _ _ h => h) (by decide) (.inr ⟨RT.out, RK.out, XN.out, RI.out, RJ.out⟩) (Or.inl ⟨by rfl, fun w _ => (by simp [execOp, go_sem, Act.eval])⟩) (fun _ => ?_)
              simp only [Act.put, List.setIfInBounds_toArray, List.set_cons_zero, List.set_cons_succ]
              refine wpAnyL_load2 (i := 6) (v := .slice (some ⟨b2, o2, none⟩) xi.length c2) (by simp only [List.getElem?_toArray, List.getElem?_cons_zero, List.getElem?_cons_succ] <;> rfl) (by kernel_rfl) (by kernel_rfl) (by kernel_rfl) (by exact fun _ _ _ h => h) (by decide) (Waits.more (j := 11) rfl ⟨⟨11, .data⟩, by simp, rfl, rfl⟩ (Waits.more (j := 10) rfl ⟨⟨10, .data⟩, by simp, rfl, rfl⟩ (Waits.more (j := 9) rfl ⟨⟨9, .data⟩, by simp, rfl, rfl⟩ (Waits.more (j := 8) rfl ⟨⟨8, .data⟩, by simp, rfl, rfl⟩ (Waits.one rfl ⟨⟨6, .data⟩, by simp, rfl, rfl⟩))))) (by kernel_rfl) (by kernel_rfl) (.inr ⟨RT.out, RK.out, XN.out, RI.out, RJ.out⟩) (Or.inl ⟨by rfl, fun w hw => (by obtain ⟨_, _, _, x3, _⟩ := hw; simp [execOp, go_sem, Act.eval, x3])⟩) (fun _ => ?_)
              simp only [Act.put, List.setIfInBounds_toArray, List.set_cons_zero, List.set_cons_succ]
              refine wpAnyL_pure (i := 7) (v := .int .i64 (j : Int)) (by simp only [List.getElem?_toArray, List.getElem?_cons_zero, List.getElem?_cons_succ] <;> rfl) (by kernel_rfl) (by kernel_rfl) (by kernel_rfl) (by exact fun _ _ _ h => h) (by decide) (.inr ⟨RT.out, RK.out, XN.out, RI.out, RJ.out⟩) (Or.inl ⟨by rfl, fun w _ => (by simp [execOp, go_sem, Act.eval])⟩) (fun _ => ?_)
              simp only [Act.put, List.setIfInBounds_toArray, List.set_cons_zero, List.set_cons_succ]
              refine wpAnyL_pure (i := 8) (v := .pointer (some ⟨b2, o2 + j, none⟩)) (by simp only [List.getElem?_toArray, List.getElem?_cons_zero, List.getElem?_cons_succ] <;> rfl) (by kernel_rfl) (by kernel_rfl) (by kernel_rfl) (by exact fun _ _ _ h => h) (by decide) (.inr ⟨RT.out, RK.out, XN.out, RI.out, RJ.out⟩) (Or.inl ⟨by rfl, fun w _ => (by simp [execOp, go_sem, Act.eval, zj])⟩) (fun _ => ?_)
              simp only [Act.put, List.setIfInBounds_toArray, List.set_cons_zero, List.set_cons_succ]
              refine wpAnyL_load2 (i := 9) (v := .int .i64 (u : Int)) (by simp only [List.getElem?_toArray, List.getElem?_cons_zero, List.getElem?_cons_succ] <;> rfl) (by kernel_rfl) (by kernel_rfl) (by kernel_rfl) (by exact fun _ _ _ h => h) (by decide) (Waits.more (j := 11) rfl ⟨⟨11, .data⟩, by simp, rfl, rfl⟩ (Waits.more (j := 10) rfl ⟨⟨10, .data⟩, by simp, rfl, rfl⟩ (Waits.one rfl ⟨⟨9, .data⟩, by simp, rfl, rfl⟩))) (by kernel_rfl) (by kernel_rfl) (.inr ⟨RT.out, RK.out, XN.out, RI.out, RJ.out⟩) (Or.inl ⟨by rfl, fun w hw => (by obtain ⟨_, _, _, _, x4⟩ := hw; simp [execOp, go_sem, Act.eval, x4])⟩) (fun _ => ?_)
              simp only [Act.put, List.setIfInBounds_toArray, List.set_cons_zero, List.set_cons_succ]
              refine wpAnyL_pure (i := 10) (v := .pointer (some ⟨g, u * 2, none⟩)) (by simp only [List.getElem?_toArray, List.getElem?_cons_zero, List.getElem?_cons_succ] <;> rfl) (by kernel_rfl) (by kernel_rfl) (by kernel_rfl) (by exact fun _ _ _ h => h) (by decide) (.inr ⟨RT.out, RK.out, XN.out, RI.out, RJ.out⟩) (Or.inl ⟨by rfl, fun w _ => (by simp [execOp, go_sem, Act.eval, zu])⟩) (fun _ => ?_)
              simp only [Act.put, List.setIfInBounds_toArray, List.set_cons_zero, List.set_cons_succ]
              refine wpAnyL_load2 (i := 11) (v := encS (t)) (by simp only [List.getElem?_toArray, List.getElem?_cons_zero, List.getElem?_cons_succ] <;> rfl) (by kernel_rfl) (by kernel_rfl) (by kernel_rfl) (by exact fun _ _ _ h => h) (by decide) (Waits.one rfl ⟨⟨11, .data⟩, by simp, rfl, rfl⟩) (by kernel_rfl) (by kernel_rfl) (.inr ⟨RT.out, RK.out, XN.out, RI.out, RJ.out⟩) (Or.inl ⟨by rfl, fun w hw => (by obtain ⟨⟨y0, z0⟩, _, _, _, _⟩ := hw; simp [execOp, go_sem, Act.eval, y0, z0])⟩) (fun _ => ?_)
              simp only [Act.put, List.setIfInBounds_toArray, List.set_cons_zero, List.set_cons_succ]
              refine wpAnyL_pure (i := 12) (v := .slice (some ⟨g, 0, none⟩) L.length L.length) (by simp only [List.getElem?_toArray, List.getElem?_cons_zero, List.getElem?_cons_succ] <;> rfl) (by kernel_rfl) (by kernel_rfl) (by kernel_rfl) (by exact fun _ _ _ h => h) (by decide) (.inr ⟨RT.out, RK.out, XN.out, RI.out, RJ.out⟩) (Or.inl ⟨by rfl, fun w _ => (by simp [execOp, go_sem, Act.eval])⟩) (fun _ => ?_)
              simp only [Act.put, List.setIfInBounds_toArray, List.set_cons_zero, List.set_cons_succ]
              refine wpAnyL_pure (i := 13) (v := .int .i64 (k : Int)) (by simp only [List.getElem?_toArray, List.getElem?_cons_zero, List.getElem?_cons_succ] <;> rfl) (by kernel_rfl) (by kernel_rfl) (by kernel_rfl) (by exact fun _ _ _ h => h) (by decide) (.inr ⟨RT.out, RK.out, XN.out, RI.out, RJ.out⟩) (Or.inl ⟨by rfl, fun w _ => (by simp [execOp, go_sem, Act.eval])⟩) (fun _ => ?_)
              simp only [Act.put, List.setIfInBounds_toArray, List.set_cons_zero, List.set_cons_succ]
              refine wpAnyL_pure (i := 14) (v := .pointer (some ⟨g, k * 2, none⟩)) (by simp only [List.getElem?_toArray, List.getElem?_cons_zero, List.getElem?_cons_succ] <;> rfl) (by kernel_rfl) (by kernel_rfl) (by kernel_rfl) (by exact fun _ _ _ h => h) (by decide) (.inr ⟨RT.out, RK.out, XN.out, RI.out, RJ.out⟩) (Or.inl ⟨by rfl, fun w _ => (by simp [execOp, go_sem, Act.eval, zk])⟩) (fun _ => ?_)
              simp only [Act.put, List.setIfInBounds_toArray, List.set_cons_zero, List.set_cons_succ]
              refine wpAnyL_load2 (i := 15) (v := encS (sk)) (by simp only [List.getElem?_toArray, List.getElem?_cons_zero, List.getElem?_cons_succ] <;> rfl) (by kernel_rfl) (by kernel_rfl) (by kernel_rfl) (by exact fun _ _ _ h => h) (by decide) (Waits.one rfl ⟨⟨15, .data⟩, by simp, rfl, rfl⟩) (by kernel_rfl) (by kernel_rfl) (.inr ⟨RT.out, RK.out, XN.out, RI.out, RJ.out⟩) (Or.inl ⟨by rfl, fun w hw => (by obtain ⟨_, ⟨y1, z1⟩, _, _, _⟩ := hw; simp [execOp, go_sem, Act.eval, y1, z1])⟩) (fun _ => ?_)
              simp only [Act.put, List.setIfInBounds_toArray, List.set_cons_zero, List.set_cons_succ]
              refine wpAnyL_one (i := 16) (by kernel_rfl) (by simp only [List.getElem?_toArray, List.getElem?_cons_zero, List.getElem?_cons_succ] <;> rfl) (by rfl) ?_
              refine opwp_value (v := .bool true) (w' := wr.drew) (by simp [execOp, go_sem, Act.eval, hd3]) ⟨.inl (by kernel_rfl), ?_⟩
              simp only [Act.put, List.setIfInBounds_toArray, List.set_cons_zero, List.set_cons_succ]
              refine wpAnyL_done (by kernel_rfl) ?_ _
              go_wp2_with fail
              go_ret
              exact ⟨by rw [HD.out]; rfl, HB3.out.trans ((HBQ.out.drew).mono HB3.out.size)⟩
            | true =>
              have HDJ2 := hid (HDJ.out hd)
              have hd3 : t = sk := by simpa using hd
              clear HBD HDJ
              go_wp2_with fail
              refine Go.Proofs.YtpdbfbjfodckgaaDoor.wp_region_L 17 16 (fun w' => (w'.cell? ⟨g, u * 2, none⟩ = some (.int .u64 ((lw (t)).toNat : Int)) ∧ w'.cell? ⟨g, u * 2 + 1, none⟩ = some (.int .u64 ((hw (t)).toNat : Int))) ∧ (w'.cell? ⟨g, k * 2, none⟩ = some (.int .u64 ((lw (sk)).toNat : Int)) ∧ w'.cell? ⟨g, k * 2 + 1, none⟩ = some (.int .u64 ((hw (sk)).toNat : Int))) ∧ w'.cell? ⟨w.heap.size, 1, none⟩ = some (.slice (some ⟨b, off, none⟩) L.length c) ∧ w'.cell? ⟨b, off + k * 3 + 2, none⟩ = some (.slice (some ⟨b2, o2, none⟩) xi.length c2) ∧ w'.cell? ⟨b2, o2 + j, none⟩ = some (.int .i64 (u : Int))) (by kernel_rfl) rfl ⟨RT.out, RK.out, XN.out, RI.out, RJ.out⟩ (fun _ => ?_)
              refine wpAnyL_pure (i := 0) (v := .slice (some ⟨g, 0, none⟩) L.length L.length) (by simp only [List.getElem?_toArray, List.getElem?_cons_zero] <;> rfl) (by kernel_rfl) (by kernel_rfl) (by kernel_rfl) (by exact fun _ _ _ h => h) (by decide) (.inr ⟨RT.out, RK.out, XN.out, RI.out, RJ.out⟩) (Or.inl ⟨by rfl, fun w _ => (by simp [execOp, go_sem, Act.eval])⟩) (fun _ => ?_)
              simp only [Act.put, List.setIfInBounds_toArray, List.set_cons_zero, List.set_cons_succ]
              refine wpAnyL_pure (i := 1) (v := .pointer (some ⟨w.heap.size, 1, none⟩)) (by simp only [List.getElem?_toArray, List.getElem?_cons_zero, List.getElem?_cons_succ] <;> rfl) (by kernel_rfl) (by kernel_rfl) (by kernel_rfl) (by exact fun _ _ _ h => h) (by decide) (.inr ⟨RT.out, RK.out, XN.out, RI.out, RJ.out⟩) (Or.inl ⟨by rfl, fun w _ => (by simp [execOp, go_sem, Act.eval])⟩) (fun _ => ?_)
              simp only [Act.put, List.setIfInBounds_toArray, List.set_cons_zero, List.set_cons_succ]
              refine wpAnyL_load2 (i := 2) (v := .slice (some ⟨b, off, none⟩) L.length c) (by simp only [List.getElem?_toArray, List.getElem?_cons_zero, List.getElem?_cons_succ] <;> rfl) (by kernel_rfl) (by kernel_rfl) (by kernel_rfl) (by exact fun _ _ _ h => h) (by decide) (Waits.more (j := 11) rfl ⟨⟨11, .data⟩, by simp, rfl, rfl⟩ (Waits.more (j := 10) rfl ⟨⟨10, .data⟩, by simp, rfl, rfl⟩ (Waits.more (j := 9) rfl ⟨⟨9, .data⟩, by simp, rfl, rfl⟩ (Waits.more (j := 8) rfl ⟨⟨8, .data⟩, by simp, rfl, rfl⟩ (Waits.more (j := 6) rfl ⟨⟨6, .data⟩, by simp, rfl, rfl⟩ (Waits.more (j := 5) rfl ⟨⟨5, .data⟩, by simp, rfl, rfl⟩ (Waits.more (j := 4) rfl ⟨⟨4, .data⟩, by simp, rfl, rfl⟩ (Waits.one rfl ⟨⟨2, .data⟩, by simp, rfl, rfl⟩)))))))) (by kernel_rfl) (by kernel_rfl) (.inr ⟨RT.out, RK.out, XN.out, RI.out, RJ.out⟩) (Or.inl ⟨by rfl, fun w hw => (by obtain ⟨_, _, x2, _, _⟩ := hw; simp [execOp, go_sem, Act.eval, x2])⟩) (fun _ => ?_)
              simp only [Act.put, List.setIfInBounds_toArray, List.set_cons_zero, List.set_cons_succ]
              refine wpAnyL_pure (i := 3) (v := .int .i64 (k : Int)) (by simp only [List.getElem?_toArray, List.getElem?_cons_zero, List.getElem?_cons_succ] <;> rfl) (by kernel_rfl) (by kernel_rfl) (by kernel_rfl) (by exact fun _ _ _ h => h) (by decide) (.inr ⟨RT.out, RK.out, XN.out, RI.out, RJ.out⟩) (Or.inl ⟨by rfl, fun w _ => (by simp [execOp, go_sem, Act.eval])⟩) (fun _ => ?_)
              simp only [Act.put, List.setIfInBounds_toArray, List.set_cons_zero, List.set_cons_succ]
              refine wpAnyL_pure (i := 4) (v := .pointer (some ⟨b, off + k * 3, none⟩)) (by simp only [List.getElem?_toArray, List.getElem?_cons_zero, List.getElem?_cons_succ] <;> rfl) (by kernel_rfl) (by kernel_rfl) (by kernel_rfl) (by exact fun _ _ _ h => h) (by decide) (.inr ⟨RT.out, RK.out, XN.out, RI.out, RJ.out⟩) (Or.inl ⟨by rfl, fun w _ => (by simp [execOp, go_sem, Act.eval, zk])⟩) (fun _ => ?_)
              simp only [Act.put, List.setIfInBounds_toArray, List.set_cons_zero, List.set_cons_succ]
              refine wpAnyL_pure (i := 5) (v := .pointer (some ⟨b, off + k * 3 + 2, none⟩)) (by simp only [List.getElem?_toArray, List.getElem?_cons_zero, List.getElem?_cons_succ] <;> rfl) (by kernel_rfl) (by kernel_rfl) (by kernel_rfl) (by exact fun _ _ _ h => h) (by decide) (.inr ⟨RT.out, RK.out, XN.out, RI.out, RJ.out⟩) (Or.inl ⟨by rfl, fun w _ => (by simp [execOp, go_sem, Act.eval])⟩) (fun _ => ?_)
              simp only [Act.put, List.setIfInBounds_toArray, List.set_cons_zero, List.set_cons_succ]
              refine wpAnyL_load2 (i := 6) (v := .slice (some ⟨b2, o2, none⟩) xi.length c2) (by simp only [List.getElem?_toArray, List.getElem?_cons_zero, List.getElem?_cons_succ] <;> rfl) (by kernel_rfl) (by kernel_rfl) (by kernel_rfl) (by exact fun _ _ _ h => h) (by decide) (Waits.more (j := 11) rfl ⟨⟨11, .data⟩, by simp, rfl, rfl⟩ (Waits.more (j := 10) rfl ⟨⟨10, .data⟩, by simp, rfl, rfl⟩ (Waits.more (j := 9) rfl ⟨⟨9, .data⟩, by simp, rfl, rfl⟩ (Waits.more (j := 8) rfl ⟨⟨8, .data⟩, by simp, rfl, rfl⟩ (Waits.one rfl ⟨⟨6, .data⟩, by simp, rfl, rfl⟩))))) (by kernel_rfl) (by kernel_rfl) (.inr ⟨RT.out, RK.out, XN.out, RI.out, RJ.out⟩) (Or.inl ⟨by rfl, fun w hw => (by obtain ⟨_, _, _, x3, _⟩ := hw; simp [execOp, go_sem, Act.eval, x3])⟩) (fun _ => ?_)
              simp only [Act.put, List.setIfInBounds_toArray, List.set_cons_zero, List.set_cons_succ]
              refine wpAnyL_pure (i := 7) (v := .int .i64 (j : Int)) (by simp only [List.getElem?_toArray, List.getElem?_cons_zero, List.getElem?_cons_succ] <;> rfl) (by kernel_rfl) (by kernel_rfl) (by kernel_rfl) (by exact fun _ _ _ h => h) (by decide) (.inr ⟨RT.out, RK.out, XN.out, RI.out, RJ.out⟩) (Or.inl ⟨by rfl, fun w _ => (by simp [execOp, go_sem, Act.eval])⟩) (fun _ => ?_)
              simp only [Act.put, List.setIfInBounds_toArray, List.set_cons_zero, List.set_cons_succ]
              refine wpAnyL_pure (i := 8) (v := .pointer (some ⟨b2, o2 + j, none⟩)) (by simp only [List.getElem?_toArray, List.getElem?_cons_zero, List.getElem?_cons_succ] <;> rfl) (by kernel_rfl) (by kernel_rfl) (by kernel_rfl) (by exact fun _ _ _ h => h) (by decide) (.inr ⟨RT.out, RK.out, XN.out, RI.out, RJ.out⟩) (Or.inl ⟨by rfl, fun w _ => (by simp [execOp, go_sem, Act.eval, zj])⟩) (fun _ => ?_)
              simp only [Act.put, List.setIfInBounds_toArray, List.set_cons_zero, List.set_cons_succ]
              refine wpAnyL_load2 (i := 9) (v := .int .i64 (u : Int)) (by simp only [List.getElem?_toArray, List.getElem?_cons_zero, List.getElem?_cons_succ] <;> rfl) (by kernel_rfl) (by kernel_rfl) (by kernel_rfl) (by exact fun _ _ _ h => h) (by decide) (Waits.more (j := 11) rfl ⟨⟨11, .data⟩, by simp, rfl, rfl⟩ (Waits.more (j := 10) rfl ⟨⟨10, .data⟩, by simp, rfl, rfl⟩ (Waits.one rfl ⟨⟨9, .data⟩, by simp, rfl, rfl⟩))) (by kernel_rfl) (by kernel_rfl) (.inr ⟨RT.out, RK.out, XN.out, RI.out, RJ.out⟩) (Or.inl ⟨by rfl, fun w hw => (by obtain ⟨_, _, _, _, x4⟩ := hw; simp [execOp, go_sem, Act.eval, x4])⟩) (fun _ => ?_)
              simp only [Act.put, List.setIfInBounds_toArray, List.set_cons_zero, List.set_cons_succ]
              refine wpAnyL_pure (i := 10) (v := .pointer (some ⟨g, u * 2, none⟩)) (by simp only [List.getElem?_toArray, List.getElem?_cons_zero, List.getElem?_cons_succ] <;> rfl) (by kernel_rfl) (by kernel_rfl) (by kernel_rfl) (by exact fun _ _ _ h => h) (by decide) (.inr ⟨RT.out, RK.out, XN.out, RI.out, RJ.out⟩) (Or.inl ⟨by rfl, fun w _ => (by simp [execOp, go_sem, Act.eval, zu])⟩) (fun _ => ?_)
              simp only [Act.put, List.setIfInBounds_toArray, List.set_cons_zero, List.set_cons_succ]
              refine wpAnyL_load2 (i := 11) (v := encS (t)) (by simp only [List.getElem?_toArray, List.getElem?_cons_zero, List.getElem?_cons_succ] <;> rfl) (by kernel_rfl) (by kernel_rfl) (by kernel_rfl) (by exact fun _ _ _ h => h) (by decide) (Waits.one rfl ⟨⟨11, .data⟩, by simp, rfl, rfl⟩) (by kernel_rfl) (by kernel_rfl) (.inr ⟨RT.out, RK.out, XN.out, RI.out, RJ.out⟩) (Or.inl ⟨by rfl, fun w hw => (by obtain ⟨⟨y0, z0⟩, _, _, _, _⟩ := hw; simp [execOp, go_sem, Act.eval, y0, z0])⟩) (fun _ => ?_)
              simp only [Act.put, List.setIfInBounds_toArray, List.set_cons_zero, List.set_cons_succ]
              refine wpAnyL_pure (i := 12) (v := .slice (some ⟨g, 0, none⟩) L.length L.length) (by simp only [List.getElem?_toArray, List.getElem?_cons_zero, List.getElem?_cons_succ] <;> rfl) (by kernel_rfl) (by kernel_rfl) (by kernel_rfl) (by exact fun _ _ _ h => h) (by decide) (.inr ⟨RT.out, RK.out, XN.out, RI.out, RJ.out⟩) (Or.inl ⟨by rfl, fun w _ => (by simp [execOp, go_sem, Act.eval])⟩) (fun _ => ?_)
              simp only [Act.put, List.setIfInBounds_toArray, List.set_cons_zero, List.set_cons_succ]
              refine wpAnyL_pure (i := 13) (v := .int .i64 (k : Int)) (by simp only [List.getElem?_toArray, List.getElem?_cons_zero, List.getElem?_cons_succ] <;> rfl) (by kernel_rfl) (by kernel_rfl) (by kernel_rfl) (by exact fun _ _ _ h => h) (by decide) (.inr ⟨RT.out, RK.out, XN.out, RI.out, RJ.out⟩) (Or.inl ⟨by rfl, fun w _ => (by simp [execOp, go_sem, Act.eval])⟩) (fun _ => ?_)
              simp only [Act.put, List.setIfInBounds_toArray, List.set_cons_zero, List.set_cons_succ]
              refine wpAnyL_pure (i := 14) (v := .pointer (some ⟨g, k * 2, none⟩)) (by simp only [List.getElem?_toArray, List.getElem?_cons_zero, List.getElem?_cons_succ] <;> rfl) (by kernel_rfl) (by kernel_rfl) (by kernel_rfl) (by exact fun _ _ _ h => h) (by decide) (.inr ⟨RT.out, RK.out, XN.out, RI.out, RJ.out⟩) (Or.inl ⟨by rfl, fun w _ => (by simp [execOp, go_sem, Act.eval, zk])⟩) (fun _ => ?_)
              simp only [Act.put, List.setIfInBounds_toArray, List.set_cons_zero, List.set_cons_succ]
              refine wpAnyL_load2 (i := 15) (v := encS (sk)) (by simp only [List.getElem?_toArray, List.getElem?_cons_zero, List.getElem?_cons_succ] <;> rfl) (by kernel_rfl) (by kernel_rfl) (by kernel_rfl) (by exact fun _ _ _ h => h) (by decide) (Waits.one rfl ⟨⟨15, .data⟩, by simp, rfl, rfl⟩) (by kernel_rfl) (by kernel_rfl) (.inr ⟨RT.out, RK.out, XN.out, RI.out, RJ.out⟩) (Or.inl ⟨by rfl, fun w hw => (by obtain ⟨_, ⟨y1, z1⟩, _, _, _⟩ := hw; simp [execOp, go_sem, Act.eval, y1, z1])⟩) (fun _ => ?_)
              simp only [Act.put, List.setIfInBounds_toArray, List.set_cons_zero, List.set_cons_succ]
              refine wpAnyL_one (i := 16) (by kernel_rfl) (by simp only [List.getElem?_toArray, List.getElem?_cons_zero, List.getElem?_cons_succ] <;> rfl) (by rfl) ?_
              refine opwp_value (v := .bool false) (w' := wr.drew) (by simp [execOp, go_sem, Act.eval, hd3]) ⟨.inl (by kernel_rfl), ?_⟩
              simp only [Act.put, List.setIfInBounds_toArray, List.set_cons_zero, List.set_cons_succ]
              refine wpAnyL_done (by kernel_rfl) ?_ _
              go_wp2_with fail
              go_roundw
              case rel => exact ⟨j + 1, by omega, by go_num, HDJ2.out, HBQ.out.drew⟩
              case measure => simp [intOf]; omega
          · obtain rfl : j = xi.length := by omega
            have HO := hid (HOK.out (show ((4 : Int) != 4 || xi.all fun x => sOf (vsOf L) x == sk) = true from by rw [all_to fun i hi => hdj.out i hi hi]; rfl))
            have HO2 := hid (show ∀ j (hj : j < L.length), j < k + 1 → (L[j].kind != 4 || L[j].ins.all fun x => sOf (vsOf L) x == sOf (vsOf L) (j : Int)) = true from HO.out)
            have HBQ := hid hbr.out
            clear hdj hbr HO
            go_wp2_with fail
            go_roundw
            case rel => exact ⟨k + 1, by omega, by go_num, HO2.out, HBQ.out⟩
            case measure => simp [intOf]; omega
      · have HK2 := hid (HOK.out (by simp [h3]))
        have h3' : (xk == 4) = false := by simp [h3]
        clear h3
        by_cases hxl : (0 : Int) < (xi.length : Int)
        · go_wp2_with fail
          go_rounds 1
          go_wp2_with fail
          go_roundw
          case rel => exact ⟨k + 1, by omega, by go_num, HK2.out, HBR.out⟩
          case measure => simp [intOf]; omega
        · go_wp2_with fail
          go_rounds 1
          go_wp2_with fail
          go_roundw
          case rel => exact ⟨k + 1, by omega, by go_num, HK2.out, HBR.out⟩
          case measure => simp [intOf]; omega
    · obtain rfl : k = L.length := by omega
      have HT := hid (show smoothB L = true from smoothB_true fun k hk => hok.out k hk hk)
      have HBR := hid hbr.out
      clear hok hbr
      go_wp2_with fail
      go_ret
      exact ⟨by rw [HT.out]; rfl, HB3.out.trans (HBR.out.mono HB3.out.size)⟩

/-- Is the node a literal, or a conjunction with this literal among its inputs? -/
def hasL (L : List NodeT) (i l : Int) : Bool := (heads L i).contains l
theorem hasL_lit {L : List NodeT} {i l : Int} (h : (nOf L i).kind = 2) : hasL L i l = ((nOf L i).lit == l) := by
  unfold hasL heads
  rw [if_pos h, List.contains_cons, List.contains_nil, Bool.or_false, Bool.eq_iff_iff, beq_iff_eq, beq_iff_eq]
  exact eq_comm
theorem hasL_no {L : List NodeT} {i l : Int} (h2 : (nOf L i).kind ≠ 2) (h3 : (nOf L i).kind ≠ 3) : hasL L i l = false := by
  unfold hasL heads
  rw [if_neg h2, if_neg h3]; rfl
theorem hasL_at {L : List NodeT} {i l : Int} (h3 : (nOf L i).kind = 3) {q : Nat} (hq : q < (nOf L i).ins.length) (h : (nOf L (nOf L i).ins[q]).kind = 2) (hl : (nOf L (nOf L i).ins[q]).lit = l) : hasL L i l = true := by
  unfold hasL heads
  rw [if_neg (by omega), if_pos h3]
  simp only [List.contains_iff_mem]
  unfold litsOf
  rw [List.mem_filterMap]
  exact ⟨_, List.getElem_mem hq, by rw [if_pos h, hl]⟩
theorem hasL_none {L : List NodeT} {i l : Int} (h3 : (nOf L i).kind = 3) (h : ∀ q (hq : q < (nOf L i).ins.length), ¬ ((nOf L (nOf L i).ins[q]).kind = 2 ∧ (nOf L (nOf L i).ins[q]).lit = l)) : hasL L i l = false := by
  cases e : hasL L i l with
  | false => rfl
  | true =>
    unfold hasL heads at e
    rw [if_neg (by omega), if_pos h3] at e
    simp only [List.contains_iff_mem] at e
    unfold litsOf at e
    rw [List.mem_filterMap] at e
    obtain ⟨x, hx, hxl⟩ := e
    obtain ⟨q, hq, rfl⟩ := List.getElem_of_mem hx
    split at hxl
    · rename_i h2
      injection hxl with hxl
      exact absurd ⟨h2, hxl⟩ (h q hq)
    · cases hxl
set_option maxRecDepth 100000 in
set_option maxHeartbeats 8000000 in
theorem has21_c (n : Int) (L : List NodeT) (v : Value) (w : World) (k : Nat) (l : Int) (hN : NodesAt w v L) (hk : k < L.length) (hft : formedTo n L L.length) :
    Calls Tryd.prog 51 #[.agg #[.int .i64 n, v], .int .i64 (k : Int), .int .i64 l] w fun e w' => e = .returned (.bool (hasL L (k : Int) l)) ∧ Below w.heap.size w w' := by
  obtain ⟨p, c, rfl, h⟩ := hN
  obtain ⟨b, off, rfl, hN⟩ := h.resolve_left (by intro e; rw [e] at hk; simp at hk)
  obtain ⟨u, hu⟩ := hN k hk
  have d0 := hu.kind
  have d1 := hu.lit
  have d2 := hu.ins
  have hle := hu.len
  have lb : b < w.heap.size := cell_lt d0
  have HU := hid hu
  have HN := hid hN
  have HIN := hid (ins_lt hft hk)
  have HNK := hid (nOf_nat L k hk)
  have zk : (0 : Int) ≤ (k : Int) ∧ (k : Int) < (L.length : Int) := by omega
  clear hu hN h hft
  generalize hxx : L[k] = x at *
  obtain ⟨xk, xl, xi⟩ := x
  obtain ⟨p2, c2, e2, hdrop⟩ := HU.out.ints
  subst e2
  clear hdrop hxx
  have hb1 : Below w.heap.size w (w.alloc (.cells #[.int .i64 n, .slice (some ⟨b, off, none⟩) L.length c] 24)) := (Below.refl _ w).alloc (Nat.le_refl _) _
  have hb2 : Below (w.alloc (.cells #[.int .i64 n, .slice (some ⟨b, off, none⟩) L.length c] 24)).heap.size (w.alloc (.cells #[.int .i64 n, .slice (some ⟨b, off, none⟩) L.length c] 24)) ((w.alloc (.cells #[.int .i64 n, .slice (some ⟨b, off, none⟩) L.length c] 24)).alloc (.cells #[.int .i64 xk, .int .i64 xl, .slice p2 xi.length c2] 39)) := (Below.refl _ _).alloc (Nat.le_refl _) _
  have hb12 := hb1.trans (hb2.mono hb1.size)
  have HX := hid ((NetVar.new w n (.slice (some ⟨b, off, none⟩) L.length c) 24).below hb2)
  have hbx := Box3.new (w.alloc (.cells #[.int .i64 n, .slice (some ⟨b, off, none⟩) L.length c] 24)) 39 (.int .i64 xk) (.int .i64 xl) (.slice p2 xi.length c2)
  rw [World.size_alloc] at hbx
  have HBX := hid hbx
  have HB := hid hb12
  clear hb1 hb2 hb12 hbx
  by_cases h2 : xk = 2
  · subst h2
    have HR := hid (show hasL L (k : Int) l = (xl == l) from by rw [hasL_lit (by rw [HNK.out]), HNK.out])
    cases hl : (xl == l)
    · rw [hl] at HR
      by_cases hxl : (0 : Int) < (xi.length : Int)
      · go_enter Tryd.func51, Tryd.ntmps51
        go_wp2_with fail
        go_rounds 1
        go_wp2_with fail
        go_ret
        exact ⟨by rw [HR.out]; rfl, HB.out⟩
      · go_enter Tryd.func51, Tryd.ntmps51
        go_wp2_with fail
        go_rounds 1
        go_wp2_with fail
        go_ret
        exact ⟨by rw [HR.out]; rfl, HB.out⟩
    · rw [hl] at HR
      go_enter Tryd.func51, Tryd.ntmps51
      go_wp2_with fail
      go_ret
      exact ⟨by rw [HR.out]; rfl, HB.out⟩
  · have h2' : (xk == 2) = false := by simp [h2]
    by_cases h3 : xk = 3
    · subst h3
      have HYES := hid (fun (q : Nat) (hq : q < xi.length) (e1 : (nOf L xi[q]).kind = 2) (e2 : (nOf L xi[q]).lit = l) => (show hasL L (k : Int) l = true from by
        have hnk := HNK.out
        exact hasL_at (q := q) (by rw [hnk]) (by rw [hnk]; exact hq) (by simp only [hnk]; exact e1) (by simp only [hnk]; exact e2)))
      have HNO := hid (fun (h : ∀ q (hq : q < xi.length), ¬ ((nOf L xi[q]).kind = 2 ∧ (nOf L xi[q]).lit = l)) => (show hasL L (k : Int) l = false from by
        have hnk := HNK.out
        exact hasL_none (by rw [hnk]) (fun q hq => by
          have := h q (by rw [hnk] at hq; exact hq)
          simp only [hnk]; exact this)))
      go_enter Tryd.func51, Tryd.ntmps51
      go_wp2_with fail
      generalize (w.alloc (.cells #[.int .i64 n, .slice (some ⟨b, off, none⟩) L.length c] 24)).alloc (.cells #[.int .i64 3, .int .i64 xl, .slice p2 xi.length c2] 39) = w2 at *
      clear d0 d1 d2
      go_loopw [8] (fun z wr => ∃ (q : Nat), q ≤ xi.length ∧ z = .int .i64 q ∧ Hid (∀ i (hi : i < xi.length), i < q → ¬ ((nOf L xi[i]).kind = 2 ∧ (nOf L xi[i]).lit = l)) ∧ Hid (Below w2.heap.size w2 wr)) (fun z _ => xi.length - (intOf z).toNat)
      case atStart => exact ⟨0, Nat.zero_le _, rfl, fun i _ h => absurd h (Nat.not_lt_zero _), Below.refl _ _⟩
      case round =>
        obtain ⟨q, hq, rfl, hno, hbr⟩ := hrel
        obtain ⟨x0, x1⟩ := HX.out.below hbr.out
        obtain ⟨s0, s1, s2⟩ := (HBX.out.below hbr.out HBX.out.lt).cells
        by_cases hql : q < xi.length
        · obtain ⟨p3, c3, e3, h3⟩ := show IntsAt wr (.slice p2 xi.length c2) xi from (HU.out.ints.below HB.out).below hbr.out
          injection e3 with e1 e4 e2
          clear e4
          subst e1; subst e2
          obtain ⟨b2, o2, rfl, hc⟩ := h3.resolve_left (by intro e; rw [e] at hql; simp at hql)
          have hcj := hc q hql
          rw [List.getElem?_eq_getElem hql, Option.getD_some] at hcj
          have hin := HIN.out _ (List.getElem_mem hql)
          have HNX := hid (show ¬ ((nOf L xi[q]).kind = 2 ∧ (nOf L xi[q]).lit = l) → ∀ i (hi : i < xi.length), i < q + 1 → ¬ ((nOf L xi[i]).kind = 2 ∧ (nOf L xi[i]).lit = l) from fun h i hi hlt => by
            by_cases e : i = q
            · subst e; exact h
            · exact hno.out i hi (by omega))
          have HYQ := hid (fun e1 e2 => HYES.out q hql e1 e2)
          obtain ⟨u, hu⟩ : ∃ u : Nat, xi[q] = (u : Int) := ⟨xi[q].toNat, by omega⟩
          rw [hu] at hcj hin HNX HYQ
          have zj : (0 : Int) ≤ (q : Int) ∧ (q : Int) < (xi.length : Int) := by omega
          have zu : (0 : Int) ≤ (u : Int) ∧ (u : Int) < (L.length : Int) := by omega
          have hul : u < L.length := by omega
          rw [nOf_nat L u hul] at HNX HYQ
          obtain ⟨uu, huu⟩ := HN.out u hul
          have hur := (huu.below HB.out).below hbr.out
          have k0 := hur.kind
          have k1 := hur.lit
          generalize L[u] = y at *
          obtain ⟨yk, yl, yi⟩ := y
          simp only at k0 k1 HNX HYQ
          have HBQ := hid hbr.out
          have XN : Hid (wr.drew.cell? ⟨w.heap.size, 1, none⟩ = some (.slice (some ⟨b, off, none⟩) L.length c)) := x1
          have RI : Hid (wr.drew.cell? ⟨w.heap.size + 1, 2, none⟩ = some (.slice (some ⟨b2, o2, none⟩) xi.length c2)) := s2
          have RJ : Hid (wr.drew.cell? ⟨b2, o2 + q, none⟩ = some (.int .i64 (u : Int))) := hcj
          have RK : Hid (wr.drew.cell? ⟨b, off + u * 3, none⟩ = some (.int .i64 yk)) := k0
          have RL : Hid (wr.drew.cell? ⟨b, off + u * 3 + 1, none⟩ = some (.int .i64 yl)) := k1
          clear h3 hc hin hu hno hbr huu hur
          cases hyk : (yk == 2) with
          | false =>
            have HN2 := hid (HNX.out (fun h => by rw [h.1] at hyk; cases hyk))
            clear HNX HYQ
            go_wp2_with fail
            refine Go.Proofs.YtpdbfbjfodckgaaDoor.wp_region_L 25 24 (fun w' => w'.cell? ⟨w.heap.size, 1, none⟩ = some (.slice (some ⟨b, off, none⟩) L.length c) ∧ w'.cell? ⟨w.heap.size + 1, 2, none⟩ = some (.slice (some ⟨b2, o2, none⟩) xi.length c2) ∧ w'.cell? ⟨b2, o2 + q, none⟩ = some (.int .i64 (u : Int)) ∧ w'.cell? ⟨b, off + u * 3, none⟩ = some (.int .i64 yk) ∧ w'.cell? ⟨b, off + u * 3 + 1, none⟩ = some (.int .i64 yl)) (by kernel_rfl) rfl ⟨XN.out, RI.out, RJ.out, RK.out, RL.out⟩ (fun _ => ?_)
            refine wpAnyL_pure (i := 0) (v := .pointer (some ⟨w.heap.size, 1, none⟩)) (by simp only [List.getElem?_toArray, List.getElem?_cons_zero] <;> rfl) (by kernel_rfl) (by kernel_rfl) (by kernel_rfl) (by exact fun _ _ _ h => h) (by decide) (.inr ⟨XN.out, RI.out, RJ.out, RK.out, RL.out⟩) (Or.inl ⟨by rfl, fun w _ => (by simp [execOp, go_sem, Act.eval])⟩) (fun _ => ?_)
            simp only [Act.put, List.setIfInBounds_toArray, List.set_cons_zero, List.set_cons_succ]
            refine wpAnyL_load2 (i := 1) (v := .slice (some ⟨b, off, none⟩) L.length c) (by simp only [List.getElem?_toArray, List.getElem?_cons_zero, List.getElem?_cons_succ] <;> rfl) (by kernel_rfl) (by kernel_rfl) (by kernel_rfl) (by exact fun _ _ _ h => h) (by decide) (Waits.more (j := 11) rfl ⟨⟨11, .data⟩, by simp, rfl, rfl⟩ (Waits.more (j := 10) rfl ⟨⟨10, .data⟩, by simp, rfl, rfl⟩ (Waits.more (j := 9) rfl ⟨⟨9, .data⟩, by simp, rfl, rfl⟩ (Waits.more (j := 8) rfl ⟨⟨8, .data⟩, by simp, rfl, rfl⟩ (Waits.more (j := 7) rfl ⟨⟨7, .data⟩, by simp, rfl, rfl⟩ (Waits.one rfl ⟨⟨1, .data⟩, by simp, rfl, rfl⟩)))))) (by kernel_rfl) (by kernel_rfl) (.inr ⟨XN.out, RI.out, RJ.out, RK.out, RL.out⟩) (Or.inl ⟨by rfl, fun w hw => (by obtain ⟨x0, _, _, _, _⟩ := hw; simp [execOp, go_sem, Act.eval, x0])⟩) (fun _ => ?_)
            simp only [Act.put, List.setIfInBounds_toArray, List.set_cons_zero, List.set_cons_succ]
            refine wpAnyL_pure (i := 2) (v := .pointer (some ⟨w.heap.size + 1, 2, none⟩)) (by simp only [List.getElem?_toArray, List.getElem?_cons_zero, List.getElem?_cons_succ] <;> rfl) (by kernel_rfl) (by kernel_rfl) (by kernel_rfl) (by exact fun _ _ _ h => h) (by decide) (.inr ⟨XN.out, RI.out, RJ.out, RK.out, RL.out⟩) (Or.inl ⟨by rfl, fun w _ => (by simp [execOp, go_sem, Act.eval])⟩) (fun _ => ?_)
            simp only [Act.put, List.setIfInBounds_toArray, List.set_cons_zero, List.set_cons_succ]
            refine wpAnyL_load2 (i := 3) (v := .slice (some ⟨b2, o2, none⟩) xi.length c2) (by simp only [List.getElem?_toArray, List.getElem?_cons_zero, List.getElem?_cons_succ] <;> rfl) (by kernel_rfl) (by kernel_rfl) (by kernel_rfl) (by exact fun _ _ _ h => h) (by decide) (Waits.more (j := 11) rfl ⟨⟨11, .data⟩, by simp, rfl, rfl⟩ (Waits.more (j := 10) rfl ⟨⟨10, .data⟩, by simp, rfl, rfl⟩ (Waits.more (j := 9) rfl ⟨⟨9, .data⟩, by simp, rfl, rfl⟩ (Waits.more (j := 8) rfl ⟨⟨8, .data⟩, by simp, rfl, rfl⟩ (Waits.more (j := 7) rfl ⟨⟨7, .data⟩, by simp, rfl, rfl⟩ (Waits.more (j := 6) rfl ⟨⟨6, .data⟩, by simp, rfl, rfl⟩ (Waits.more (j := 5) rfl ⟨⟨5, .data⟩, by simp, rfl, rfl⟩ (Waits.one rfl ⟨⟨3, .data⟩, by simp, rfl, rfl⟩)))))))) (by kernel_rfl) (by kernel_rfl) (.inr ⟨XN.out, RI.out, RJ.out, RK.out, RL.out⟩) (Or.inl ⟨by rfl, fun w hw => (by obtain ⟨_, x1, _, _, _⟩ := hw; simp [execOp, go_sem, Act.eval, x1])⟩) (fun _ => ?_)
            simp only [Act.put, List.setIfInBounds_toArray, List.set_cons_zero, List.set_cons_succ]
            refine wpAnyL_pure (i := 4) (v := .int .i64 (q : Int)) (by simp only [List.getElem?_toArray, List.getElem?_cons_zero, List.getElem?_cons_succ] <;> rfl) (by kernel_rfl) (by kernel_rfl) (by kernel_rfl) (by exact fun _ _ _ h => h) (by decide) (.inr ⟨XN.out, RI.out, RJ.out, RK.out, RL.out⟩) (Or.inl ⟨by rfl, fun w _ => (by simp [execOp, go_sem, Act.eval])⟩) (fun _ => ?_)
            simp only [Act.put, List.setIfInBounds_toArray, List.set_cons_zero, List.set_cons_succ]
            refine wpAnyL_pure (i := 5) (v := .pointer (some ⟨b2, o2 + q, none⟩)) (by simp only [List.getElem?_toArray, List.getElem?_cons_zero, List.getElem?_cons_succ] <;> rfl) (by kernel_rfl) (by kernel_rfl) (by kernel_rfl) (by exact fun _ _ _ h => h) (by decide) (.inr ⟨XN.out, RI.out, RJ.out, RK.out, RL.out⟩) (Or.inl ⟨by rfl, fun w _ => (by simp [execOp, go_sem, Act.eval, zj])⟩) (fun _ => ?_)
            simp only [Act.put, List.setIfInBounds_toArray, List.set_cons_zero, List.set_cons_succ]
            refine wpAnyL_load2 (i := 6) (v := .int .i64 (u : Int)) (by simp only [List.getElem?_toArray, List.getElem?_cons_zero, List.getElem?_cons_succ] <;> rfl) (by kernel_rfl) (by kernel_rfl) (by kernel_rfl) (by exact fun _ _ _ h => h) (by decide) (Waits.more (j := 11) rfl ⟨⟨11, .data⟩, by simp, rfl, rfl⟩ (Waits.more (j := 10) rfl ⟨⟨10, .data⟩, by simp, rfl, rfl⟩ (Waits.more (j := 9) rfl ⟨⟨9, .data⟩, by simp, rfl, rfl⟩ (Waits.more (j := 8) rfl ⟨⟨8, .data⟩, by simp, rfl, rfl⟩ (Waits.more (j := 7) rfl ⟨⟨7, .data⟩, by simp, rfl, rfl⟩ (Waits.one rfl ⟨⟨6, .data⟩, by simp, rfl, rfl⟩)))))) (by kernel_rfl) (by kernel_rfl) (.inr ⟨XN.out, RI.out, RJ.out, RK.out, RL.out⟩) (Or.inl ⟨by rfl, fun w hw => (by obtain ⟨_, _, x2, _, _⟩ := hw; simp [execOp, go_sem, Act.eval, x2])⟩) (fun _ => ?_)
            simp only [Act.put, List.setIfInBounds_toArray, List.set_cons_zero, List.set_cons_succ]
            refine wpAnyL_pure (i := 7) (v := .pointer (some ⟨b, off + u * 3, none⟩)) (by simp only [List.getElem?_toArray, List.getElem?_cons_zero, List.getElem?_cons_succ] <;> rfl) (by kernel_rfl) (by kernel_rfl) (by kernel_rfl) (by exact fun _ _ _ h => h) (by decide) (.inr ⟨XN.out, RI.out, RJ.out, RK.out, RL.out⟩) (Or.inl ⟨by rfl, fun w _ => (by simp [execOp, go_sem, Act.eval, zu])⟩) (fun _ => ?_)
            simp only [Act.put, List.setIfInBounds_toArray, List.set_cons_zero, List.set_cons_succ]
            refine wpAnyL_pure (i := 8) (v := .pointer (some ⟨b, off + u * 3, none⟩)) (by simp only [List.getElem?_toArray, List.getElem?_cons_zero, List.getElem?_cons_succ] <;> rfl) (by kernel_rfl) (by kernel_rfl) (by kernel_rfl) (by exact fun _ _ _ h => h) (by decide) (.inr ⟨XN.out, RI.out, RJ.out, RK.out, RL.out⟩) (Or.inl ⟨by rfl, fun w _ => (by simp [execOp, go_sem, Act.eval])⟩) (fun _ => ?_)
            simp only [Act.put, List.setIfInBounds_toArray, List.set_cons_zero, List.set_cons_succ]
            refine wpAnyL_load2 (i := 9) (v := .int .i64 yk) (by simp only [List.getElem?_toArray, List.getElem?_cons_zero, List.getElem?_cons_succ] <;> rfl) (by kernel_rfl) (by kernel_rfl) (by kernel_rfl) (by exact fun _ _ _ h => h) (by decide) (Waits.more (j := 11) rfl ⟨⟨11, .data⟩, by simp, rfl, rfl⟩ (Waits.more (j := 10) rfl ⟨⟨10, .data⟩, by simp, rfl, rfl⟩ (Waits.one rfl ⟨⟨9, .data⟩, by simp, rfl, rfl⟩))) (by kernel_rfl) (by kernel_rfl) (.inr ⟨XN.out, RI.out, RJ.out, RK.out, RL.out⟩) (Or.inl ⟨by rfl, fun w hw => (by obtain ⟨_, _, _, x3, _⟩ := hw; simp [execOp, go_sem, Act.eval, x3])⟩) (fun _ => ?_)
            simp only [Act.put, List.setIfInBounds_toArray, List.set_cons_zero, List.set_cons_succ]
            refine wpAnyL_pure (i := 10) (v := .bool false) (by simp only [List.getElem?_toArray, List.getElem?_cons_zero, List.getElem?_cons_succ] <;> rfl) (by kernel_rfl) (by kernel_rfl) (by kernel_rfl) (by exact fun _ _ _ h => h) (by decide) (.inr ⟨XN.out, RI.out, RJ.out, RK.out, RL.out⟩) (Or.inl ⟨by rfl, fun w _ => (by simp [execOp, go_sem, Act.eval, hyk])⟩) (fun _ => ?_)
            simp only [Act.put, List.setIfInBounds_toArray, List.set_cons_zero, List.set_cons_succ]
            refine wpAnyL_pure (i := 11) (v := .bool false) (by simp only [List.getElem?_toArray, List.getElem?_cons_zero, List.getElem?_cons_succ] <;> rfl) (by kernel_rfl) (by kernel_rfl) (by kernel_rfl) (by exact fun _ _ _ h => h) (by decide) (.inr ⟨XN.out, RI.out, RJ.out, RK.out, RL.out⟩) (Or.inl ⟨by rfl, fun w _ => (by simp [execOp, go_sem, Act.eval])⟩) (fun _ => ?_)
            simp only [Act.put, List.setIfInBounds_toArray, List.set_cons_zero, List.set_cons_succ]
            refine wpAnyL_pure (i := 12) (v := undef) (by simp only [List.getElem?_toArray, List.getElem?_cons_zero, List.getElem?_cons_succ] <;> rfl) (by kernel_rfl) (by kernel_rfl) (by kernel_rfl) (by exact fun _ _ _ h => h) (by decide) (.inr ⟨XN.out, RI.out, RJ.out, RK.out, RL.out⟩) (Or.inr ⟨by rfl, rfl⟩) (fun _ => ?_)
            simp only [Act.put, List.setIfInBounds_toArray, List.set_cons_zero, List.set_cons_succ]
            refine wpAnyL_pure (i := 13) (v := undef) (by simp only [List.getElem?_toArray, List.getElem?_cons_zero, List.getElem?_cons_succ] <;> rfl) (by kernel_rfl) (by kernel_rfl) (by kernel_rfl) (by exact fun _ _ _ h => h) (by decide) (.inr ⟨XN.out, RI.out, RJ.out, RK.out, RL.out⟩) (Or.inr ⟨by rfl, rfl⟩) (fun _ => ?_)
            simp only [Act.put, List.setIfInBounds_toArray, List.set_cons_zero, List.set_cons_succ]
            refine wpAnyL_pure (i := 14) (v := undef) (by simp only [List.getElem?_toArray, List.getElem?_cons_zero, List.getElem?_cons_succ] <;> rfl) (by kernel_rfl) (by kernel_rfl) (by kernel_rfl) (by exact fun _ _ _ h => h) (by decide) (.inr ⟨XN.out, RI.out, RJ.out, RK.out, RL.out⟩) (Or.inr ⟨by rfl, rfl⟩) (fun _ => ?_)
            simp only [Act.put, List.setIfInBounds_toArray, List.set_cons_zero, List.set_cons_succ]
            refine wpAnyL_pure (i := 15) (v := undef) (by simp only [List.getElem?_toArray, List.getElem?_cons_zero, List.getElem?_cons_succ] <;> rfl) (by kernel_rfl) (by kernel_rfl) (by kernel_rfl) (by exact fun _ _ _ h => h) (by decide) (.inr ⟨XN.out, RI.out, RJ.out, RK.out, RL.out⟩) (Or.inr ⟨by rfl, rfl⟩) (fun _ => ?_)
            simp only [Act.put, List.setIfInBounds_toArray, List.set_cons_zero, List.set_cons_succ]
            refine wpAnyL_pure (i := 16) (v := undef) (by simp only [List.getElem?_toArray, List.getElem?_cons_zero, List.getElem?_cons_succ] <;> rfl) (by kernel_rfl) (by kernel_rfl) (by kernel_rfl) (by exact fun _ _ _ h => h) (by decide) (.inr ⟨XN.out, RI.out, RJ.out, RK.out, RL.out⟩) (Or.inr ⟨by rfl, rfl⟩) (fun _ => ?_)
            simp only [Act.put, List.setIfInBounds_toArray, List.set_cons_zero, List.set_cons_succ]
            refine wpAnyL_pure (i := 17) (v := undef) (by simp only [List.getElem?_toArray, List.getElem?_cons_zero, List.getElem?_cons_succ] <;> rfl) (by kernel_rfl) (by kernel_rfl) (by kernel_rfl) (by exact fun _ _ _ h => h) (by decide) (.inr ⟨XN.out, RI.out, RJ.out, RK.out, RL.out⟩) (Or.inr ⟨by rfl, rfl⟩) (fun _ => ?_)
            simp only [Act.put, List.setIfInBounds_toArray, List.set_cons_zero, List.set_cons_succ]
            refine wpAnyL_pure (i := 18) (v := undef) (by simp only [List.getElem?_toArray, List.getElem?_cons_zero, List.getElem?_cons_succ] <;> rfl) (by kernel_rfl) (by kernel_rfl) (by kernel_rfl) (by exact fun _ _ _ h => h) (by decide) (.inr ⟨XN.out, RI.out, RJ.out, RK.out, RL.out⟩) (Or.inr ⟨by rfl, rfl⟩) (fun _ => ?_)
            simp only [Act.put, List.setIfInBounds_toArray, List.set_cons_zero, List.set_cons_succ]
            refine wpAnyL_pure (i := 19) (v := undef) (by simp only [List.getElem?_toArray, List.getElem?_cons_zero, List.getElem?_cons_succ] <;> rfl) (by kernel_rfl) (by kernel_rfl) (by kernel_rfl) (by exact fun _ _ _ h => h) (by decide) (.inr ⟨XN.out, RI.out, RJ.out, RK.out, RL.out⟩) (Or.inr ⟨by rfl, rfl⟩) (fun _ => ?_)
            simp only [Act.put, List.setIfInBounds_toArray, List.set_cons_zero, List.set_cons_succ]
            refine wpAnyL_pure (i := 20) (v := undef) (by simp only [List.getElem?_toArray, List.getElem?_cons_zero, List.getElem?_cons_succ] <;> rfl) (by kernel_rfl) (by kernel_rfl) (by kernel_rfl) (by exact fun _ _ _ h => h) (by decide) (.inr ⟨XN.out, RI.out, RJ.out, RK.out, RL.out⟩) (Or.inr ⟨by rfl, rfl⟩) (fun _ => ?_)
            simp only [Act.put, List.setIfInBounds_toArray, List.set_cons_zero, List.set_cons_succ]
            refine wpAnyL_pure (i := 21) (v := undef) (by simp only [List.getElem?_toArray, List.getElem?_cons_zero, List.getElem?_cons_succ] <;> rfl) (by kernel_rfl) (by kernel_rfl) (by kernel_rfl) (by exact fun _ _ _ h => h) (by decide) (.inr ⟨XN.out, RI.out, RJ.out, RK.out, RL.out⟩) (Or.inr ⟨by rfl, rfl⟩) (fun _ => ?_)
            simp only [Act.put, List.setIfInBounds_toArray, List.set_cons_zero, List.set_cons_succ]
            refine wpAnyL_pure (i := 22) (v := undef) (by simp only [List.getElem?_toArray, List.getElem?_cons_zero, List.getElem?_cons_succ] <;> rfl) (by kernel_rfl) (by kernel_rfl) (by kernel_rfl) (by exact fun _ _ _ h => h) (by decide) (.inr ⟨XN.out, RI.out, RJ.out, RK.out, RL.out⟩) (Or.inr ⟨by rfl, rfl⟩) (fun _ => ?_)
            simp only [Act.put, List.setIfInBounds_toArray, List.set_cons_zero, List.set_cons_succ]
            refine wpAnyL_pure (i := 23) (v := undef) (by simp only [List.getElem?_toArray, List.getElem?_cons_zero, List.getElem?_cons_succ] <;> rfl) (by kernel_rfl) (by kernel_rfl) (by kernel_rfl) (by exact fun _ _ _ h => h) (by decide) (.inr ⟨XN.out, RI.out, RJ.out, RK.out, RL.out⟩) (Or.inr ⟨by rfl, rfl⟩) (fun _ => ?_)
            simp only [Act.put, List.setIfInBounds_toArray, List.set_cons_zero, List.set_cons_succ]
            refine wpAnyL_one (i := 24) (by kernel_rfl) (by simp only [List.getElem?_toArray, List.getElem?_cons_zero, List.getElem?_cons_succ] <;> rfl) (by rfl) ?_
            refine opwp_value (v := .bool false) (w' := wr.drew) (by simp [execOp, go_sem, Act.eval]) ⟨.inl (by kernel_rfl), ?_⟩
            simp only [Act.put, List.setIfInBounds_toArray, List.set_cons_zero, List.set_cons_succ]
            refine wpAnyL_done (by kernel_rfl) ?_ _
            go_wp2_with fail
            go_roundw
            case rel => exact ⟨q + 1, by omega, by go_num, HN2.out, HBQ.out.drew⟩
            case measure => simp [intOf]; omega
          | true =>
            cases hyl : (yl == l) with
            | false =>
              have HN2 := hid (HNX.out (fun h => by rw [h.2] at hyl; simp at hyl))
              clear HNX HYQ
              go_wp2_with fail
              refine Go.Proofs.YtpdbfbjfodckgaaDoor.wp_region_L 25 24 (fun w' => w'.cell? ⟨w.heap.size, 1, none⟩ = some (.slice (some ⟨b, off, none⟩) L.length c) ∧ w'.cell? ⟨w.heap.size + 1, 2, none⟩ = some (.slice (some ⟨b2, o2, none⟩) xi.length c2) ∧ w'.cell? ⟨b2, o2 + q, none⟩ = some (.int .i64 (u : Int)) ∧ w'.cell? ⟨b, off + u * 3, none⟩ = some (.int .i64 yk) ∧ w'.cell? ⟨b, off + u * 3 + 1, none⟩ = some (.int .i64 yl)) (by kernel_rfl) rfl ⟨XN.out, RI.out, RJ.out, RK.out, RL.out⟩ (fun _ => ?_)
              refine wpAnyL_pure (i := 0) (v := .pointer (some ⟨w.heap.size, 1, none⟩)) (by simp only [List.getElem?_toArray, List.getElem?_cons_zero] <;> rfl) (by kernel_rfl) (by kernel_rfl) (by kernel_rfl) (by exact fun _ _ _ h => h) (by decide) (.inr ⟨XN.out, RI.out, RJ.out, RK.out, RL.out⟩) (Or.inl ⟨by rfl, fun w _ => (by simp [execOp, go_sem, Act.eval])⟩) (fun _ => ?_)
              simp only [Act.put, List.setIfInBounds_toArray, List.set_cons_zero, List.set_cons_succ]
              refine wpAnyL_load2 (i := 1) (v := .slice (some ⟨b, off, none⟩) L.length c) (by simp only [List.getElem?_toArray, List.getElem?_cons_zero, List.getElem?_cons_succ] <;> rfl) (by kernel_rfl) (by kernel_rfl) (by kernel_rfl) (by exact fun _ _ _ h => h) (by decide) (Waits.more (j := 11) rfl ⟨⟨11, .data⟩, by simp, rfl, rfl⟩ (Waits.more (j := 10) rfl ⟨⟨10, .data⟩, by simp, rfl, rfl⟩ (Waits.more (j := 9) rfl ⟨⟨9, .data⟩, by simp, rfl, rfl⟩ (Waits.more (j := 8) rfl ⟨⟨8, .data⟩, by simp, rfl, rfl⟩ (Waits.more (j := 7) rfl ⟨⟨7, .data⟩, by simp, rfl, rfl⟩ (Waits.one rfl ⟨⟨1, .data⟩, by simp, rfl, rfl⟩)))))) (by kernel_rfl) (by kernel_rfl) (.inr ⟨XN.out, RI.out, RJ.out, RK.out, RL.out⟩) (Or.inl ⟨by rfl, fun w hw => (by obtain ⟨x0, _, _, _, _⟩ := hw; simp [execOp, go_sem, Act.eval, x0])⟩) (fun _ => ?_)
              simp only [Act.put, List.setIfInBounds_toArray, List.set_cons_zero, List.set_cons_succ]
              refine wpAnyL_pure (i := 2) (v := .pointer (some ⟨w.heap.size + 1, 2, none⟩)) (by simp only [List.getElem?_toArray, List.getElem?_cons_zero, List.getElem?_cons_succ] <;> rfl) (by kernel_rfl) (by kernel_rfl) (by kernel_rfl) (by exact fun _ _ _ h => h) (by decide) (.inr ⟨XN.out, RI.out, RJ.out, RK.out, RL.out⟩) (Or.inl ⟨by rfl, fun w _ => (by simp [execOp, go_sem, Act.eval])⟩) (fun _ => ?_)
              simp only [Act.put, List.setIfInBounds_toArray, List.set_cons_zero, List.set_cons_succ]
              refine wpAnyL_load2 (i := 3) (v := .slice (some ⟨b2, o2, none⟩) xi.length c2) (by simp only [List.getElem?_toArray, List.getElem?_cons_zero, List.getElem?_cons_succ] <;> rfl) (by kernel_rfl) (by kernel_rfl) (by kernel_rfl) (by exact fun _ _ _ h => h) (by decide) (Waits.more (j := 11) rfl ⟨⟨11, .data⟩, by simp, rfl, rfl⟩ (Waits.more (j := 10) rfl ⟨⟨10, .data⟩, by simp, rfl, rfl⟩ (Waits.more (j := 9) rfl ⟨⟨9, .data⟩, by simp, rfl, rfl⟩ (Waits.more (j := 8) rfl ⟨⟨8, .data⟩, by simp, rfl, rfl⟩ (Waits.more (j := 7) rfl ⟨⟨7, .data⟩, by simp, rfl, rfl⟩ (Waits.more (j := 6) rfl ⟨⟨6, .data⟩, by simp, rfl, rfl⟩ (Waits.more (j := 5) rfl ⟨⟨5, .data⟩, by simp, rfl, rfl⟩ (Waits.one rfl ⟨⟨3, .data⟩, by simp, rfl, rfl⟩)))))))) (by kernel_rfl) (by kernel_rfl) (.inr ⟨XN.out, RI.out, RJ.out, RK.out, RL.out⟩) (Or.inl ⟨by rfl, fun w hw => (by obtain ⟨_, x1, _, _, _⟩ := hw; simp [execOp, go_sem, Act.eval, x1])⟩) (fun _ => ?_)
              simp only [Act.put, List.setIfInBounds_toArray, List.set_cons_zero, List.set_cons_succ]
              refine wpAnyL_pure (i := 4) (v := .int .i64 (q : Int)) (by simp only [List.getElem?_toArray, List.getElem?_cons_zero, List.getElem?_cons_succ] <;> rfl) (by kernel_rfl) (by kernel_rfl) (by kernel_rfl) (by exact fun _ _ _ h => h) (by decide) (.inr ⟨XN.out, RI.out, RJ.out, RK.out, RL.out⟩) (Or.inl ⟨by rfl, fun w _ => (by simp [execOp, go_sem, Act.eval])⟩) (fun _ => ?_)
              simp only [Act.put, List.setIfInBounds_toArray, List.set_cons_zero, List.set_cons_succ]
              refine wpAnyL_pure (i := 5) (v := .pointer (some ⟨b2, o2 + q, none⟩)) (by simp only [List.getElem?_toArray, List.getElem?_cons_zero, List.getElem?_cons_succ] <;> rfl) (by kernel_rfl) (by kernel_rfl) (by kernel_rfl) (by exact fun _ _ _ h => h) (by decide) (.inr ⟨XN.out, RI.out, RJ.out, RK.out, RL.out⟩) (Or.inl ⟨by rfl, fun w _ => (by simp [execOp, go_sem, Act.eval, zj])⟩) (fun _ => ?_)
              simp only [Act.put, List.setIfInBounds_toArray, List.set_cons_zero, List.set_cons_succ]
              refine wpAnyL_load2 (i := 6) (v := .int .i64 (u : Int)) (by simp only [List.getElem?_toArray, List.getElem?_cons_zero, List.getElem?_cons_succ] <;> rfl) (by kernel_rfl) (by kernel_rfl) (by kernel_rfl) (by exact fun _ _ _ h => h) (by decide) (Waits.more (j := 11) rfl ⟨⟨11, .data⟩, by simp, rfl, rfl⟩ (Waits.more (j := 10) rfl ⟨⟨10, .data⟩, by simp, rfl, rfl⟩ (Waits.more (j := 9) rfl ⟨⟨9, .data⟩, by simp, rfl, rfl⟩ (Waits.more (j := 8) rfl ⟨⟨8, .data⟩, by simp, rfl, rfl⟩ (Waits.more (j := 7) rfl ⟨⟨7, .data⟩, by simp, rfl, rfl⟩ (Waits.one rfl ⟨⟨6, .data⟩, by simp, rfl, rfl⟩)))))) (by kernel_rfl) (by kernel_rfl) (.inr ⟨XN.out, RI.out, RJ.out, RK.out, RL.out⟩) (Or.inl ⟨by rfl, fun w hw => (by obtain ⟨_, _, x2, _, _⟩ := hw; simp [execOp, go_sem, Act.eval, x2])⟩) (fun _ => ?_)
              simp only [Act.put, List.setIfInBounds_toArray, List.set_cons_zero, List.set_cons_succ]
              refine wpAnyL_pure (i := 7) (v := .pointer (some ⟨b, off + u * 3, none⟩)) (by simp only [List.getElem?_toArray, List.getElem?_cons_zero, List.getElem?_cons_succ] <;> rfl) (by kernel_rfl) (by kernel_rfl) (by kernel_rfl) (by exact fun _ _ _ h => h) (by decide) (.inr ⟨XN.out, RI.out, RJ.out, RK.out, RL.out⟩) (Or.inl ⟨by rfl, fun w _ => (by simp [execOp, go_sem, Act.eval, zu])⟩) (fun _ => ?_)
              simp only [Act.put, List.setIfInBounds_toArray, List.set_cons_zero, List.set_cons_succ]
              refine wpAnyL_pure (i := 8) (v := .pointer (some ⟨b, off + u * 3, none⟩)) (by simp only [List.getElem?_toArray, List.getElem?_cons_zero, List.getElem?_cons_succ] <;> rfl) (by kernel_rfl) (by kernel_rfl) (by kernel_rfl) (by exact fun _ _ _ h => h) (by decide) (.inr ⟨XN.out, RI.out, RJ.out, RK.out, RL.out⟩) (Or.inl ⟨by rfl, fun w _ => (by simp [execOp, go_sem, Act.eval])⟩) (fun _ => ?_)
              simp only [Act.put, List.setIfInBounds_toArray, List.set_cons_zero, List.set_cons_succ]
              refine wpAnyL_load2 (i := 9) (v := .int .i64 yk) (by simp only [List.getElem?_toArray, List.getElem?_cons_zero, List.getElem?_cons_succ] <;> rfl) (by kernel_rfl) (by kernel_rfl) (by kernel_rfl) (by exact fun _ _ _ h => h) (by decide) (Waits.more (j := 11) rfl ⟨⟨11, .data⟩, by simp, rfl, rfl⟩ (Waits.more (j := 10) rfl ⟨⟨10, .data⟩, by simp, rfl, rfl⟩ (Waits.one rfl ⟨⟨9, .data⟩, by simp, rfl, rfl⟩))) (by kernel_rfl) (by kernel_rfl) (.inr ⟨XN.out, RI.out, RJ.out, RK.out, RL.out⟩) (Or.inl ⟨by rfl, fun w hw => (by obtain ⟨_, _, _, x3, _⟩ := hw; simp [execOp, go_sem, Act.eval, x3])⟩) (fun _ => ?_)
              simp only [Act.put, List.setIfInBounds_toArray, List.set_cons_zero, List.set_cons_succ]
              refine wpAnyL_pure (i := 10) (v := .bool true) (by simp only [List.getElem?_toArray, List.getElem?_cons_zero, List.getElem?_cons_succ] <;> rfl) (by kernel_rfl) (by kernel_rfl) (by kernel_rfl) (by exact fun _ _ _ h => h) (by decide) (.inr ⟨XN.out, RI.out, RJ.out, RK.out, RL.out⟩) (Or.inl ⟨by rfl, fun w _ => (by simp [execOp, go_sem, Act.eval, hyk])⟩) (fun _ => ?_)
              simp only [Act.put, List.setIfInBounds_toArray, List.set_cons_zero, List.set_cons_succ]
              refine wpAnyL_pure (i := 11) (v := .bool true) (by simp only [List.getElem?_toArray, List.getElem?_cons_zero, List.getElem?_cons_succ] <;> rfl) (by kernel_rfl) (by kernel_rfl) (by kernel_rfl) (by exact fun _ _ _ h => h) (by decide) (.inr ⟨XN.out, RI.out, RJ.out, RK.out, RL.out⟩) (Or.inl ⟨by rfl, fun w _ => (by simp [execOp, go_sem, Act.eval])⟩) (fun _ => ?_)
              simp only [Act.put, List.setIfInBounds_toArray, List.set_cons_zero, List.set_cons_succ]
              refine wpAnyL_pure (i := 12) (v := .pointer (some ⟨w.heap.size, 1, none⟩)) (by simp only [List.getElem?_toArray, List.getElem?_cons_zero, List.getElem?_cons_succ] <;> rfl) (by kernel_rfl) (by kernel_rfl) (by kernel_rfl) (by exact fun _ _ _ h => h) (by decide) (.inr ⟨XN.out, RI.out, RJ.out, RK.out, RL.out⟩) (Or.inl ⟨by rfl, fun w _ => (by simp [execOp, go_sem, Act.eval])⟩) (fun _ => ?_)
              simp only [Act.put, List.setIfInBounds_toArray, List.set_cons_zero, List.set_cons_succ]
              refine wpAnyL_load2 (i := 13) (v := .slice (some ⟨b, off, none⟩) L.length c) (by simp only [List.getElem?_toArray, List.getElem?_cons_zero, List.getElem?_cons_succ] <;> rfl) (by kernel_rfl) (by kernel_rfl) (by kernel_rfl) (by exact fun _ _ _ h => h) (by decide) (Waits.more (j := 23) rfl ⟨⟨23, .data⟩, by simp, rfl, rfl⟩ (Waits.more (j := 21) rfl ⟨⟨21, .data⟩, by simp, rfl, rfl⟩ (Waits.more (j := 20) rfl ⟨⟨20, .data⟩, by simp, rfl, rfl⟩ (Waits.more (j := 19) rfl ⟨⟨19, .data⟩, by simp, rfl, rfl⟩ (Waits.one rfl ⟨⟨13, .data⟩, by simp, rfl, rfl⟩))))) (by kernel_rfl) (by kernel_rfl) (.inr ⟨XN.out, RI.out, RJ.out, RK.out, RL.out⟩) (Or.inl ⟨by rfl, fun w hw => (by obtain ⟨x0, _, _, _, _⟩ := hw; simp [execOp, go_sem, Act.eval, x0])⟩) (fun _ => ?_)
              simp only [Act.put, List.setIfInBounds_toArray, List.set_cons_zero, List.set_cons_succ]
              refine wpAnyL_pure (i := 14) (v := .pointer (some ⟨w.heap.size + 1, 2, none⟩)) (by simp only [List.getElem?_toArray, List.getElem?_cons_zero, List.getElem?_cons_succ] <;> rfl) (by kernel_rfl) (by kernel_rfl) (by kernel_rfl) (by exact fun _ _ _ h => h) (by decide) (.inr ⟨XN.out, RI.out, RJ.out, RK.out, RL.out⟩) (Or.inl ⟨by rfl, fun w _ => (by simp [execOp, go_sem, Act.eval])⟩) (fun _ => ?_)
              simp only [Act.put, List.setIfInBounds_toArray, List.set_cons_zero, List.set_cons_succ]
              refine wpAnyL_load2 (i := 15) (v := .slice (some ⟨b2, o2, none⟩) xi.length c2) (by simp only [List.getElem?_toArray, List.getElem?_cons_zero, List.getElem?_cons_succ] <;> rfl) (by kernel_rfl) (by kernel_rfl) (by kernel_rfl) (by exact fun _ _ _ h => h) (by decide) (Waits.more (j := 23) rfl ⟨⟨23, .data⟩, by simp, rfl, rfl⟩ (Waits.more (j := 21) rfl ⟨⟨21, .data⟩, by simp, rfl, rfl⟩ (Waits.more (j := 20) rfl ⟨⟨20, .data⟩, by simp, rfl, rfl⟩ (Waits.more (j := 19) rfl ⟨⟨19, .data⟩, by simp, rfl, rfl⟩ (Waits.more (j := 18) rfl ⟨⟨18, .data⟩, by simp, rfl, rfl⟩ (Waits.more (j := 17) rfl ⟨⟨17, .data⟩, by simp, rfl, rfl⟩ (Waits.one rfl ⟨⟨15, .data⟩, by simp, rfl, rfl⟩))))))) (by kernel_rfl) (by kernel_rfl) (.inr ⟨XN.out, RI.out, RJ.out, RK.out, RL.out⟩) (Or.inl ⟨by rfl, fun w hw => (by obtain ⟨_, x1, _, _, _⟩ := hw; simp [execOp, go_sem, Act.eval, x1])⟩) (fun _ => ?_)
              simp only [Act.put, List.setIfInBounds_toArray, List.set_cons_zero, List.set_cons_succ]
              refine wpAnyL_pure (i := 16) (v := .int .i64 (q : Int)) (by simp only [List.getElem?_toArray, List.getElem?_cons_zero, List.getElem?_cons_succ] <;> rfl) (by kernel_rfl) (by kernel_rfl) (by kernel_rfl) (by exact fun _ _ _ h => h) (by decide) (.inr ⟨XN.out, RI.out, RJ.out, RK.out, RL.out⟩) (Or.inl ⟨by rfl, fun w _ => (by simp [execOp, go_sem, Act.eval])⟩) (fun _ => ?_)
              simp only [Act.put, List.setIfInBounds_toArray, List.set_cons_zero, List.set_cons_succ]
              refine wpAnyL_pure (i := 17) (v := .pointer (some ⟨b2, o2 + q, none⟩)) (by simp only [List.getElem?_toArray, List.getElem?_cons_zero, List.getElem?_cons_succ] <;> rfl) (by kernel_rfl) (by kernel_rfl) (by kernel_rfl) (by exact fun _ _ _ h => h) (by decide) (.inr ⟨XN.out, RI.out, RJ.out, RK.out, RL.out⟩) (Or.inl ⟨by rfl, fun w _ => (by simp [execOp, go_sem, Act.eval, zj])⟩) (fun _ => ?_)
              simp only [Act.put, List.setIfInBounds_toArray, List.set_cons_zero, List.set_cons_succ]
              refine wpAnyL_load2 (i := 18) (v := .int .i64 (u : Int)) (by simp only [List.getElem?_toArray, List.getElem?_cons_zero, List.getElem?_cons_succ] <;> rfl) (by kernel_rfl) (by kernel_rfl) (by kernel_rfl) (by exact fun _ _ _ h => h) (by decide) (Waits.more (j := 23) rfl ⟨⟨23, .data⟩, by simp, rfl, rfl⟩ (Waits.more (j := 21) rfl ⟨⟨21, .data⟩, by simp, rfl, rfl⟩ (Waits.more (j := 20) rfl ⟨⟨20, .data⟩, by simp, rfl, rfl⟩ (Waits.more (j := 19) rfl ⟨⟨19, .data⟩, by simp, rfl, rfl⟩ (Waits.one rfl ⟨⟨18, .data⟩, by simp, rfl, rfl⟩))))) (by kernel_rfl) (by kernel_rfl) (.inr ⟨XN.out, RI.out, RJ.out, RK.out, RL.out⟩) (Or.inl ⟨by rfl, fun w hw => (by obtain ⟨_, _, x2, _, _⟩ := hw; simp [execOp, go_sem, Act.eval, x2])⟩) (fun _ => ?_)
              simp only [Act.put, List.setIfInBounds_toArray, List.set_cons_zero, List.set_cons_succ]
              refine wpAnyL_pure (i := 19) (v := .pointer (some ⟨b, off + u * 3, none⟩)) (by simp only [List.getElem?_toArray, List.getElem?_cons_zero, List.getElem?_cons_succ] <;> rfl) (by kernel_rfl) (by kernel_rfl) (by kernel_rfl) (by exact fun _ _ _ h => h) (by decide) (.inr ⟨XN.out, RI.out, RJ.out, RK.out, RL.out⟩) (Or.inl ⟨by rfl, fun w _ => (by simp [execOp, go_sem, Act.eval, zu])⟩) (fun _ => ?_)
              simp only [Act.put, List.setIfInBounds_toArray, List.set_cons_zero, List.set_cons_succ]
              refine wpAnyL_pure (i := 20) (v := .pointer (some ⟨b, off + u * 3 + 1, none⟩)) (by simp only [List.getElem?_toArray, List.getElem?_cons_zero, List.getElem?_cons_succ] <;> rfl) (by kernel_rfl) (by kernel_rfl) (by kernel_rfl) (by exact fun _ _ _ h => h) (by decide) (.inr ⟨XN.out, RI.out, RJ.out, RK.out, RL.out⟩) (Or.inl ⟨by rfl, fun w _ => (by simp [execOp, go_sem, Act.eval])⟩) (fun _ => ?_)
              simp only [Act.put, List.setIfInBounds_toArray, List.set_cons_zero, List.set_cons_succ]
              refine wpAnyL_load2 (i := 21) (v := .int .i64 yl) (by simp only [List.getElem?_toArray, List.getElem?_cons_zero, List.getElem?_cons_succ] <;> rfl) (by kernel_rfl) (by kernel_rfl) (by kernel_rfl) (by exact fun _ _ _ h => h) (by decide) (Waits.more (j := 23) rfl ⟨⟨23, .data⟩, by simp, rfl, rfl⟩ (Waits.one rfl ⟨⟨21, .data⟩, by simp, rfl, rfl⟩)) (by kernel_rfl) (by kernel_rfl) (.inr ⟨XN.out, RI.out, RJ.out, RK.out, RL.out⟩) (Or.inl ⟨by rfl, fun w hw => (by obtain ⟨_, _, _, _, x4⟩ := hw; simp [execOp, go_sem, Act.eval, x4])⟩) (fun _ => ?_)
              simp only [Act.put, List.setIfInBounds_toArray, List.set_cons_zero, List.set_cons_succ]
              refine wpAnyL_pure (i := 22) (v := .int .i64 l) (by simp only [List.getElem?_toArray, List.getElem?_cons_zero, List.getElem?_cons_succ] <;> rfl) (by kernel_rfl) (by kernel_rfl) (by kernel_rfl) (by exact fun _ _ _ h => h) (by decide) (.inr ⟨XN.out, RI.out, RJ.out, RK.out, RL.out⟩) (Or.inl ⟨by rfl, fun w _ => (by simp [execOp, go_sem, Act.eval])⟩) (fun _ => ?_)
              simp only [Act.put, List.setIfInBounds_toArray, List.set_cons_zero, List.set_cons_succ]
              refine wpAnyL_pure (i := 23) (v := .bool false) (by simp only [List.getElem?_toArray, List.getElem?_cons_zero, List.getElem?_cons_succ] <;> rfl) (by kernel_rfl) (by kernel_rfl) (by kernel_rfl) (by exact fun _ _ _ h => h) (by decide) (.inr ⟨XN.out, RI.out, RJ.out, RK.out, RL.out⟩) (Or.inl ⟨by rfl, fun w _ => (by simp [execOp, go_sem, Act.eval, hyl])⟩) (fun _ => ?_)
              simp only [Act.put, List.setIfInBounds_toArray, List.set_cons_zero, List.set_cons_succ]
              refine wpAnyL_one (i := 24) (by kernel_rfl) (by simp only [List.getElem?_toArray, List.getElem?_cons_zero, List.getElem?_cons_succ] <;> rfl) (by rfl) ?_
              refine opwp_value (v := .bool false) (w' := wr.drew) (by simp [execOp, go_sem, Act.eval]) ⟨.inl (by kernel_rfl), ?_⟩
              simp only [Act.put, List.setIfInBounds_toArray, List.set_cons_zero, List.set_cons_succ]
              refine wpAnyL_done (by kernel_rfl) ?_ _
              go_wp2_with fail
              go_roundw
              case rel => exact ⟨q + 1, by omega, by go_num, HN2.out, HBQ.out.drew⟩
              case measure => simp [intOf]; omega
            | true =>
              have HT := hid (HYQ.out (by simpa using hyk) (by simpa using hyl))
              clear HNX HYQ
              go_wp2_with fail
              refine Go.Proofs.YtpdbfbjfodckgaaDoor.wp_region_L 25 24 (fun w' => w'.cell? ⟨w.heap.size, 1, none⟩ = some (.slice (some ⟨b, off, none⟩) L.length c) ∧ w'.cell? ⟨w.heap.size + 1, 2, none⟩ = some (.slice (some ⟨b2, o2, none⟩) xi.length c2) ∧ w'.cell? ⟨b2, o2 + q, none⟩ = some (.int .i64 (u : Int)) ∧ w'.cell? ⟨b, off + u * 3, none⟩ = some (.int .i64 yk) ∧ w'.cell? ⟨b, off + u * 3 + 1, none⟩ = some (.int .i64 yl)) (by kernel_rfl) rfl ⟨XN.out, RI.out, RJ.out, RK.out, RL.out⟩ (fun _ => ?_)
              refine wpAnyL_pure (i := 0) (v := .pointer (some ⟨w.heap.size, 1, none⟩)) (by simp only [List.getElem?_toArray, List.getElem?_cons_zero] <;> rfl) (by kernel_rfl) (by kernel_rfl) (by kernel_rfl) (by exact fun _ _ _ h => h) (by decide) (.inr ⟨XN.out, RI.out, RJ.out, RK.out, RL.out⟩) (Or.inl ⟨by rfl, fun w _ => (by simp [execOp, go_sem, Act.eval])⟩) (fun _ => ?_)
              simp only [Act.put, List.setIfInBounds_toArray, List.set_cons_zero, List.set_cons_succ]
              refine wpAnyL_load2 (i := 1) (v := .slice (some ⟨b, off, none⟩) L.length c) (by simp only [List.getElem?_toArray, List.getElem?_cons_zero, List.getElem?_cons_succ] <;> rfl) (by kernel_rfl) (by kernel_rfl) (by kernel_rfl) (by exact fun _ _ _ h => h) (by decide) (Waits.more (j := 11) rfl ⟨⟨11, .data⟩, by simp, rfl, rfl⟩ (Waits.more (j := 10) rfl ⟨⟨10, .data⟩, by simp, rfl, rfl⟩ (Waits.more (j := 9) rfl ⟨⟨9, .data⟩, by simp, rfl, rfl⟩ (Waits.more (j := 8) rfl ⟨⟨8, .data⟩, by simp, rfl, rfl⟩ (Waits.more (j := 7) rfl ⟨⟨7, .data⟩, by simp, rfl, rfl⟩ (Waits.one rfl ⟨⟨1, .data⟩, by simp, rfl, rfl⟩)))))) (by kernel_rfl) (by kernel_rfl) (.inr ⟨XN.out, RI.out, RJ.out, RK.out, RL.out⟩) (Or.inl ⟨by rfl, fun w hw => (by obtain ⟨x0, _, _, _, _⟩ := hw; simp [execOp, go_sem, Act.eval, x0])⟩) (fun _ => ?_)
              simp only [Act.put, List.setIfInBounds_toArray, List.set_cons_zero, List.set_cons_succ]
              refine wpAnyL_pure (i := 2) (v := .pointer (some ⟨w.heap.size + 1, 2, none⟩)) (by simp only [List.getElem?_toArray, List.getElem?_cons_zero, List.getElem?_cons_succ] <;> rfl) (by kernel_rfl) (by kernel_rfl) (by kernel_rfl) (by exact fun _ _ _ h => h) (by decide) (.inr ⟨XN.out, RI.out, RJ.out, RK.out, RL.out⟩) (Or.inl ⟨by rfl, fun w _ => (by simp [execOp, go_sem, Act.eval])⟩) (fun _ => ?_)
              simp only [Act.put, List.setIfInBounds_toArray, List.set_cons_zero, List.set_cons_succ]
              refine wpAnyL_load2 (i := 3) (v := .slice (some ⟨b2, o2, none⟩) xi.length c2) (by simp only [List.getElem?_toArray, List.getElem?_cons_zero, List.getElem?_cons_succ] <;> rfl) (by kernel_rfl) (by kernel_rfl) (by kernel_rfl) (by exact fun _ _ _ h => h) (by decide) (Waits.more (j := 11) rfl ⟨⟨11, .data⟩, by simp, rfl, rfl⟩ (Waits.more (j := 10) rfl ⟨⟨10, .data⟩, by simp, rfl, rfl⟩ (Waits.more (j := 9) rfl ⟨⟨9, .data⟩, by simp, rfl, rfl⟩ (Waits.more (j := 8) rfl ⟨⟨8, .data⟩, by simp, rfl, rfl⟩ (Waits.more (j := 7) rfl ⟨⟨7, .data⟩, by simp, rfl, rfl⟩ (Waits.more (j := 6) rfl ⟨⟨6, .data⟩, by simp, rfl, rfl⟩ (Waits.more (j := 5) rfl ⟨⟨5, .data⟩, by simp, rfl, rfl⟩ (Waits.one rfl ⟨⟨3, .data⟩, by simp, rfl, rfl⟩)))))))) (by kernel_rfl) (by kernel_rfl) (.inr ⟨XN.out, RI.out, RJ.out, RK.out, RL.out⟩) (Or.inl ⟨by rfl, fun w hw => (by obtain ⟨_, x1, _, _, _⟩ := hw; simp [execOp, go_sem, Act.eval, x1])⟩) (fun _ => ?_)
              simp only [Act.put, List.setIfInBounds_toArray, List.set_cons_zero, List.set_cons_succ]
              refine wpAnyL_pure (i := 4) (v := .int .i64 (q : Int)) (by simp only [List.getElem?_toArray, List.getElem?_cons_zero, List.getElem?_cons_succ] <;> rfl) (by kernel_rfl) (by kernel_rfl) (by kernel_rfl) (by exact fun _ _ _ h => h) (by decide) (.inr ⟨XN.out, RI.out, RJ.out, RK.out, RL.out⟩) (Or.inl ⟨by rfl, fun w _ => (by simp [execOp, go_sem, Act.eval])⟩) (fun _ => ?_)
              simp only [Act.put, List.setIfInBounds_toArray, List.set_cons_zero, List.set_cons_succ]
              refine wpAnyL_pure (i := 5) (v := .pointer (some ⟨b2, o2 + q, none⟩)) (by simp only [List.getElem?_toArray, List.getElem?_cons_zero, List.getElem?_cons_succ] <;> rfl) (by kernel_rfl) (by kernel_rfl) (by kernel_rfl) (by exact fun _ _ _ h => h) (by decide) (.inr ⟨XN.out, RI.out, RJ.out, RK.out, RL.out⟩) (Or.inl ⟨by rfl, fun w _ => (by simp [execOp, go_sem, Act.eval, zj])⟩) (fun _ => ?_)
              simp only [Act.put, List.setIfInBounds_toArray, List.set_cons_zero, List.set_cons_succ]
              refine wpAnyL_load2 (i := 6) (v := .int .i64 (u : Int)) (by simp only [List.getElem?_toArray, List.getElem?_cons_zero, List.getElem?_cons_succ] <;> rfl) (by kernel_rfl) (by kernel_rfl) (by kernel_rfl) (by exact fun _ _ _ h => h) (by decide) (Waits.more (j := 11) rfl ⟨⟨11, .data⟩, by simp, rfl, rfl⟩ (Waits.more (j := 10) rfl ⟨⟨10, .data⟩, by simp, rfl, rfl⟩ (Waits.more (j := 9) rfl ⟨⟨9, .data⟩, by simp, rfl, rfl⟩ (Waits.more (j := 8) rfl ⟨⟨8, .data⟩, by simp, rfl, rfl⟩ (Waits.more (j := 7) rfl ⟨⟨7, .data⟩, by simp, rfl, rfl⟩ (Waits.one rfl ⟨⟨6, .data⟩, by simp, rfl, rfl⟩)))))) (by kernel_rfl) (by kernel_rfl) (.inr ⟨XN.out, RI.out, RJ.out, RK.out, RL.out⟩) (Or.inl ⟨by rfl, fun w hw => (by obtain ⟨_, _, x2, _, _⟩ := hw; simp [execOp, go_sem, Act.eval, x2])⟩) (fun _ => ?_)
              simp only [Act.put, List.setIfInBounds_toArray, List.set_cons_zero, List.set_cons_succ]
              refine wpAnyL_pure (i := 7) (v := .pointer (some ⟨b, off + u * 3, none⟩)) (by simp only [List.getElem?_toArray, List.getElem?_cons_zero, List.getElem?_cons_succ] <;> rfl) (by kernel_rfl) (by kernel_rfl) (by kernel_rfl) (by exact fun _ _ _ h => h) (by decide) (.inr ⟨XN.out, RI.out, RJ.out, RK.out, RL.out⟩) (Or.inl ⟨by rfl, fun w _ => (by simp [execOp, go_sem, Act.eval, zu])⟩) (fun _ => ?_)
              simp only [Act.put, List.setIfInBounds_toArray, List.set_cons_zero, List.set_cons_succ]
              refine wpAnyL_pure (i := 8) (v := .pointer (some ⟨b, off + u * 3, none⟩)) (by simp only [List.getElem?_toArray, List.getElem?_cons_zero, List.getElem?_cons_succ] <;> rfl) (by kernel_rfl) (by kernel_rfl) (by kernel_rfl) (by exact fun _ _ _ h => h) (by decide) (.inr ⟨XN.out, RI.out, RJ.out, RK.out, RL.out⟩) (Or.inl ⟨by rfl, fun w _ => (by simp [execOp, go_sem, Act.eval])⟩) (fun _ => ?_)
              simp only [Act.put, List.setIfInBounds_toArray, List.set_cons_zero, List.set_cons_succ]
              refine wpAnyL_load2 (i := 9) (v := .int .i64 yk) (by simp only [List.getElem?_toArray, List.getElem?_cons_zero, List.getElem?_cons_succ] <;> rfl) (by kernel_rfl) (by kernel_rfl) (by kernel_rfl) (by exact fun _ _ _ h => h) (by decide) (Waits.more (j := 11) rfl ⟨⟨11, .data⟩, by simp, rfl, rfl⟩ (Waits.more (j := 10) rfl ⟨⟨10, .data⟩, by simp, rfl, rfl⟩ (Waits.one rfl ⟨⟨9, .data⟩, by simp, rfl, rfl⟩))) (by kernel_rfl) (by kernel_rfl) (.inr ⟨XN.out, RI.out, RJ.out, RK.out, RL.out⟩) (Or.inl ⟨by rfl, fun w hw => (by obtain ⟨_, _, _, x3, _⟩ := hw; simp [execOp, go_sem, Act.eval, x3])⟩) (fun _ => ?_)
              simp only [Act.put, List.setIfInBounds_toArray, List.set_cons_zero, List.set_cons_succ]
              refine wpAnyL_pure (i := 10) (v := .bool true) (by simp only [List.getElem?_toArray, List.getElem?_cons_zero, List.getElem?_cons_succ] <;> rfl) (by kernel_rfl) (by kernel_rfl) (by kernel_rfl) (by exact fun _ _ _ h => h) (by decide) (.inr ⟨XN.out, RI.out, RJ.out, RK.out, RL.out⟩) (Or.inl ⟨by rfl, fun w _ => (by simp [execOp, go_sem, Act.eval, hyk])⟩) (fun _ => ?_)
              simp only [Act.put, List.setIfInBounds_toArray, List.set_cons_zero, List.set_cons_succ]
              refine wpAnyL_pure (i := 11) (v := .bool true) (by simp only [List.getElem?_toArray, List.getElem?_cons_zero, List.getElem?_cons_succ] <;> rfl) (by kernel_rfl) (by kernel_rfl) (by kernel_rfl) (by exact fun _ _ _ h => h) (by decide) (.inr ⟨XN.out, RI.out, RJ.out, RK.out, RL.out⟩) (Or.inl ⟨by rfl, fun w _ => (by simp [execOp, go_sem, Act.eval])⟩) (fun _ => ?_)
              simp only [Act.put, List.setIfInBounds_toArray, List.set_cons_zero, List.set_cons_succ]
              refine wpAnyL_pure (i := 12) (v := .pointer (some ⟨w.heap.size, 1, none⟩)) (by simp only [List.getElem?_toArray, List.getElem?_cons_zero, List.getElem?_cons_succ] <;> rfl) (by kernel_rfl) (by kernel_rfl) (by kernel_rfl) (by exact fun _ _ _ h => h) (by decide) (.inr ⟨XN.out, RI.out, RJ.out, RK.out, RL.out⟩) (Or.inl ⟨by rfl, fun w _ => (by simp [execOp, go_sem, Act.eval])⟩) (fun _ => ?_)
              simp only [Act.put, List.setIfInBounds_toArray, List.set_cons_zero, List.set_cons_succ]
              refine wpAnyL_load2 (i := 13) (v := .slice (some ⟨b, off, none⟩) L.length c) (by simp only [List.getElem?_toArray, List.getElem?_cons_zero, List.getElem?_cons_succ] <;> rfl) (by kernel_rfl) (by kernel_rfl) (by kernel_rfl) (by exact fun _ _ _ h => h) (by decide) (Waits.more (j := 23) rfl ⟨⟨23, .data⟩, by simp, rfl, rfl⟩ (Waits.more (j := 21) rfl ⟨⟨21, .data⟩, by simp, rfl, rfl⟩ (Waits.more (j := 20) rfl ⟨⟨20, .data⟩, by simp, rfl, rfl⟩ (Waits.more (j := 19) rfl ⟨⟨19, .data⟩, by simp, rfl, rfl⟩ (Waits.one rfl ⟨⟨13, .data⟩, by simp, rfl, rfl⟩))))) (by kernel_rfl) (by kernel_rfl) (.inr ⟨XN.out, RI.out, RJ.out, RK.out, RL.out⟩) (Or.inl ⟨by rfl, fun w hw => (by obtain ⟨x0, _, _, _, _⟩ := hw; simp [execOp, go_sem, Act.eval, x0])⟩) (fun _ => ?_)
              simp only [Act.put, List.setIfInBounds_toArray, List.set_cons_zero, List.set_cons_succ]
              refine wpAnyL_pure (i := 14) (v := .pointer (some ⟨w.heap.size + 1, 2, none⟩)) (by simp only [List.getElem?_toArray, List.getElem?_cons_zero, List.getElem?_cons_succ] <;> rfl) (by kernel_rfl) (by kernel_rfl) (by kernel_rfl) (by exact fun _ _ _ h => h) (by decide) (.inr ⟨XN.out, RI.out, RJ.out, RK.out, RL.out⟩) (Or.inl ⟨by rfl, fun w _ => (by simp [execOp, go_sem, Act.eval])⟩) (fun _ => ?_)
              simp only [Act.put, List.setIfInBounds_toArray, List.set_cons_zero, List.set_cons_succ]
              refine wpAnyL_load2 (i := 15) (v := .slice (some ⟨b2, o2, none⟩) xi.length c2) (by simp only [List.getElem?_toArray, List.getElem?_cons_zero, List.getElem?_cons_succ] <;> rfl) (by kernel_rfl) (by kernel_rfl) (by kernel_rfl) (by exact fun _ _ _ h => h) (by decide) (Waits.more (j := 23) rfl ⟨⟨23, .data⟩, by simp, rfl, rfl⟩ (Waits.more (j := 21) rfl ⟨⟨21, .data⟩, by simp, rfl, rfl⟩ (Waits.more (j := 20) rfl ⟨⟨20, .data⟩, by simp, rfl, rfl⟩ (Waits.more (j := 19) rfl ⟨⟨19, .data⟩, by simp, rfl, rfl⟩ (Waits.more (j := 18) rfl ⟨⟨18, .data⟩, by simp, rfl, rfl⟩ (Waits.more (j := 17) rfl ⟨⟨17, .data⟩, by simp, rfl, rfl⟩ (Waits.one rfl ⟨⟨15, .data⟩, by simp, rfl, rfl⟩))))))) (by kernel_rfl) (by kernel_rfl) (.inr ⟨XN.out, RI.out, RJ.out, RK.out, RL.out⟩) (Or.inl ⟨by rfl, fun w hw => (by obtain ⟨_, x1, _, _, _⟩ := hw; simp [execOp, go_sem, Act.eval, x1])⟩) (fun _ => ?_)
              simp only [Act.put, List.setIfInBounds_toArray, List.set_cons_zero, List.set_cons_succ]
              refine wpAnyL_pure (i := 16) (v := .int .i64 (q : Int)) (by simp only [List.getElem?_toArray, List.getElem?_cons_zero, List.getElem?_cons_succ] <;> rfl) (by kernel_rfl) (by kernel_rfl) (by kernel_rfl) (by exact fun _ _ _ h => h) (by decide) (.inr ⟨XN.out, RI.out, RJ.out, RK.out, RL.out⟩) (Or.inl ⟨by rfl, fun w _ => (by simp [execOp, go_sem, Act.eval])⟩) (fun _ => ?_)
              simp only [Act.put, List.setIfInBounds_toArray, List.set_cons_zero, List.set_cons_succ]
              refine wpAnyL_pure (i := 17) (v := .pointer (some ⟨b2, o2 + q, none⟩)) (by simp only [List.getElem?_toArray, List.getElem?_cons_zero, List.getElem?_cons_succ] <;> rfl) (by kernel_rfl) (by kernel_rfl) (by kernel_rfl) (by exact fun _ _ _ h => h) (by decide) (.inr ⟨XN.out, RI.out, RJ.out, RK.out, RL.out⟩) (Or.inl ⟨by rfl, fun w _ => (by simp [execOp, go_sem, Act.eval, zj])⟩) (fun _ => ?_)
              simp only [Act.put, List.setIfInBounds_toArray, List.set_cons_zero, List.set_cons_succ]
              refine wpAnyL_load2 (i := 18) (v := .int .i64 (u : Int)) (by simp only [List.getElem?_toArray, List.getElem?_cons_zero, List.getElem?_cons_succ] <;> rfl) (by kernel_rfl) (by kernel_rfl) (by kernel_rfl) (by exact fun _ _ _ h => h) (by decide) (Waits.more (j := 23) rfl ⟨⟨23, .data⟩, by simp, rfl, rfl⟩ (Waits.more (j := 21) rfl ⟨⟨21, .data⟩, by simp, rfl, rfl⟩ (Waits.more (j := 20) rfl ⟨⟨20, .data⟩, by simp, rfl, rfl⟩ (Waits.more (j := 19) rfl ⟨⟨19, .data⟩, by simp, rfl, rfl⟩ (Waits.one rfl ⟨⟨18, .data⟩, by simp, rfl, rfl⟩))))) (by kernel_rfl) (by kernel_rfl) (.inr ⟨XN.out, RI.out, RJ.out, RK.out, RL.out⟩) (Or.inl ⟨by rfl, fun w hw => (by obtain ⟨_, _, x2, _, _⟩ := hw; simp [execOp, go_sem, Act.eval, x2])⟩) (fun _ => ?_)
              simp only [Act.put, List.setIfInBounds_toArray, List.set_cons_zero, List.set_cons_succ]
              refine wpAnyL_pure (i := 19) (v := .pointer (some ⟨b, off + u * 3, none⟩)) (by simp only [List.getElem?_toArray, List.getElem?_cons_zero, List.getElem?_cons_succ] <;> rfl) (by kernel_rfl) (by kernel_rfl) (by kernel_rfl) (by exact fun _ _ _ h => h) (by decide) (.inr ⟨XN.out, RI.out, RJ.out, RK.out, RL.out⟩) (Or.inl ⟨by rfl, fun w _ => (by simp [execOp, go_sem, Act.eval, zu])⟩) (fun _ => ?_)
              simp only [Act.put, List.setIfInBounds_toArray, List.set_cons_zero, List.set_cons_succ]
              refine wpAnyL_pure (i := 20) (v := .pointer (some ⟨b, off + u * 3 + 1, none⟩)) (by simp only [List.getElem?_toArray, List.getElem?_cons_zero, List.getElem?_cons_succ] <;> rfl) (by kernel_rfl) (by kernel_rfl) (by kernel_rfl) (by exact fun _ _ _ h => h) (by decide) (.inr ⟨XN.out, RI.out, RJ.out, RK.out, RL.out⟩) (Or.inl ⟨by rfl, fun w _ => (by simp [execOp, go_sem, Act.eval])⟩) (fun _ => ?_)
              simp only [Act.put, List.setIfInBounds_toArray, List.set_cons_zero, List.set_cons_succ]
              refine wpAnyL_load2 (i := 21) (v := .int .i64 yl) (by simp only [List.getElem?_toArray, List.getElem?_cons_zero, List.getElem?_cons_succ] <;> rfl) (by kernel_rfl) (by kernel_rfl) (by kernel_rfl) (by exact fun _ _ _ h => h) (by decide) (Waits.more (j := 23) rfl ⟨⟨23, .data⟩, by simp, rfl, rfl⟩ (Waits.one rfl ⟨⟨21, .data⟩, by simp, rfl, rfl⟩)) (by kernel_rfl) (by kernel_rfl) (.inr ⟨XN.out, RI.out, RJ.out, RK.out, RL.out⟩) (Or.inl ⟨by rfl, fun w hw => (by obtain ⟨_, _, _, _, x4⟩ := hw; simp [execOp, go_sem, Act.eval, x4])⟩) (fun _ => ?_)
              simp only [Act.put, List.setIfInBounds_toArray, List.set_cons_zero, List.set_cons_succ]
              refine wpAnyL_pure (i := 22) (v := .int .i64 l) (by simp only [List.getElem?_toArray, List.getElem?_cons_zero, List.getElem?_cons_succ] <;> rfl) (by kernel_rfl) (by kernel_rfl) (by kernel_rfl) (by exact fun _ _ _ h => h) (by decide) (.inr ⟨XN.out, RI.out, RJ.out, RK.out, RL.out⟩) (Or.inl ⟨by rfl, fun w _ => (by simp [execOp, go_sem, Act.eval])⟩) (fun _ => ?_)
              simp only [Act.put, List.setIfInBounds_toArray, List.set_cons_zero, List.set_cons_succ]
              refine wpAnyL_pure (i := 23) (v := .bool true) (by simp only [List.getElem?_toArray, List.getElem?_cons_zero, List.getElem?_cons_succ] <;> rfl) (by kernel_rfl) (by kernel_rfl) (by kernel_rfl) (by exact fun _ _ _ h => h) (by decide) (.inr ⟨XN.out, RI.out, RJ.out, RK.out, RL.out⟩) (Or.inl ⟨by rfl, fun w _ => (by simp [execOp, go_sem, Act.eval, hyl])⟩) (fun _ => ?_)
              simp only [Act.put, List.setIfInBounds_toArray, List.set_cons_zero, List.set_cons_succ]
              refine wpAnyL_one (i := 24) (by kernel_rfl) (by simp only [List.getElem?_toArray, List.getElem?_cons_zero, List.getElem?_cons_succ] <;> rfl) (by rfl) ?_
              refine opwp_value (v := .bool true) (w' := wr.drew) (by simp [execOp, go_sem, Act.eval]) ⟨.inl (by kernel_rfl), ?_⟩
              simp only [Act.put, List.setIfInBounds_toArray, List.set_cons_zero, List.set_cons_succ]
              refine wpAnyL_done (by kernel_rfl) ?_ _
              go_wp2_with fail
              go_ret
              exact ⟨by rw [HT.out]; rfl, HB.out.trans ((HBQ.out.drew).mono HB.out.size)⟩
        · obtain rfl : q = xi.length := by omega
          have HR := hid (HNO.out fun q hq => hno.out q hq hq)
          have HBQ := hid hbr.out
          clear hno hbr
          go_wp2_with fail
          go_ret
          exact ⟨by rw [HR.out]; rfl, HB.out.trans (HBQ.out.mono HB.out.size)⟩
    · have HR := hid (show hasL L (k : Int) l = false from hasL_no (by rw [HNK.out]; exact h2) (by rw [HNK.out]; exact h3))
      have h3' : (xk == 3) = false := by simp [h3]
      clear h2 h3
      by_cases hxl : (0 : Int) < (xi.length : Int)
      · go_enter Tryd.func51, Tryd.ntmps51
        go_wp2_with fail
        go_rounds 1
        go_wp2_with fail
        go_ret
        exact ⟨by rw [HR.out]; rfl, HB.out⟩
      · go_enter Tryd.func51, Tryd.ntmps51
        go_wp2_with fail
        go_rounds 1
        go_wp2_with fail
        go_ret
        exact ⟨by rw [HR.out]; rfl, HB.out⟩

/-- A node decides, or is no disjunction. -/
def decX (L : List NodeT) (x : NodeT) : Bool := x.kind != 4 || (x.ins.length == 2 && opp (heads L (x.ins.getD 0 0)) (heads L (x.ins.getD 1 0)))
theorem decX_no {L : List NodeT} {k l : Int} {i : List Int} (h : k ≠ 4) : decX L ⟨k, l, i⟩ = true := by unfold decX; simp [h]
theorem decX_long {L : List NodeT} {l : Int} {i : List Int} (h : i.length ≠ 2) : decX L ⟨4, l, i⟩ = false := by
  unfold decX
  have : (i.length == 2) = false := by simp [h]
  simp only [this, Bool.false_and, Bool.or_false]; rfl
/-- One of the variables to k decides between two nodes. -/
def isTo (L : List NodeT) (i0 i1 : Int) (k : Nat) : Bool := (List.range k).any fun j : Nat => (hasL L i0 (-((j : Int) + 1)) && hasL L i1 ((j : Int) + 1)) || (hasL L i0 ((j : Int) + 1) && hasL L i1 (-((j : Int) + 1)))
theorem isTo_succ (L : List NodeT) (i0 i1 : Int) (k : Nat) : isTo L i0 i1 (k + 1) = (isTo L i0 i1 k || ((hasL L i0 (-((k : Int) + 1)) && hasL L i1 ((k : Int) + 1)) || (hasL L i0 ((k : Int) + 1) && hasL L i1 (-((k : Int) + 1))))) := by
  unfold isTo
  rw [List.range_succ, List.any_append]; simp
theorem heads_lit {n : Int} {L : List NodeT} (hv : validNet ⟨n, L⟩ = true) {i l : Int} (h : l ∈ heads L i) : 1 ≤ litVar l ∧ litVar l ≤ n := by
  have key : ∀ j : Int, (nOf L j).kind = 2 → 1 ≤ litVar (nOf L j).lit ∧ litVar (nOf L j).lit ≤ n := by
    intro j hj
    unfold nOf at hj ⊢
    by_cases h0 : 0 ≤ j
    · rw [if_pos h0] at hj ⊢
      by_cases hl : j.toNat < L.length
      · rw [List.getD_eq_getElem?_getD, List.getElem?_eq_getElem hl, Option.getD_some] at hj ⊢
        have := kind2_range hv (List.getElem_mem hl) hj
        exact ⟨this.1, this.2.1⟩
      · rw [List.getD_eq_getElem?_getD, List.getElem?_eq_none (by omega), Option.getD_none] at hj
        exact absurd hj (by decide)
    · rw [if_neg h0] at hj
      exact absurd hj (by decide)
  unfold heads at h
  split at h
  · rename_i h2
    obtain rfl : l = (nOf L i).lit := by simpa using h
    exact key i h2
  · split at h
    · unfold litsOf at h
      rw [List.mem_filterMap] at h
      obtain ⟨j, hj, hjl⟩ := h
      split at hjl
      · rename_i h2
        injection hjl with hjl
        subst hjl
        exact key j h2
      · cases hjl
    · cases h
theorem decX_two {n : Int} {L : List NodeT} (hv : validNet ⟨n, L⟩ = true) {l i0 i1 : Int} : decX L ⟨4, l, [i0, i1]⟩ = isTo L i0 i1 n.toNat := by
  unfold decX
  show ((4 : Int) != 4 || (([i0, i1].length == 2) && opp (heads L i0) (heads L i1))) = _
  simp only [bne_self_eq_false, Bool.false_or, List.length_cons, List.length_nil, Nat.zero_add, Nat.reduceAdd, beq_self_eq_true, Bool.true_and]
  rw [Bool.eq_iff_iff]
  unfold opp isTo
  rw [List.any_eq_true, List.any_eq_true]
  constructor
  · rintro ⟨y, hy, hc⟩
    have hr := heads_lit hv hy
    unfold litVar at hr
    by_cases hp : 0 < y
    · refine ⟨(y - 1).toNat, ?_, ?_⟩
      · rw [List.mem_range]
        split at hr <;> omega
      · rw [show (((y - 1).toNat : Nat) : Int) + 1 = y by omega]
        unfold hasL
        rw [hc, show (heads L i1).contains y = true by simpa using hy]; rfl
    · refine ⟨(-y - 1).toNat, ?_, ?_⟩
      · rw [List.mem_range]
        split at hr
        · omega
        · split at hr <;> omega
      · have hy0 : y < 0 := by
          split at hr
          · omega
          · split at hr <;> omega
        rw [show (((-y - 1).toNat : Nat) : Int) + 1 = -y by omega]
        unfold hasL
        rw [Int.neg_neg, hc, show (heads L i1).contains y = true by simpa using hy, Bool.and_self, Bool.or_true]
  · rintro ⟨j, _, h⟩
    rw [Bool.or_eq_true, Bool.and_eq_true, Bool.and_eq_true] at h
    unfold hasL at h
    rcases h with ⟨h1, h2⟩ | ⟨h1, h2⟩
    · exact ⟨_, by simpa using h2, h1⟩
    · exact ⟨_, by simpa using h2, by rw [Int.neg_neg]; exact h1⟩
set_option maxRecDepth 100000 in
set_option maxHeartbeats 8000000 in
theorem decision21_c (n : Int) (L : List NodeT) (v : Value) (w : World) (hN : NodesAt w v L) (hlean : ∀ x ∈ L, x.ins.length ≤ 65536) :
    Calls Tryd.prog 21 #[.agg #[.int .i64 n, v]] w (DecPost (validNet ⟨n, L⟩ && decideB L) w) := by
  have hB1 : Below w.heap.size w (w.alloc (.cells #[.int .i64 n, v] 24)) := (Below.refl _ w).alloc (Nat.le_refl _) _
  have HCK := hid (valid21_c n L v _ (hN.below hB1))
  have HX := hid (NetVar.new w n v 24)
  have HNA := hid (hN.below hB1)
  have HB1 := hid hB1
  clear hB1
  cases hv : validNet ⟨n, L⟩ with
  | false =>
    rw [hv] at HCK
    obtain ⟨x0, x1⟩ := HX.out
    clear hv hN
    go_enter Tryd.func21, Tryd.ntmps21
    go_wp2_with fail
    refine HCK.out.mono ?_
    rintro e w2 ⟨rfl, hb2⟩
    go_wp2_with fail
    go_ret
    exact ⟨rfl, HB1.out.trans (hb2.mono HB1.out.size)⟩
  | true =>
  obtain ⟨⟨r1, r2, r3, r4⟩, hft⟩ := (validNet_iff _).1 hv
  simp only at r1 r2 r3 r4 hft
  rw [hv] at HCK
  obtain ⟨p, c, rfl, h⟩ := hN
  obtain ⟨b, off, rfl, hN⟩ := h.resolve_left (by intro e; rw [e] at r3; simp at r3)
  have HN := hid hN
  have HFT := hid hft
  have HVAL := hid hv
  obtain ⟨x0, x1⟩ := HX.out
  clear hN h hv hft
  go_enter Tryd.func21, Tryd.ntmps21
  go_wp2_with fail
  refine HCK.out.mono ?_
  rintro e w3 ⟨rfl, hb3⟩
  have HNA3 := hid (HNA.out.below hb3)
  have HX3 := hid (HX.out.below hb3)
  have HB3 := hid (HB1.out.trans (hb3.mono HB1.out.size))
  have HN3 := hid (fun k (hk : k < L.length) => (HN.out k hk).imp fun u hu => hu.below HB3.out)
  have HLE := hid hlean
  clear x0 x1 hb3 HCK HX HB1 HNA hlean
  go_wp2_with fail
  go_loopw [3] (fun z wr => ∃ (k : Nat), k ≤ L.length ∧ z = .int .i64 k ∧ Hid (∀ j (hj : j < L.length), j < k → decX L L[j] = true) ∧ Hid (Below w3.heap.size w3 wr)) (fun z _ => L.length - (intOf z).toNat)
  case atStart => exact ⟨0, Nat.zero_le _, rfl, fun j _ h => absurd h (Nat.not_lt_zero _), Below.refl _ _⟩
  case round =>
    obtain ⟨k, hk, rfl, hok, hbr⟩ := hrel
    obtain ⟨x0, x1⟩ := HX3.out.below hbr.out
    by_cases hkl : k < L.length
    · obtain ⟨u, hu⟩ := HN3.out k hkl
      have hur := hu.below hbr.out
      have d0 := hur.kind
      have d2 := hur.ins
      have HU := hid hu
      have HIN := hid (ins_lt HFT.out hkl)
      have hle := HLE.out L[k] (List.getElem_mem hkl)
      have zk : (0 : Int) ≤ (k : Int) ∧ (k : Int) < (L.length : Int) := by omega
      have HOK := hid (show decX L L[k] = true → ∀ j (hj : j < L.length), j < k + 1 → decX L L[j] = true from fun h j hj hlt => by
        by_cases e : j = k
        · subst e; exact h
        · exact hok.out j hj (by omega))
      have HNO := hid (show decX L L[k] = false → decideB L = false from fun h => all_not hkl h)
      have HBR := hid hbr.out
      clear hu hur hok hbr
      generalize hxx : L[k] = x at *
      obtain ⟨xk, xl, xi⟩ := x
      obtain ⟨p2, c2, e2, hdrop⟩ := HU.out.ints
      subst e2
      clear hdrop hxx
      by_cases h4 : xk = 4
      · subst h4
        by_cases hl2 : xi.length = 2
        · obtain ⟨a0, a1, hxi⟩ : ∃ a0 a1, xi = [a0, a1] := by
            match xi, hl2 with
            | [a0, a1], _ => exact ⟨a0, a1, rfl⟩
          subst hxi
          clear hl2
          have i0 := HIN.out a0 (by simp)
          have i1 := HIN.out a1 (by simp)
          obtain ⟨u0, hu0⟩ : ∃ u : Nat, a0 = (u : Int) := ⟨a0.toNat, by omega⟩
          obtain ⟨u1, hu1⟩ : ∃ u : Nat, a1 = (u : Int) := ⟨a1.toNat, by omega⟩
          subst hu0; subst hu1
          have hul0 : u0 < L.length := by omega
          have hul1 : u1 < L.length := by omega
          have HDX := hid (show decX L ⟨4, xl, [(u0 : Int), (u1 : Int)]⟩ = isTo L u0 u1 n.toNat from decX_two HVAL.out)
          have HBS := hid HBR.out
          have hn0 : (n.toNat : Int) = n := by omega
          have hn128 : n.toNat ≤ 128 := by omega
          generalize n.toNat = N at hn0 hn128 HDX
          subst hn0
          go_wp2_with fail
          go_loopw [5, 6] (fun y z wr => ∃ (q : Nat), q ≤ N ∧ z = .int .i64 ((q : Int) + 1) ∧ y = .bool (isTo L u0 u1 q) ∧ Hid (Below w3.heap.size w3 wr)) (fun _ z _ => N + 1 - (intOf z).toNat)
          case atStart => exact ⟨0, Nat.zero_le _, by simp, rfl, HBS.out⟩
          case round =>
            clear HBR HBS x0 x1 d0 d2
            obtain ⟨q, hq, rfl, rfl, hbr⟩ := hrel
            obtain ⟨x0, x1⟩ := HX3.out.below hbr.out
            by_cases hql : q < N
            · obtain ⟨p3, c3, e3, h3⟩ := show IntsAt wr (.slice p2 2 c2) [(u0 : Int), (u1 : Int)] from (HU.out.below hbr.out).ints
              injection e3 with e1 e4 e2
              clear e4
              subst e1; subst e2
              obtain ⟨b2, o2, rfl, hc⟩ := h3.resolve_left (by simp)
              have hc0 := hc 0 (by simp)
              have hc1 := hc 1 (by simp)
              simp only [Nat.add_zero, List.getElem?_cons_zero, List.getElem?_cons_succ, Option.getD_some] at hc0 hc1
              have HST := hid (isTo_succ L (u0 : Int) (u1 : Int) q)
              have zq : (q : Int) + 1 ≤ (N : Int) := by omega
              have lx : w.heap.size < wr.heap.size := cell_lt x0
              have lb2 : b2 < wr.heap.size := cell_lt hc0
              have hwn : IntKind.i64.wrap (-((q : Int) + 1)) = -((q : Int) + 1) := wrap_neg (by omega) (by omega)
              have hNr := HNA3.out.below hbr.out
              have HBQ := hid hbr.out
              have q1 := fun x => has21_c N L _ (ext wr x) u0 (-((q : Int) + 1)) (hNr.below (ext_below wr x)) hul0 HFT.out
              have q2 := fun x => has21_c N L _ (ext wr x) u1 ((q : Int) + 1) (hNr.below (ext_below wr x)) hul1 HFT.out
              have q3 := fun x => has21_c N L _ (ext wr x) u0 ((q : Int) + 1) (hNr.below (ext_below wr x)) hul0 HFT.out
              have q4 := fun x => has21_c N L _ (ext wr x) u1 (-((q : Int) + 1)) (hNr.below (ext_below wr x)) hul1 HFT.out
              have lx : w.heap.size < wr.heap.size := cell_lt x0
              have lb2 : b2 < wr.heap.size := cell_lt hc0
              clear h3 hc hbr
              generalize hasL L (u0 : Int) (-((q : Int) + 1)) = b1 at *
              generalize hasL L (u1 : Int) ((q : Int) + 1) = b2' at *
              generalize hasL L (u0 : Int) ((q : Int) + 1) = b3 at *
              generalize hasL L (u1 : Int) (-((q : Int) + 1)) = b4 at *
              generalize isTo L (u0 : Int) (u1 : Int) q = is at *
              have hcases : is = true ∨ (is = false ∧ b1 = true ∧ b2' = true) ∨ (is = false ∧ b1 = true ∧ b2' = false ∧ b3 = true ∧ b4 = true) ∨ (is = false ∧ b1 = true ∧ b2' = false ∧ b3 = true ∧ b4 = false) ∨ (is = false ∧ b1 = true ∧ b2' = false ∧ b3 = false) ∨ (is = false ∧ b1 = false ∧ b3 = true ∧ b4 = true) ∨ (is = false ∧ b1 = false ∧ b3 = true ∧ b4 = false) ∨ (is = false ∧ b1 = false ∧ b3 = false) := by
                cases is <;> cases b1 <;> cases b2' <;> cases b3 <;> cases b4 <;> simp
              rcases hcases with rfl | ⟨rfl, rfl, rfl⟩ | ⟨rfl, rfl, rfl, rfl, rfl⟩ | ⟨rfl, rfl, rfl, rfl, rfl⟩ | ⟨rfl, rfl, rfl, rfl⟩ | ⟨rfl, rfl, rfl, rfl⟩ | ⟨rfl, rfl, rfl, rfl⟩ | ⟨rfl, rfl, rfl⟩
              · go_wp2_with fail
                refine wp_region_pure (by kernel_rfl) (by kernel_rfl) ?_
                repeat (go_big_quiet_step (first | fail))
                refine wpQuiet_nil ?_
                intro w4 hb4
                clear q1 q2 q3 q4 hwn hc0 hc1 x0 x1
                go_wp2_with fail
                go_roundw
                case rel => exact ⟨q + 1, by omega, by go_num, by rw [HST.out]; rfl, HBQ.out.trans (hb4.mono HBQ.out.size)⟩
                case measure => simp [intOf]; omega
              · go_wp2_with fail
                refine wp_region_pure (by kernel_rfl) (by kernel_rfl) ?_
                repeat (go_big_quiet_step (first | (go_at_call 51; with_reducible exact Calls.ext_of (q1 _)) | (go_at_call 51; with_reducible exact Calls.ext_of (q2 _))))
                refine wpQuiet_nil ?_
                intro w4 hb4
                clear q1 q2 q3 q4 hwn hc0 hc1 x0 x1
                go_wp2_with fail
                go_roundw
                case rel => exact ⟨q + 1, by omega, by go_num, by rw [HST.out]; rfl, HBQ.out.trans (hb4.mono HBQ.out.size)⟩
                case measure => simp [intOf]; omega
              · go_wp2_with fail
                refine wp_region_pure (by kernel_rfl) (by kernel_rfl) ?_
                repeat (go_big_quiet_step (first | (go_at_call 51; with_reducible exact Calls.ext_of (q1 _)) | (go_at_call 51; with_reducible exact Calls.ext_of (q2 _)) | (go_at_call 51; with_reducible exact Calls.ext_of (q3 _)) | (go_at_call 51; with_reducible exact Calls.ext_of (q4 _))))
                refine wpQuiet_nil ?_
                intro w4 hb4
                clear q1 q2 q3 q4 hwn hc0 hc1 x0 x1
                go_wp2_with fail
                go_roundw
                case rel => exact ⟨q + 1, by omega, by go_num, by rw [HST.out]; rfl, HBQ.out.trans (hb4.mono HBQ.out.size)⟩
                case measure => simp [intOf]; omega
              · go_wp2_with fail
                refine wp_region_pure (by kernel_rfl) (by kernel_rfl) ?_
                repeat (go_big_quiet_step (first | (go_at_call 51; with_reducible exact Calls.ext_of (q1 _)) | (go_at_call 51; with_reducible exact Calls.ext_of (q2 _)) | (go_at_call 51; with_reducible exact Calls.ext_of (q3 _)) | (go_at_call 51; with_reducible exact Calls.ext_of (q4 _))))
                refine wpQuiet_nil ?_
                intro w4 hb4
                clear q1 q2 q3 q4 hwn hc0 hc1 x0 x1
                go_wp2_with fail
                go_roundw
                case rel => exact ⟨q + 1, by omega, by go_num, by rw [HST.out]; rfl, HBQ.out.trans (hb4.mono HBQ.out.size)⟩
                case measure => simp [intOf]; omega
              · go_wp2_with fail
                refine wp_region_pure (by kernel_rfl) (by kernel_rfl) ?_
                repeat (go_big_quiet_step (first | (go_at_call 51; with_reducible exact Calls.ext_of (q1 _)) | (go_at_call 51; with_reducible exact Calls.ext_of (q2 _)) | (go_at_call 51; with_reducible exact Calls.ext_of (q3 _))))
                refine wpQuiet_nil ?_
                intro w4 hb4
                clear q1 q2 q3 q4 hwn hc0 hc1 x0 x1
                go_wp2_with fail
                go_roundw
                case rel => exact ⟨q + 1, by omega, by go_num, by rw [HST.out]; rfl, HBQ.out.trans (hb4.mono HBQ.out.size)⟩
                case measure => simp [intOf]; omega
              · go_wp2_with fail
                refine wp_region_pure (by kernel_rfl) (by kernel_rfl) ?_
                repeat (go_big_quiet_step (first | (go_at_call 51; with_reducible exact Calls.ext_of (q1 _)) | (go_at_call 51; with_reducible exact Calls.ext_of (q3 _)) | (go_at_call 51; with_reducible exact Calls.ext_of (q4 _))))
                refine wpQuiet_nil ?_
                intro w4 hb4
                clear q1 q2 q3 q4 hwn hc0 hc1 x0 x1
                go_wp2_with fail
                go_roundw
                case rel => exact ⟨q + 1, by omega, by go_num, by rw [HST.out]; rfl, HBQ.out.trans (hb4.mono HBQ.out.size)⟩
                case measure => simp [intOf]; omega
              · go_wp2_with fail
                refine wp_region_pure (by kernel_rfl) (by kernel_rfl) ?_
                repeat (go_big_quiet_step (first | (go_at_call 51; with_reducible exact Calls.ext_of (q1 _)) | (go_at_call 51; with_reducible exact Calls.ext_of (q3 _)) | (go_at_call 51; with_reducible exact Calls.ext_of (q4 _))))
                refine wpQuiet_nil ?_
                intro w4 hb4
                clear q1 q2 q3 q4 hwn hc0 hc1 x0 x1
                go_wp2_with fail
                go_roundw
                case rel => exact ⟨q + 1, by omega, by go_num, by rw [HST.out]; rfl, HBQ.out.trans (hb4.mono HBQ.out.size)⟩
                case measure => simp [intOf]; omega
              · go_wp2_with fail
                refine wp_region_pure (by kernel_rfl) (by kernel_rfl) ?_
                repeat (go_big_quiet_step (first | (go_at_call 51; with_reducible exact Calls.ext_of (q1 _)) | (go_at_call 51; with_reducible exact Calls.ext_of (q3 _))))
                refine wpQuiet_nil ?_
                intro w4 hb4
                clear q1 q2 q3 q4 hwn hc0 hc1 x0 x1
                go_wp2_with fail
                go_roundw
                case rel => exact ⟨q + 1, by omega, by go_num, by rw [HST.out]; rfl, HBQ.out.trans (hb4.mono HBQ.out.size)⟩
                case measure => simp [intOf]; omega
            · obtain rfl : q = N := by omega
              have HBQ := hid hbr.out
              clear hbr
              cases hi : isTo L (u0 : Int) (u1 : Int) q
              · have HF := hid (HNO.out (by rw [HDX.out, hi]))
                go_wp2_with fail
                go_ret
                exact ⟨by rw [HF.out]; rfl, HB3.out.trans (HBQ.out.mono HB3.out.size)⟩
              · have HT := hid (HOK.out (by rw [HDX.out, hi]))
                go_wp2_with fail
                go_roundw
                case rel => exact ⟨k + 1, by omega, by go_num, HT.out, HBQ.out⟩
                case measure => simp [intOf]; omega
        · have HF := hid (HNO.out (decX_long hl2))
          have hl2' : ((xi.length : Int) == 2) = false := by simp; omega
          clear hl2
          by_cases hn1 : (1 : Int) ≤ n
          · go_wp2_with fail
            go_rounds 1
            go_wp2_with fail
            go_ret
            exact ⟨by rw [HF.out]; rfl, HB3.out.trans (HBR.out.mono HB3.out.size)⟩
          · go_wp2_with fail
            go_rounds 1
            go_wp2_with fail
            go_ret
            exact ⟨by rw [HF.out]; rfl, HB3.out.trans (HBR.out.mono HB3.out.size)⟩
      · have HT := hid (HOK.out (decX_no h4))
        have h4' : (xk != 4) = true := by simp [h4]
        clear h4
        go_wp2_with fail
        go_roundw
        case rel => exact ⟨k + 1, by omega, by go_num, HT.out, HBR.out⟩
        case measure => simp [intOf]; omega
    · obtain rfl : k = L.length := by omega
      have HT := hid (show decideB L = true from all_to fun k hk => hok.out k hk hk)
      have HBR := hid hbr.out
      clear hok hbr
      go_wp2_with fail
      go_ret
      exact ⟨by rw [HT.out]; rfl, HB3.out.trans (HBR.out.mono HB3.out.size)⟩
end Go.Proofs.YtpdbfbjfodckgaaDoor
