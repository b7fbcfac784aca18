/- The walks of the laws GraphOrders, GraphWidths, GraphOwn. -/
import Derived.Test.YthgkklahiclcpaaDoorSLaw2
namespace Go.Proofs.YthgkklahiclcpaaDoor
open Go.RowKit
attribute [local go_sem ↓] run_eqlS run_neqS run_eqlS0 run_neqS0

def eqToS (a b : List VS) (k : Nat) : Prop := ∀ i, i < k → gOf a (i : Int) = gOf b (i : Int)
theorem eq_of_eqToS {a b : List VS} (h : a.length = b.length) (he : eqToS a b a.length) : a = b := by
  apply List.ext_getElem h
  intro i h1 h2
  have := he i h1
  rwa [gOf_nat a i h1, gOf_nat b i h2] at this
set_option maxRecDepth 100000 in
set_option maxHeartbeats 2000000 in
theorem sameSets_c (u v : Value) (a b : List VS) (w : World) (hu : SetsAt w u a) (hv : SetsAt w v b) (ha : a.length ≤ 140737488355328) (hb : b.length ≤ 140737488355328) :
    Calls Tryd.prog 30 #[u, v] w fun e w' => e = .returned (.bool (decide (a = b))) ∧ Below w.heap.size w w' := by
  obtain ⟨p, c, rfl, hp⟩ := id hu
  obtain ⟨q, d, rfl, hq⟩ := id hv
  clear hp hq
  by_cases hlen : a.length = b.length
  · have HL := hid hlen
    have HU := hid hu
    have HV := hid hv
    rw [← hlen]
    have hl : ((a.length : Int) != (a.length : Int)) = false := by simp
    clear hlen hu hv
    go_enter Tryd.func30, Tryd.ntmps30
    go_wp2_with fail
    go_loopw [5] (fun i wr => ∃ k : Nat, k ≤ a.length ∧ i = .int .i64 k ∧ Hid (eqToS a b k) ∧ Below w.heap.size w wr) (fun i _ => a.length - (intOf i).toNat)
    case atStart => exact ⟨0, Nat.zero_le _, rfl, fun i hi => by omega, Below.refl _ _⟩
    case round =>
      obtain ⟨k, hk, rfl, he, hB⟩ := hrel
      by_cases hlt : k < a.length
      · have hkb : k < b.length := by rw [← HL.out]; exact hlt
        have hua := HU.out.below hB
        have hvb := HV.out.below hB
        obtain ⟨b1, o1, c1, e1, l1⟩ := hua.form (by omega)
        obtain ⟨b2, o2, c2, e2, l2⟩ := hvb.form (by omega)
        injection e1 with e1 _ e1'
        injection e2 with e2 _ e2'
        subst e1; subst e2; subst e1'; subst e2'
        obtain ⟨s, hgs, r0, r1⟩ := hua.get k hlt
        obtain ⟨t, hgt, q0, q1⟩ := hvb.get k hkb
        have z1 : (0 : Int) ≤ (k : Int) ∧ (k : Int) < (a.length : Int) := by omega
        have HS := hid hgs
        have HT := hid hgt
        clear hua hvb hgs hgt hkb
        by_cases heq : s = t
        · subst heq
          have hx : (!(s == s)) = false := by simp
          have HE2 := hid (show eqToS a b (k + 1) from fun i hi => by
            by_cases e : i = k
            · subst e; exact HS.out.trans HT.out.symm
            · exact he.out i (by omega))
          clear he
          go_wp2_with fail
          go_quiet (fail)
          go_wp2_with fail
          go_roundw
          case rel => exact ⟨k + 1, by omega, by go_num, HE2.out, below_drewN hB _⟩
          case measure => simp [intOf]; omega
        · have hx : (!(s == t)) = true := by simp [heq]
          have hx2 : (s == t) = false := by simp [heq]
          have hd : decide (a = b) = false := decide_eq_false (by rintro rfl; exact heq (HS.out.symm.trans HT.out))
          have HD := hid hd
          clear heq hd he
          go_wp2_with fail
          go_quiet (fail)
          go_wp2_with fail
          go_ret
          exact ⟨by rw [HD.out]; rfl, below_drewN hB _⟩
      · obtain rfl : k = a.length := by omega
        have HD := hid (decide_eq_true (eq_of_eqToS HL.out he.out))
        go_wp2_with fail
        go_ret
        exact ⟨by rw [HD.out]; rfl, hB⟩
  · have hl : ((a.length : Int) != (b.length : Int)) = true := by simp; omega
    have HD := hid (decide_eq_false (show ¬ a = b by rintro rfl; exact hlen rfl))
    clear hlen
    go_enter Tryd.func30, Tryd.ntmps30
    go_wp2_with fail
    go_ret
    exact ⟨by rw [HD.out]; rfl, Below.refl _ _⟩
set_option maxRecDepth 100000 in
set_option maxHeartbeats 4000000 in
theorem graphWidths_walk (v : Value) (L : List VS) (v2 : Value) (l : List Int) (w : World) (hT : TabAt w) (hI : SetsAt w v L) (hL : L.length ≤ 9223372036854775807) (hJ : IntsAt w v2 l) (hl : l.length ≤ 9223372036854775807) :
    Calls Tryd.prog 4 #[v, v2] w (LawPost w) := by
  have hI0 := hI
  have hJ0 := hJ
  obtain ⟨p, c, rfl, hdrop⟩ := hI
  obtain ⟨p2, c2, rfl, hdrop2⟩ := hJ
  clear hdrop hdrop2
  have HW := hid (fun w' (h : Below w.heap.size w w') => works_c w' (hT.below hT.lt h))
  by_cases h1 : 60 < L.length
  · have d1 : decide ((60 : Int) < (L.length : Int)) = true := decide_eq_true (by omega)
    clear hI0 hJ0
    go_enter Tryd.func4, Tryd.ntmps4
    go_wp2_with fail
    refine (HW.out w (Below.refl _ _)).mono ?_
    rintro e w2 ⟨rfl, hb2⟩
    go_wp2_with fail
    go_ret
    exact ⟨rfl, hb2⟩
  · have d1 : decide ((60 : Int) < (L.length : Int)) = false := decide_eq_false (by omega)
    by_cases h2 : 200 < l.length
    · have d2 : decide ((200 : Int) < (l.length : Int)) = true := decide_eq_true (by omega)
      clear hI0 hJ0
      go_enter Tryd.func4, Tryd.ntmps4
      go_wp2_with fail
      refine (HW.out w (Below.refl _ _)).mono ?_
      rintro e w2 ⟨rfl, hb2⟩
      go_wp2_with fail
      go_ret
      exact ⟨rfl, hb2⟩
    · have d2 : decide ((200 : Int) < (l.length : Int)) = false := decide_eq_false (by omega)
      have HA := hid (Width_c _ _ L l w hI0 hJ0 hT (by omega) (by omega))
      have HB := hid (fun w' (h : Below w.heap.size w w') => rWidth_c _ _ L l w' (hI0.below h) (hJ0.below h) (by omega) (by omega))
      clear hI0 hJ0 h1 h2
      generalize widthP L l = x at *
      go_enter Tryd.func4, Tryd.ntmps4
      go_wp2_with fail
      refine HA.out.mono ?_
      rintro e w2 ⟨rfl, hb2⟩
      go_wp2_with fail
      refine (HB.out w2 hb2).mono ?_
      rintro e w3 ⟨rfl, hb3⟩
      have hB3 := hb2.trans (hb3.mono hb2.size)
      go_wp2_with fail
      refine (HW.out w3 hB3).mono ?_
      rintro e w4 ⟨rfl, hb4⟩
      have hB4 := hB3.trans (hb4.mono hB3.size)
      go_wp2_with fail
      go_ret
      exact ⟨rfl, hB4⟩
theorem orderP_length (cost : Gr → Int → Int) (L : List VS) : (orderP cost L).length ≤ 128 := by
  cases hv : validG L
  · rw [orderP_no hv]; simp
  · have h := orderP_ord (cost := cost) (validG_iff.1 hv)
    have := (validG_iff.1 hv).le
    rw [h.len]; omega
set_option maxRecDepth 100000 in
set_option maxHeartbeats 4000000 in
theorem graphOrders_walk (v : Value) (L : List VS) (w : World) (hT : TabAt w) (hI : SetsAt w v L) (hL : L.length ≤ 9223372036854775807) :
    Calls Tryd.prog 3 #[v] w (LawPost w) := by
  have hI0 := hI
  obtain ⟨p, c, rfl, hdrop⟩ := hI
  clear hdrop
  have HW := hid (fun w' (h : Below w.heap.size w w') => works_c w' (hT.below hT.lt h))
  by_cases h1 : 25 < L.length
  · have d1 : decide ((25 : Int) < (L.length : Int)) = true := decide_eq_true (by omega)
    clear hI0
    go_enter Tryd.func3, Tryd.ntmps3
    go_wp2_with fail
    refine (HW.out w (Below.refl _ _)).mono ?_
    rintro e w2 ⟨rfl, hb2⟩
    go_wp2_with fail
    go_ret
    exact ⟨rfl, hb2⟩
  · have d1 : decide ((25 : Int) < (L.length : Int)) = false := decide_eq_false (by omega)
    have HA := hid (fun w' (h : Below w.heap.size w w') => MinFill_c _ L w' (hI0.below h) (hT.below hT.lt h) (by omega))
    have HB := hid (fun w' (h : Below w.heap.size w w') => rMinFill_c _ L w' (hI0.below h) (by omega))
    have HC := hid (fun w' (h : Below w.heap.size w w') => MinDegree_c _ L w' (hI0.below h) (hT.below hT.lt h) (by omega))
    have HD := hid (fun w' (h : Below w.heap.size w w') => rMinDegree_c _ L w' (hI0.below h) (by omega))
    have l1 := orderP_length fillC L
    have l2 := orderP_length degC L
    clear hI0 h1
    unfold OrderPost at *
    generalize orderP fillC L = x at *
    generalize orderP degC L = y at *
    have hxx : decide (x = x) = true := decide_eq_true rfl
    have hyy : decide (y = y) = true := decide_eq_true rfl
    go_enter Tryd.func3, Tryd.ntmps3
    go_wp2_with fail
    refine (HA.out w (Below.refl _ _)).mono ?_
    rintro e w2 ⟨v2, rfl, hn2, hb2⟩
    have hi2 := hn2.ints
    obtain ⟨p2, c2, e2, hdrop⟩ := id hi2
    subst e2
    clear hdrop hn2
    go_wp2_with fail
    refine (HB.out w2 hb2).mono ?_
    rintro e w3 ⟨v3, rfl, hn3, hb3⟩
    have hi3 := hn3.ints
    obtain ⟨p3, c3, e3, hdrop⟩ := id hi3
    subst e3
    clear hdrop hn3
    have hi2' := hi2.below hb3
    have hB3 := hb2.trans (hb3.mono hb2.size)
    have HS := hid (sameInts_c _ _ x x w3 hi2' hi3 (by omega) (by omega))
    clear hi2 hb2 hb3 hi2' hi3
    go_wp2_with fail
    refine HS.out.mono ?_
    rintro e w4 ⟨rfl, hb4⟩
    rw [hxx]
    have hB4 := hB3.trans (hb4.mono hB3.size)
    clear hB3 hb4 HS
    go_wp2_with fail
    refine (HC.out w4 hB4).mono ?_
    rintro e w5 ⟨v5, rfl, hn5, hb5⟩
    have hB5 := hB4.trans (hb5.mono hB4.size)
    have hi5 := hn5.ints
    obtain ⟨p5, c5, e5, hdrop⟩ := id hi5
    subst e5
    clear hdrop hn5 hB4 hb5
    go_wp2_with fail
    refine (HD.out w5 hB5).mono ?_
    rintro e w6 ⟨v6, rfl, hn6, hb6⟩
    have hB6 := hB5.trans (hb6.mono hB5.size)
    have hi6 := hn6.ints
    obtain ⟨p6, c6, e6, hdrop⟩ := id hi6
    subst e6
    have hi5' := hi5.below hb6
    have HS := hid (sameInts_c _ _ y y w6 hi5' hi6 (by omega) (by omega))
    clear hdrop hn6 hB5 hb6 hi5 hi5' hi6
    go_wp2_with fail
    refine HS.out.mono ?_
    rintro e w7 ⟨rfl, hb7⟩
    rw [hyy]
    have hB7 := hB6.trans (hb7.mono hB6.size)
    clear hB6 hb7 HS
    go_wp2_with fail
    refine (HW.out w7 hB7).mono ?_
    rintro e w8 ⟨rfl, hb8⟩
    have hB8 := hB7.trans (hb8.mono hB7.size)
    go_wp2_with fail
    go_ret
    exact ⟨rfl, hB8⟩
end Go.Proofs.YthgkklahiclcpaaDoor
