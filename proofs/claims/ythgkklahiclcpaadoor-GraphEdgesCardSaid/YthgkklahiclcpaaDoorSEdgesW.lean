/- Walks: the reference's Edges, the law GraphEdges. -/
import Derived.Test.YthgkklahiclcpaaDoorTEdges
import Derived.Test.YthgkklahiclcpaaDoorTRCheck
import Derived.Test.YthgkklahiclcpaaDoorSMoreP
namespace Go.Proofs.YthgkklahiclcpaaDoor
open Go.RowKit
attribute [local go_sem ↓] run_eqlS run_neqS run_eqlS0 run_neqS0

/-- Variables of two literals of a clause, the later one ahead of q, or q itself with one ahead of r. -/
def RP (c : List Int) (q r : Nat) (u x : Int) : Prop := u ≠ x ∧ ∃ i j, j < i ∧ i < c.length ∧ (i < q ∨ (i = q ∧ j < r)) ∧ ((litV (c.getD i 0) = u ∧ litV (c.getD j 0) = x) ∨ (litV (c.getD i 0) = x ∧ litV (c.getD j 0) = u))
theorem rp_zero (c : List Int) (u x : Int) : ¬ RP c 0 0 u x := by rintro ⟨_, i, j, h1, _, h2, _⟩; omega
theorem rp_next (c : List Int) (q : Nat) (u x : Int) : RP c q q u x ↔ RP c (q + 1) 0 u x := by
  unfold RP
  constructor
  · rintro ⟨h0, i, j, h1, h2, h3, h4⟩; exact ⟨h0, i, j, h1, h2, .inl (by omega), h4⟩
  · rintro ⟨h0, i, j, h1, h2, h3, h4⟩; exact ⟨h0, i, j, h1, h2, by omega, h4⟩
theorem rp_succ (c : List Int) (q r : Nat) (hr : r < q) (hq : q < c.length) (a b : Int) (ha : litV (c.getD q 0) = a) (hb : litV (c.getD r 0) = b) (u x : Int) :
    RP c q (r + 1) u x ↔ RP c q r u x ∨ (u ≠ x ∧ ((u = a ∧ x = b) ∨ (u = b ∧ x = a))) := by
  unfold RP
  constructor
  · rintro ⟨h0, i, j, h1, h2, h3, h4⟩
    by_cases e : i = q ∧ j = r
    · obtain ⟨rfl, rfl⟩ := e
      rw [ha, hb] at h4
      exact .inr ⟨h0, by rcases h4 with h4 | h4 <;> omega⟩
    · exact .inl ⟨h0, i, j, h1, h2, by omega, h4⟩
  · rintro (⟨h0, i, j, h1, h2, h3, h4⟩ | ⟨h0, h1⟩)
    · exact ⟨h0, i, j, h1, h2, by omega, h4⟩
    · exact ⟨h0, q, r, hr, hq, .inr ⟨rfl, by omega⟩, by rw [ha, hb]; omega⟩
theorem rp_all {c : List Int} {n : Int} (hok : ∀ l ∈ c, litOK n l = true) (u x : Int) : RP c c.length 0 u x ↔ u ≠ x ∧ has (allC c) u = true ∧ has (allC c) x = true := by
  have hpos : ∀ i, i < c.length → 1 ≤ litV (c.getD i 0) := fun i hi => by
    have h1 := hok _ (List.getElem_mem hi)
    have h2 := litV_range c[i]
    rw [List.getD_eq_getElem?_getD, List.getElem?_eq_getElem hi, Option.getD_some]
    unfold litOK at h1
    rw [Bool.and_eq_true, bne_iff_ne] at h1
    omega
  have hin : ∀ i, i < c.length → c.getD i 0 ∈ c := fun i hi => by
    rw [List.getD_eq_getElem?_getD, List.getElem?_eq_getElem hi, Option.getD_some]; exact List.getElem_mem hi
  unfold RP
  rw [has_allC, has_allC]
  constructor
  · rintro ⟨h0, i, j, h1, h2, h3, ⟨rfl, rfl⟩ | ⟨rfl, rfl⟩⟩
    · exact ⟨h0, ⟨hpos i h2, _, hin i h2, rfl⟩, hpos j (by omega), _, hin j (by omega), rfl⟩
    · exact ⟨h0, ⟨hpos j (by omega), _, hin j (by omega), rfl⟩, hpos i h2, _, hin i h2, rfl⟩
  · rintro ⟨h0, ⟨_, l, hl, rfl⟩, _, m, hm, rfl⟩
    obtain ⟨i, hi, rfl⟩ := List.getElem_of_mem hl
    obtain ⟨j, hj, rfl⟩ := List.getElem_of_mem hm
    have e1 : c.getD i 0 = c[i] := by rw [List.getD_eq_getElem?_getD, List.getElem?_eq_getElem hi, Option.getD_some]
    have e2 : c.getD j 0 = c[j] := by rw [List.getD_eq_getElem?_getD, List.getElem?_eq_getElem hj, Option.getD_some]
    rcases Nat.lt_trichotomy i j with h | h | h
    · exact ⟨h0, j, i, h, hj, .inl hj, .inr ⟨by rw [e2], by rw [e1]⟩⟩
    · subst h; exact absurd rfl h0
    · exact ⟨h0, i, j, h, hi, .inl hi, .inl ⟨by rw [e1], by rw [e2]⟩⟩
set_option maxRecDepth 100000 in
set_option maxHeartbeats 3000000 in
theorem rEdges_c (n : Int) (u : Value) (L : List (List Int)) (w : World) (hI : LitsAt w u L) (hL : L.length ≤ 9223372036854775807) (hc : ∀ c ∈ L, c.length ≤ 9223372036854775807) :
    Calls Tryd.prog 32 #[.agg #[.int .i64 n, u]] w (EdgPost n L w) := by
  have hCK := fun w' (h : Below w.heap.size w w') => rCheck_c n u L w' (hI.below h) hL hc
  have HCK := hid hCK
  have HI := hid hI
  obtain ⟨p, cp, rfl, hdrop⟩ := id hI
  clear hdrop hI hCK hc
  have hB0 : Below w.heap.size w (w.alloc (.cells #[.int .i64 n, .slice p L.length cp] 48)) := (Below.refl _ w).alloc (Nat.le_refl _) _
  have HN0 : Hid ((w.alloc (.cells #[.int .i64 n, .slice p L.length cp] 48)).cell? ⟨w.heap.size, 0, none⟩ = some (.int .i64 n)) := by show _ = _; simp only [World.cell?, heap_alloc_new]; rfl
  have HN1 : Hid ((w.alloc (.cells #[.int .i64 n, .slice p L.length cp] 48)).cell? ⟨w.heap.size, 1, none⟩ = some (.slice p L.length cp)) := by show _ = _; simp only [World.cell?, heap_alloc_new]; rfl
  go_enter Tryd.func32, Tryd.ntmps32
  go_wp2_with fail
  refine (HCK.out _ hB0).mono ?_
  rintro e w1 ⟨rfl, hb1⟩
  have hB1 := hB0.trans (hb1.mono hB0.size)
  have hn0 := (hb1.cell (cell_lt HN0.out)).trans HN0.out
  have hn1 := (hb1.cell (cell_lt HN1.out)).trans HN1.out
  have hlw : w.heap.size < w1.heap.size := cell_lt hn0
  clear HN0 HN1 HCK hb1 hB0
  by_cases h0 : checkP n L = 0
  · have HCH := hid h0
    obtain ⟨a1, a2, a3, a4⟩ := lits_ok h0
    have HA4 := hid a4
    obtain ⟨nn, rfl⟩ : ∃ nn : Nat, n = (nn : Int) := ⟨n.toNat, by omega⟩
    have hmk := fun w' => make_sets w' (nn + 1) (by omega) ((nn : Int) + 1) ((nn : Int) + 1) rfl rfl
    rw [h0]
    clear h0 a4
    go_wp2_with fail
    have HN1' := hid hn1
    go_loopw [6] (fun i wr => ∃ (k : Nat) (M : List VS), k ≤ L.length ∧ i = .int .i64 k ∧ M.length = nn + 1 ∧ SetRow wr w1.heap.size M ∧ Hid (Says M (RE (L.take k))) ∧ Below w1.heap.size w1 wr) (fun i _ => L.length - (intOf i).toNat)
    case atStart => exact ⟨0, List.replicate (nn + 1) 0, Nat.zero_le _, rfl, by simp, SetRow.made w1 _, (fun u x => by rw [says_zero (nn + 1) u x]; unfold RE; simp), (Below.refl _ _).alloc (Nat.le_refl _) _⟩
    case round =>
      obtain ⟨k, M, hk, rfl, hml, hR, HS, hB⟩ := hrel
      clear hmk
      have hl1 := (hB.cell (cell_lt HN1'.out)).trans HN1'.out
      have hlw1 : w.heap.size < wr.heap.size := cell_lt hl1
      by_cases hkl : k < L.length
      · have hBw := hB1.trans (hB.mono hB1.size)
        obtain ⟨p', c', e', hh⟩ := HI.out
        injection e' with e1 _ e2
        subst e1; subst e2
        obtain ⟨b, off, rfl, hh2⟩ := hh.resolve_left (by rintro rfl; simp at hkl)
        obtain ⟨u, hcu, hiu⟩ := hh2 k hkl
        have hcu2 := (hBw.cell (cell_lt hcu)).trans hcu
        have hiu2 := hiu.below hBw
        obtain ⟨hcl, hok⟩ := HA4.out _ (List.getElem_mem hkl)
        have HTK := hid (List.take_succ_eq_append_getElem hkl)
        have zk : (0 : Int) ≤ (k : Int) ∧ (k : Int) < (L.length : Int) := by omega
        generalize L[k] = c at *
        obtain ⟨pc, cc, rfl, hdrop⟩ := id hiu2
        have HRE : Hid (∀ u x, RE (L.take (k + 1)) u x ↔ RE (L.take k) u x ∨ RP c c.length 0 u x) := fun u x => by rw [HTK.out, re_snoc, rp_all hok]
        have HIU := hid hiu2
        have HIW := hid hiu
        have HOK := hid (show ∀ l ∈ c, 1 ≤ litV l ∧ litV l ≤ (nn : Int) from fun l hl => by
          have h1 := hok l hl
          have h2 := litV_range l
          unfold litOK at h1
          rw [Bool.and_eq_true, bne_iff_ne] at h1
          have := of_decide_eq_true h1.2
          omega)
        have HB := hid hB
        have HBW := hid hBw
        have hst0 : Says M (fun u x => RE (L.take k) u x ∨ RP c 0 0 u x) := fun u x => by rw [HS.out u x]; exact ⟨.inl, fun h => h.resolve_right (rp_zero c u x)⟩
        have HST0 := hid hst0
        obtain ⟨wo, hwo⟩ : ∃ wo : World, wo = wr := ⟨_, rfl⟩
        clear hdrop hh hh2 hcu hiu hiu2 hok hB hBw hst0
        subst hwo
        go_wp2_with fail
        go_loopw [8] (fun j wq => ∃ (q : Nat) (N : List VS), q ≤ c.length ∧ j = .int .i64 q ∧ N.length = nn + 1 ∧ SetRow wq w1.heap.size N ∧ Hid (Says N (fun u x => RE (L.take k) u x ∨ RP c q 0 u x)) ∧ Below w1.heap.size w1 wq ∧ IntsAt wq (.slice pc c.length cc) c) (fun j _ => c.length - (intOf j).toNat)
        case atStart => exact ⟨0, M, Nat.zero_le _, rfl, hml, hR, HST0.out, HB.out, HIU.out⟩
        case round =>
          clear hR
          obtain ⟨q, N, hq, rfl, hnl, hR, HSN, hBq, hiq⟩ := hrel
          by_cases hql : q < c.length
          · have HQL := hid hql
            have HSN0 := hid HSN.out
            have HIQ := hid hiq
            have HBQ := hid hBq
            obtain ⟨wp, hwp⟩ : ∃ wp : World, wp = wr := ⟨_, rfl⟩
            clear hiq hBq
            subst hwp
            go_wp2_with fail
            go_loopw [9] (fun j wq => ∃ (r : Nat) (N : List VS), r ≤ q ∧ j = .int .i64 r ∧ N.length = nn + 1 ∧ SetRow wq w1.heap.size N ∧ Hid (Says N (fun u x => RE (L.take k) u x ∨ RP c q r u x)) ∧ Below w1.heap.size w1 wq ∧ IntsAt wq (.slice pc c.length cc) c) (fun j _ => q - (intOf j).toNat)
            case atStart => exact ⟨0, N, Nat.zero_le _, rfl, hnl, hR, HSN.out, HBQ.out, HIQ.out⟩
            case round =>
              clear hR
              obtain ⟨r, N2, hr, rfl, hnl2, hR, HSR, hBq, hiq⟩ := hrel
              by_cases hrq : r < q
              · have hrl : r < c.length := by have := HQL.out; omega
                obtain ⟨bm, om, cm, e2, hcx⟩ := hiq.get HQL.out
                obtain ⟨b3, o3, c3, e3, hcy⟩ := hiq.get hrl
                injection e2 with e2 _ e2'
                subst e2; subst e2'
                injection e3 with e3 _ e3'
                injection e3 with e3
                injection e3 with e3 e4 _
                subst e3; subst e4; subst e3'
                have e5 : c.getD q 0 = c[q]'HQL.out := by rw [List.getD_eq_getElem?_getD, List.getElem?_eq_getElem HQL.out, Option.getD_some]
                have e6 : c.getD r 0 = c[r] := by rw [List.getD_eq_getElem?_getD, List.getElem?_eq_getElem hrl, Option.getD_some]
                have HRP := hid (rp_succ c q r hrq HQL.out (litV (c[q]'HQL.out)) (litV c[r]) (by rw [e5]) (by rw [e6]))
                have hx := HOK.out _ (List.getElem_mem HQL.out)
                have hy := HOK.out _ (List.getElem_mem hrl)
                have zq : (0 : Int) ≤ (q : Int) ∧ (q : Int) < (c.length : Int) := by omega
                have zr : (0 : Int) ≤ (r : Int) ∧ (r : Int) < (c.length : Int) := by omega
                clear e5 e6
                generalize c[q]'HQL.out = x at *
                generalize c[r] = y at *
                have p1 := fun x' l => rVar_c l (ext wr x')
                obtain ⟨vn, hvn⟩ : ∃ vn : Nat, litV x = (vn : Int) := ⟨(litV x).toNat, by omega⟩
                obtain ⟨wn, hwn⟩ : ∃ wn : Nat, litV y = (wn : Int) := ⟨(litV y).toNat, by omega⟩
                rw [hvn] at hx HRP
                rw [hwn] at hy HRP
                have hlb : bm < wr.heap.size := cell_lt hcx
                have HBQ2 := hid hBq
                clear hiq hBq
                go_wp2_with fail
                refine wp_region_pure (by kernel_rfl) (by kernel_rfl) ?_
                repeat (go_big_quiet_step ((first | (go_at_call 62; exact Calls.ext_of (p1 _ _)))))
                refine wpQuiet_nil ?_
                intro w5 hb5
                have hR5 := hR.below hb5 hR.lt
                have hq5 := HBQ2.out.trans (hb5.mono HBQ2.out.size)
                clear hcx hcy hlb p1 hR hb5
                by_cases heq : vn = wn
                · subst heq
                  have hne : ((vn : Int) != (vn : Int)) = false := by simp
                  have HF : Hid (Says N2 (fun u x => RE (L.take k) u x ∨ RP c q (r + 1) u x)) := fun u x => by
                    have h1 : has (gOf N2 u) x = true ↔ RE (L.take k) u x ∨ RP c q r u x := HSR.out u x
                    show _ ↔ RE (L.take k) u x ∨ RP c q (r + 1) u x
                    rw [h1, HRP.out u x]
                    constructor
                    · rintro (h | h)
                      · exact .inl h
                      · exact .inr (.inl h)
                    · rintro (h | h | ⟨h0, h⟩)
                      · exact .inl h
                      · exact .inr h
                      · omega
                  have HI5 := hid (HIW.out.below (hB1.trans (hq5.mono hB1.size)))
                  clear HSR
                  go_wp2_with fail
                  go_roundw
                  case rel => exact ⟨r + 1, N2, by omega, by go_num, hnl2, hR5, HF.out, hq5, HI5.out⟩
                  case measure => simp [intOf]; omega
                · have hne : ((vn : Int) != (wn : Int)) = true := by simp; omega
                  have nAB : ¬ wn = vn := fun e => heq e.symm
                  have n1 : ¬ wn * 2 = vn * 2 := by omega
                  have n2 : ¬ wn * 2 + 1 = vn * 2 := by omega
                  have n3 : ¬ wn * 2 = vn * 2 + 1 := by omega
                  have zu : (0 : Int) ≤ (vn : Int) ∧ (vn : Int) < (nn : Int) + 1 := by omega
                  have zw : (0 : Int) ≤ (wn : Int) ∧ (wn : Int) < (nn : Int) + 1 := by omega
                  have hA2 : vn < N2.length := by omega
                  have hB2' : wn < N2.length := by omega
                  have hj := has_join1 (L := N2) (a := (vn : Int)) (b := (wn : Int)) (by omega) (by omega) (by omega) (by omega)
                  have HF : Hid (Says (joinL N2 (vn : Int) (wn : Int)) (fun u x => RE (L.take k) u x ∨ RP c q (r + 1) u x)) := fun u x => by
                    have h1 : has (gOf N2 u) x = true ↔ RE (L.take k) u x ∨ RP c q r u x := HSR.out u x
                    show _ ↔ RE (L.take k) u x ∨ RP c q (r + 1) u x
                    rw [hj u x, h1, HRP.out u x]
                    constructor
                    · rintro ((h | h) | h)
                      · exact .inl h
                      · exact .inr (.inl h)
                      · exact .inr (.inr ⟨by omega, by omega⟩)
                    · rintro (h | h | ⟨h0, h⟩)
                      · exact .inl (.inl h)
                      · exact .inl (.inr h)
                      · exact .inr (by omega)
                  clear hj HSR
                  obtain ⟨sA, hsA, c0, c1, f0, f1⟩ := hR5.get vn hA2
                  go_wp2_with fail
                  refine (rWith_c sA (wn : Int) _).mono ?_
                  rintro e w6 ⟨rfl, hb6⟩
                  have hR6 := hR5.below hb6 hR5.lt
                  have hq6 := hq5.trans (hb6.mono hq5.size)
                  have HSA := hid hsA
                  clear c0 c1 f0 f1 hb6 hR5 hsA hq5
                  obtain ⟨sA', hsA', c0, c1, f0, f1⟩ := hR6.get vn hA2
                  obtain rfl : sA = sA' := HSA.out.symm.trans hsA'
                  clear hsA'
                  obtain ⟨sB, hsB, d0, d1, g0, g1⟩ := hR6.get wn hB2'
                  have HSB := hid hsB
                  clear hsB
                  have hst := hR6.store vn hA2 (withV sA (wn : Int))
                  have hq7 := (hq6.setCell (p := ⟨w1.heap.size, vn * 2, none⟩) (Nat.le_refl _) (.int .u64 ((lw (withV sA (wn : Int))).toNat : Int))).setCell (p := ⟨w1.heap.size, vn * 2 + 1, none⟩) (Nat.le_refl _) (.int .u64 ((hw (withV sA (wn : Int))).toNat : Int))
                  have HR7 := hid hst
                  have HQ7 := hid hq7
                  clear hst hq7 hR6 hq6
                  go_wp2_with fail
                  refine (rWith_c sB (vn : Int) _).mono ?_
                  rintro e w8 ⟨rfl, hb8⟩
                  have hR8 := HR7.out.below hb8 HR7.out.lt
                  have hq8 := HQ7.out.trans (hb8.mono HQ7.out.size)
                  clear HR7 HQ7 hb8 c0 c1 f0 f1 d0 d1 g0 g1
                  have hlB : wn < (N2.set vn (withV sA (wn : Int))).length := by simpa using hB2'
                  obtain ⟨sB', hsB', c0, c1, f0, f1⟩ := hR8.get wn hlB
                  have hsB2 : sB' = sB := by
                    rw [← hsB', gOf_set N2 vn hA2, if_neg (by omega)]; exact HSB.out
                  have hjoin : joinL N2 (vn : Int) (wn : Int) = (N2.set vn (withV sA (wn : Int))).set wn (withV sB (vn : Int)) := by
                    unfold joinL
                    simp only [Int.toNat_natCast]
                    rw [HSA.out, hsB', hsB2]
                  subst hsB2
                  have hst := hR8.store wn hlB (withV sB' (vn : Int))
                  have hq9 := (hq8.setCell (p := ⟨w1.heap.size, wn * 2, none⟩) (Nat.le_refl _) (.int .u64 ((lw (withV sB' (vn : Int))).toNat : Int))).setCell (p := ⟨w1.heap.size, wn * 2 + 1, none⟩) (Nat.le_refl _) (.int .u64 ((hw (withV sB' (vn : Int))).toNat : Int))
                  rw [← hjoin] at hst
                  have HR9 := hid hst
                  have HQ9 := hid hq9
                  have HI9 := hid (HIW.out.below (hB1.trans (hq9.mono hB1.size)))
                  clear hst hq9 hR8 hq8 hjoin hsB'
                  go_wp2_with fail
                  go_roundw
                  case rel => exact ⟨r + 1, _, by omega, by go_num, by rw [joinL_length]; exact hnl2, HR9.out, HF.out, HQ9.out, HI9.out⟩
                  case measure => simp [intOf]; omega
              · obtain rfl : r = q := by omega
                have HF : Hid (Says N2 (fun u x => RE (L.take k) u x ∨ RP c (r + 1) 0 u x)) := fun u x => by have h1 : has (gOf N2 u) x = true ↔ RE (L.take k) u x ∨ RP c r r u x := HSR.out u x; show _ ↔ RE (L.take k) u x ∨ RP c (r + 1) 0 u x; rw [h1, rp_next]
                have HBQ2 := hid hBq
                have HIQ2 := hid hiq
                clear hBq hiq HSR
                go_wp2_with fail
                go_roundw
                case rel => exact ⟨r + 1, N2, by have := HQL.out; omega, by go_num, hnl2, hR, HF.out, HBQ2.out, HIQ2.out⟩
                case measure => simp [intOf]; have := HQL.out; omega
          · obtain rfl : q = c.length := by omega
            have HF : Hid (Says N (RE (L.take (k + 1)))) := fun u x => by rw [HSN.out u x, HRE.out u x]
            have HBQ := hid hBq
            clear hiq hBq HSN
            go_wp2_with fail
            go_roundw
            case rel => exact ⟨k + 1, N, by omega, by go_num, hnl, hR, HF.out, HBQ.out⟩
            case measure => simp [intOf]; omega
      · obtain rfl : k = L.length := by omega
        have HS' := HS.out
        rw [List.take_length] at HS'
        have HSF := hid HS'
        have HB9 := hid (hB1.trans (hB.mono hB1.size))
        have HML := hid hml
        have hle := hB1.size
        clear HS' hB hml HS
        go_wp2_with fail
        go_ret2
        exact ⟨HB9.out, .inr ⟨HCH.out, w1.heap.size, M, by rw [HML.out]; rfl, hle, hR, by rw [HML.out]; rfl, HSF.out⟩⟩
  · have hne : (checkP n L != 0) = true := by simpa using h0
    have HNE := hid h0
    clear h0
    generalize hy : checkP n L = y at *
    have HY := hid hy
    clear hy
    go_wp2_with fail
    go_ret2
    exact ⟨hB1, .inl ⟨by rw [HY.out]; exact HNE.out, by rw [HY.out]; rfl⟩⟩
theorem edg_same {L : List (List Int)} {M N : List VS} (h : M.length = N.length) (h1 : Says M (RE L)) (h2 : Says N (RE L)) : M = N := by
  apply List.ext_getElem h
  intro i hi hj
  rw [← gOf_nat M i hi, ← gOf_nat N i hj]
  apply ext_has
  intro u _ _
  rw [Bool.eq_iff_iff, h1, h2]
theorem sameNil_c (w : World) : Calls Tryd.prog 30 #[.slice none 0 0, .slice none 0 0] w fun e w' => e = .returned (.bool true) ∧ Below w.heap.size w w' := by
  have h0 : SetsAt w (.slice none 0 0) [] := ⟨none, 0, rfl, .inl rfl⟩
  have := sameSets_c (.slice none 0 0) (.slice none 0 0) [] [] w h0 h0 (by simp) (by simp)
  rwa [decide_eq_true (rfl : ([] : List VS) = [])] at this
set_option maxRecDepth 100000 in
set_option maxHeartbeats 4000000 in
theorem graphEdges_walk (n : Int) (L : List (List Int)) (u : Value) (w : World) (hT : TabAt w) (hI : LitsAt w u L) (hL : L.length ≤ 9223372036854775807 ∧ ∀ c ∈ L, c.length ≤ 9223372036854775807) :
    Calls Tryd.prog 10 #[.agg #[.int .i64 n, u]] w (LawPost w) := by
  obtain ⟨hL1, hc⟩ := hL
  have HW := hid (fun w' (h : Below w.heap.size w w') => works_c w' (hT.below hT.lt h))
  have HE := hid (fun w' (h : Below w.heap.size w w') => Edges_c n u L w' (hT.below hT.lt h) (hI.below h) hL1 hc)
  have HR := hid (fun w' (h : Below w.heap.size w w') => rEdges_c n u L w' (hI.below h) hL1 hc)
  have HI := hid hI
  have HC := hid hc
  obtain ⟨p, cp, rfl, hdrop⟩ := id hI
  clear hdrop hI hc
  have hB0 : Below w.heap.size w (w.alloc (.cells #[.int .i64 n, .slice p L.length cp] 48)) := (Below.refl _ w).alloc (Nat.le_refl _) _
  have HN0 : Hid ((w.alloc (.cells #[.int .i64 n, .slice p L.length cp] 48)).cell? ⟨w.heap.size, 0, none⟩ = some (.int .i64 n)) := by show _ = _; simp only [World.cell?, heap_alloc_new]; rfl
  have HN1 : Hid ((w.alloc (.cells #[.int .i64 n, .slice p L.length cp] 48)).cell? ⟨w.heap.size, 1, none⟩ = some (.slice p L.length cp)) := by show _ = _; simp only [World.cell?, heap_alloc_new]; rfl
  by_cases h40 : (40 : Int) < (L.length : Int)
  · go_enter Tryd.func10, Tryd.ntmps10
    go_wp2_with fail
    refine (HW.out _ hB0).mono ?_
    rintro e w2 ⟨rfl, hb2⟩
    have hB2 := hB0.trans (hb2.mono hB0.size)
    go_wp2_with fail
    go_ret
    exact ⟨rfl, hB2⟩
  · go_enter Tryd.func10, Tryd.ntmps10
    go_wp2_with fail
    obtain ⟨w1, hw1⟩ : ∃ w1, w1 = w.alloc (.cells #[.int .i64 n, .slice p L.length cp] 48) := ⟨_, rfl⟩
    rw [← hw1] at HN0 HN1 hB0 ⊢
    clear hw1
    go_loopw [3] (fun i wr => ∃ k : Nat, k ≤ L.length ∧ i = .int .i64 k ∧ Below w1.heap.size w1 wr) (fun i _ => L.length - (intOf i).toNat)
    case atStart => exact ⟨0, Nat.zero_le _, rfl, Below.refl _ _⟩
    case round =>
      obtain ⟨k, hk, rfl, hB⟩ := hrel
      have hl0 := (hB.cell (cell_lt HN0.out)).trans HN0.out
      have hl1 := (hB.cell (cell_lt HN1.out)).trans HN1.out
      have hlw : w.heap.size < wr.heap.size := cell_lt hl1
      have hBw := hB0.trans (hB.mono hB0.size)
      by_cases hkl : k < L.length
      · obtain ⟨p', c', e', hh⟩ := HI.out
        injection e' with e1 _ e2
        subst e1; subst e2
        obtain ⟨b, off, rfl, hh2⟩ := hh.resolve_left (by rintro rfl; simp at hkl)
        obtain ⟨u, hcu, hiu⟩ := hh2 k hkl
        have hcu2 := (hBw.cell (cell_lt hcu)).trans hcu
        have hcl := HC.out _ (List.getElem_mem hkl)
        have zk : (0 : Int) ≤ (k : Int) ∧ (k : Int) < (L.length : Int) := by omega
        generalize L[k] = c at *
        obtain ⟨pc, cc, rfl, hdrop⟩ := id hiu
        clear hdrop hh hh2 hcu hiu
        by_cases h30 : (30 : Int) < (c.length : Int)
        · go_wp2_with fail
          refine (HW.out wr hBw).mono ?_
          rintro e w2 ⟨rfl, hb2⟩
          have hB2 := hBw.trans (hb2.mono hBw.size)
          go_wp2_with fail
          go_ret
          exact ⟨rfl, hB2⟩
        · go_wp2_with fail
          go_roundw
          case rel => exact ⟨k + 1, by omega, by go_num, hB⟩
          case measure => simp [intOf]; omega
      · obtain rfl : k = L.length := by omega
        have HEE := hid (HE.out wr hBw)
        go_wp2_with fail
        refine HEE.out.mono ?_
        rintro e w2 ⟨hb2, hE⟩
        have hB2 := hBw.trans (hb2.mono hBw.size)
        have hm0 := (hb2.cell (cell_lt hl0)).trans hl0
        have hm1 := (hb2.cell (cell_lt hl1)).trans hl1
        have hlw2 : w.heap.size < w2.heap.size := cell_lt hm1
        have HRR := hid (HR.out w2 hB2)
        clear HEE HE HR hl0 hl1 hB
        rcases hE with ⟨h0, rfl⟩ | ⟨h0, g, M, rfl, hg, hM, hml, hS⟩
        · go_wp2_with fail
          refine HRR.out.mono ?_
          rintro e w3 ⟨hb3, hE3⟩
          have hB3 := hB2.trans (hb3.mono hB2.size)
          rcases hE3 with ⟨h3, rfl⟩ | ⟨h3, _⟩
          · have HSS := hid (sameNil_c w3)
            go_wp2_with fail
            refine HSS.out.mono ?_
            rintro e w4 ⟨rfl, hb4⟩
            have hB4 := hB3.trans (hb4.mono hB3.size)
            go_wp2_with fail
            refine (HW.out w4 hB4).mono ?_
            rintro e w5 ⟨rfl, hb5⟩
            have hB5 := hB4.trans (hb5.mono hB4.size)
            go_wp2_with fail
            go_ret
            exact ⟨rfl, hB5⟩
          · exact absurd h3 h0
        · have HM := hid hM
          have HS := hid hS
          have HML := hid hml
          have HH0 := hid h0
          obtain ⟨_, hn2, _⟩ := lits_ok h0
          clear hM hS hml h0
          go_wp2_with fail
          refine HRR.out.mono ?_
          rintro e w3 ⟨hb3, hE3⟩
          have hB3 := hB2.trans (hb3.mono hB2.size)
          rcases hE3 with ⟨h3, _⟩ | ⟨h3, g2, N, rfl, hg2, hN, hnl, hS2⟩
          · exact absurd HH0.out h3
          · have e1 := edg_same (show M.length = N.length by have := HML.out; omega) HS.out hS2
            subst e1
            have hm129 : M.length ≤ 129 := by have := HML.out; omega
            have HSS := hid (sameSets_c _ _ M M w3 ((HM.out.below hb3 HM.out.lt).sets M.length) (hN.sets M.length) (by omega) (by omega))
            rw [decide_eq_true (rfl : M = M)] at HSS
            clear hS2 hN hnl h3
            go_wp2_with fail
            refine HSS.out.mono ?_
            rintro e w4 ⟨rfl, hb4⟩
            have hB4 := hB3.trans (hb4.mono hB3.size)
            go_wp2_with fail
            refine (HW.out w4 hB4).mono ?_
            rintro e w5 ⟨rfl, hb5⟩
            have hB5 := hB4.trans (hb5.mono hB4.size)
            go_wp2_with fail
            go_ret
            exact ⟨rfl, hB5⟩
end Go.Proofs.YthgkklahiclcpaaDoor
