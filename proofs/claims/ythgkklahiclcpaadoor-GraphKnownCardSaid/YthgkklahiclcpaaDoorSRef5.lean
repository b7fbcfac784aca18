/- Walks: the reference of the layer graph: orders with the least cost. -/
import Derived.Test.YthgkklahiclcpaaDoorSRef4
namespace Go.Proofs.YthgkklahiclcpaaDoor
open Go.RowKit
attribute [local go_sem ↓] run_eqlS run_neqS run_eqlS0 run_neqS0

theorem own_ne_box {w : World} {base : Nat} {e : TypeId} {size : Nat} {v : Value} {n : Nat} {xs : List Value} (h : w.ownsRow base e size v n xs) {b : Nat} {cs : Array Value} {t : TypeId} {fr : Nat × Nat} (hb : w.heap[b]? = some (.cells cs t fr)) (ht : t ≠ e) : v.ownBlock ≠ some b := by
  rcases h.2 with ⟨rfl, _⟩ | ⟨g, cap, cur, rfl, _, hg, _⟩
  · simp [Value.ownBlock]
  · intro e'
    obtain rfl : g = b := by simpa [Value.ownBlock] using e'
    rw [hb] at hg
    injection hg with hg; injection hg with _ e2 _
    exact ht e2
theorem SetsAt.kept {w w' : World} {v : Value} {L : List VS} {row : Option Nat} (h : SetsAt w v L) (hg : w.grownBy w' row) (hne : ∀ x n c, v = .slice (some x) n c → some x.block ≠ row) : SetsAt w' v L := by
  obtain ⟨p, c, rfl, hh⟩ := h
  refine ⟨p, c, rfl, ?_⟩
  rcases hh with hh | ⟨b, off, rfl, hc⟩
  · exact .inl hh
  · refine .inr ⟨b, off, rfl, fun i hi => ?_⟩
    have h1 := hc i hi
    have hb := hg.block b (cell_lt h1.lo) (hne _ _ _ rfl)
    exact ⟨(World.cell?_of_block (w := w) hb).trans h1.lo, (World.cell?_of_block (w := w) hb).trans h1.hi⟩
def pickUp (cost : Int → Int) (s : VS) (k : Nat) : Int × Int := (memsTo s k).foldl (pickStep cost) (0, 0)
theorem pickUp_yes (cost : Int → Int) (s : VS) (k : Nat) (h : has s ((k : Int) + 1) = true) : pickUp cost s (k + 1) = pickStep cost (pickUp cost s k) ((k : Int) + 1) := by
  unfold pickUp; rw [memsTo_yes s k h, List.foldl_append]; rfl
theorem pickUp_no (cost : Int → Int) (s : VS) (k : Nat) (h : has s ((k : Int) + 1) = false) : pickUp cost s (k + 1) = pickUp cost s k := by
  unfold pickUp; rw [memsTo_no s k h]
theorem memsTo_top {s : VS} {n : Nat} (hn : n ≤ 128) (h : ∀ v, has s v = true → v ≤ (n : Int)) : memsTo s n = mems s := by
  rw [← memsTo_all]
  have : ∀ d, n + d ≤ 128 → memsTo s (n + d) = memsTo s n := by
    intro d
    induction d with
    | zero => intro _; rfl
    | succ d ih =>
      intro hd
      rw [← Nat.add_assoc, memsTo_no s (n + d) ?_, ih (by omega)]
      cases e : has s (((n + d : Nat) : Int) + 1) with
      | false => rfl
      | true => have := h _ e; omega
  have := this (128 - n) (by omega)
  rw [show n + (128 - n) = 128 by omega] at this
  exact this.symm
theorem pickUp_top {cost : Int → Int} {s : VS} {n : Nat} (hn : n ≤ 128) (h : ∀ v, has s v = true → v ≤ (n : Int)) : pickUp cost s n = pick cost (mems s) := by
  unfold pickUp pick; rw [memsTo_top hn h]
/-- What stands in a round of the reference's order. -/
structure RoSt (w wr : World) (cost : Gr → Int → Int) (n : Nat) (O : List Int) (u o : Value) (l : List Int) (M : List VS) (s : VS) : Prop where
  says : O = l ++ orderF cost (129 - l.length) (gOf M) s
  cnt : (l.length : Int) + len s = (n : Int)
  left : ∀ v, has s v = true ↔ (1 ≤ v ∧ v ≤ (n : Int)) ∧ v ∉ l
  ok : ValidG M
  len : M.length = n + 1
  row : SetsAt wr u M
  far : ∀ x k c, u = .slice (some x) k c → x.block < w.heap.size ∨ ∃ cs, wr.heap[x.block]? = some (.cells cs 35 (0, 0))
  own : NewInts wr w.heap.size o l
  low : Below w.heap.size w wr
theorem RoSt.below {w wr wr' : World} {cost : Gr → Int → Int} {n : Nat} {O : List Int} {u o : Value} {l : List Int} {M : List VS} {s : VS} (h : RoSt w wr cost n O u o l M s) (hb : Below wr.heap.size wr wr') : RoSt w wr' cost n O u o l M s :=
  ⟨h.says, h.cnt, h.left, h.ok, h.len, h.row.below hb, fun x k c e => (h.far x k c e).imp id fun ⟨cs, hc⟩ => ⟨cs, (hb.block _ (Array.getElem?_eq_some_iff.1 hc).1).trans hc⟩, h.own.below hb (Nat.le_refl _), h.low.trans (hb.mono h.low.size)⟩
set_option maxRecDepth 100000 in
set_option maxHeartbeats 4000000 in
theorem rOrderFill_c (v : Value) (L : List VS) (w : World) (hI : SetsAt w v L) (hL : L.length ≤ 140737488355328) :
    Calls Tryd.prog 43 #[v, .bool true] w (OrderPost fillC L w) := by
  obtain ⟨i0, hi, hz0, hz1, hz2⟩ := info_parts info_int
  obtain ⟨cost, hcost⟩ : ∃ cost, cost = fillC := ⟨_, rfl⟩
  rw [← hcost]
  have HCO := hid hcost
  clear hcost
  have HV := hid (rValid_c v L w hI hL)
  have hI0 := hI
  obtain ⟨p, c, rfl, hdrop⟩ := id hI
  clear hdrop
  cases hv : validG L
  · rw [hv] at HV
    have HW := hid (orderP_no (cost := cost) hv)
    clear hv
    go_enter Tryd.func43, Tryd.ntmps43
    go_wp2_with fail
    refine HV.out.mono ?_
    rintro e w2 ⟨rfl, hb2⟩
    go_wp2_with fail
    go_ret
    exact ⟨.slice none 0 0, rfl, by rw [HW.out]; exact ⟨World.ownsRow_nil _ _ _ _, by simp⟩, hb2⟩
  · rw [hv] at HV
    have HVL := hid (validG_iff.1 hv)
    have hp := HVL.out.pos
    have hle := HVL.out.le
    have HW := hid (orderP_yes (cost := cost) hv)
    obtain ⟨n, hn⟩ : ∃ n, L.length = n + 1 := ⟨L.length - 1, by omega⟩
    have HNL := hid hn
    have hn128 : n ≤ 128 := by omega
    have HA := hid (len_allL HVL.out)
    have HEQ : Hid ((L.length : Int) - 1 = (n : Int)) := hid (by show _ = _; omega)
    have hsub : IntKind.i64.wrap ((L.length : Int) - 1) = (n : Int) := by rw [IntKind.wrap_i64]; omega
    have hfar : ∀ x k c', Value.slice p L.length c = .slice (some x) k c' → x.block < w.heap.size := by
      obtain ⟨b, off, c1, e1, hb⟩ := hI0.form hp
      intro x k c' e
      rw [e] at e1
      injection e1 with e1 _ _
      injection e1 with e1
      rw [e1]; exact hb
    have HFAR := hid hfar
    clear hv hI hfar hn
    go_enter Tryd.func43, Tryd.ntmps43
    go_wp2_with fail
    refine HV.out.mono ?_
    rintro e w2 ⟨rfl, hb2⟩
    have hI2 := hI0.below hb2
    have hst0 : RoSt w w2 cost n (orderP cost L) (.slice p L.length c) (.slice none 0 0) [] L (allV (n : Int)) := by
      refine ⟨by rw [HW.out, HEQ.out]; rfl, by rw [← HEQ.out, HA.out]; simp <;> omega, fun v => ?_, HVL.out, HNL.out, hI2, fun x k c' e => .inl (HFAR.out x k c' e), ⟨World.ownsRow_nil _ _ _ _, by simp⟩, hb2⟩
      rw [has_allV]
      simp only [Bool.and_eq_true, decide_eq_true_eq]
      constructor
      · rintro ⟨⟨h1, h2⟩, h3⟩; exact ⟨⟨h2, h1⟩, by simp⟩
      · rintro ⟨⟨h1, h2⟩, _⟩; exact ⟨⟨h2, h1⟩, by omega⟩
    clear HV hI0 hb2 hI2
    have hc0 : (L.length : Int) - 1 = (n : Int) := HEQ.out
    go_wp2_with fail
    go_loopw [0, 6] (fun u o wr => ∃ (l : List Int) (M : List VS) (s : VS), RoSt w wr cost n (orderP cost L) u o l M s) (fun _ o _ => 129 - lenV o)
    case atStart => exact ⟨[], L, _, hst0⟩
    case round =>
      clear hst0
      obtain ⟨l, M, s, st⟩ := hrel
      obtain ⟨pu, cu, hu, hdrop⟩ := st.own.ints
      subst hu
      clear hdrop
      obtain ⟨gb, go, gc, hform, hgb⟩ := st.row.form (by rw [st.len]; omega)
      subst hform
      have hln : l.length ≤ 128 := by have := st.cnt; have := len_pos (s := s); omega
      have HST := hid st
      by_cases hlt : l.length < n
      · have HZ := hid (show s ≠ 0 from fun e => by have := st.cnt; rw [e, len_zero] at this; omega)
        have hB := st.low
        clear st
        go_wp2_with fail
        obtain ⟨wo, hwo⟩ : ∃ wo : World, wo = wr := ⟨_, rfl⟩
        have HSO := HST
        rw [← hwo] at HSO
        go_loopw [7, 8, 9] (fun b y i wq => ∃ k : Nat, k ≤ n ∧ i = .int .i64 ((k : Int) + 1) ∧ b = .int .i64 (pickUp (cost (gOf M)) s k).1 ∧ y = .int .i64 (pickUp (cost (gOf M)) s k).2 ∧ RoSt w wq cost n (orderP cost L) (.slice (some ⟨gb, go, none⟩) M.length gc) (.slice pu l.length cu) l M s) (fun _ _ i _ => 130 - (intOf i).toNat)
        case atStart => exact ⟨0, Nat.zero_le _, rfl, rfl, rfl, HST.out⟩
        case round =>
          clear HST HSO hwo hB
          obtain ⟨k, hk, rfl, rfl, rfl, st⟩ := hrel
          have HST := hid st
          by_cases hkn : k < n
          · have d1 : decide ((k : Int) + 1 ≤ (n : Int)) = true := decide_eq_true (by omega)
            have HO := hid (rOf_c _ l wr st.own.ints (by omega))
            have HH := hid (fun w' => rHas_c (ofL l) ((k : Int) + 1) w')
            have HHS : Hid (has s ((k : Int) + 1) = !(has (ofL l) ((k : Int) + 1))) := by
              show _ = _
              rw [has_ofL, Bool.eq_iff_iff, st.left]
              simp only [Bool.not_eq_true', Bool.and_eq_false_iff, decide_eq_false_iff_not]
              constructor
              · rintro ⟨_, h⟩; exact .inl (.inl h)
              · rintro ((h | h) | h)
                · exact ⟨by omega, h⟩
                · omega
                · omega
            clear st
            cases hh : has (ofL l) ((k : Int) + 1)
            · rw [hh] at HH HHS
              have HPS := hid (pickUp_yes (cost (gOf M)) s k HHS.out)
              clear hh
              go_wp2_with fail
              refine HO.out.mono ?_
              rintro e w3 ⟨rfl, hb3⟩
              have hs3 := HST.out.below hb3
              clear hb3 HO HST
              go_wp2_with fail
              refine (HH.out w3).mono ?_
              rintro e w4 ⟨rfl, hb4⟩
              have hs4 := hs3.below hb4
              clear hb4 HH hs3
              obtain ⟨un, hun⟩ : ∃ un : Nat, un = k + 1 := ⟨_, rfl⟩
              have hlu : un < M.length := by rw [hs4.len]; omega
              have hue : (k : Int) + 1 = (un : Int) := by omega
              obtain ⟨t, hgt, r0, r1⟩ := hs4.row.get un hlu
              have zu : (0 : Int) ≤ (k : Int) + 1 ∧ (k : Int) + 1 < (M.length : Int) := by omega
              have zt : ((k : Int) + 1).toNat = un := by omega
              have HGT := hid hgt
              have HUE := hid hue
              have HLU := hid hlu
              have HS4 := hid hs4
              clear hs4 hgt hue hun hlu
              go_wp2_with fail
              refine (rLen_c t w4).mono ?_
              rintro e w5 ⟨rfl, hb5⟩
              have hs5 := HS4.out.below hb5
              clear r0 r1 hb5 HS4
              have HMI := hid (rMissing_c _ M un w5 hs5.row HLU.out (fun x hx => by have := hs5.ok.range hx; omega) (by rw [hs5.len]; omega))
              rw [← HUE.out] at HMI
              have hcm := hid (fillC_miss hs5.ok.sym ((k : Int) + 1))
              have hcb : ((missP (gOf M) ((k : Int) + 1)).length : Int) ≤ 16384 := by
                have h1 := missTo_length (gOf M) (mems (gOf M ((k : Int) + 1))) (mems (gOf M ((k : Int) + 1))).length (mems_length _)
                have h2 := mems_length (gOf M ((k : Int) + 1))
                unfold missP
                omega
              go_wp2_with fail
              refine HMI.out.mono ?_
              rintro e w6 ⟨u6, rfl, hn6, hb6⟩
              have hs6 := hs5.below hb6
              obtain ⟨p6, c6, e6, hdrop⟩ := hn6.ints
              subst e6
              clear hdrop hn6 hb6 hs5 HMI
              obtain ⟨m6, hm6⟩ : ∃ m6 : Nat, m6 = (flat (missP (gOf M) ((k : Int) + 1))).length := ⟨_, rfl⟩
              rw [← hm6]
              have HCV : Hid ((m6 : Int) = cost (gOf M) ((k : Int) + 1)) := by
                show _ = _
                rw [HCO.out, hcm.out, hm6, flat_length]; push_cast; rfl
              clear hm6 hcm hcb
              have HS6 := hid hs6
              have hcr := len_pos (s := t)
              generalize hpk : pickUp (cost (gOf M)) s k = pk at *
              obtain ⟨b1, b2⟩ := pk
              clear hpk
              by_cases h0 : b1 = 0
              · have e0 : (b1 == 0) = true := by simp [h0]
                have HN : Hid (pickUp (cost (gOf M)) s (k + 1) = ((k : Int) + 1, cost (gOf M) ((k : Int) + 1))) := by
                  show _ = _
                  rw [HPS.out]; unfold pickStep; rw [if_pos (.inl h0)]
                clear h0 hs6
                go_wp2_with fail
                go_roundw
                case rel => exact ⟨k + 1, by omega, by go_num, by rw [HN.out], by rw [HN.out, ← HCV.out], HS6.out⟩
                case measure => simp [intOf]; omega
              · have e0 : (b1 == 0) = false := by simp [h0]
                by_cases h1 : (m6 : Int) < b2
                · have d2 : decide ((m6 : Int) < b2) = true := decide_eq_true h1
                  have HN : Hid (pickUp (cost (gOf M)) s (k + 1) = ((k : Int) + 1, cost (gOf M) ((k : Int) + 1))) := by
                    show _ = _
                    rw [HPS.out]; unfold pickStep; rw [if_pos (.inr (by rw [← HCV.out]; exact h1))]
                  clear h0 h1 hs6
                  go_wp2_with fail
                  go_roundw
                  case rel => exact ⟨k + 1, by omega, by go_num, by rw [HN.out], by rw [HN.out, ← HCV.out], HS6.out⟩
                  case measure => simp [intOf]; omega
                · have d2 : decide ((m6 : Int) < b2) = false := decide_eq_false h1
                  have HN : Hid (pickUp (cost (gOf M)) s (k + 1) = (b1, b2)) := by
                    show _ = _
                    rw [HPS.out]; unfold pickStep; rw [if_neg (by rw [← HCV.out]; rintro (h | h); exact h0 h; exact h1 h)]
                  clear h0 h1 hs6
                  go_wp2_with fail
                  go_roundw
                  case rel => exact ⟨k + 1, by omega, by go_num, by rw [HN.out], by rw [HN.out], HS6.out⟩
                  case measure => simp [intOf]; omega
            · rw [hh] at HH HHS
              have HPS := hid (pickUp_no (cost (gOf M)) s k HHS.out)
              clear hh
              go_wp2_with fail
              refine HO.out.mono ?_
              rintro e w3 ⟨rfl, hb3⟩
              have hs3 := HST.out.below hb3
              clear hb3 HO HST
              go_wp2_with fail
              refine (HH.out w3).mono ?_
              rintro e w4 ⟨rfl, hb4⟩
              have hs4 := hs3.below hb4
              clear hb4 HH hs3
              go_wp2_with fail
              go_roundw
              case rel => exact ⟨k + 1, by omega, by go_num, by rw [HPS.out], by rw [HPS.out], hs4⟩
              case measure => simp [intOf]; omega
          · obtain rfl : k = n := by omega
            have d1 : decide ((k : Int) + 1 ≤ (k : Int)) = false := decide_eq_false (by omega)
            have hbs := best_spec (cost := cost) (g := gOf M) (left := s) HZ.out
            have hbe : (pickUp (cost (gOf M)) s k).1 = best cost (gOf M) s := by rw [pickUp_top hn128 (fun v hv => ((st.left v).1 hv).1.2)]; rfl
            rw [hbe]
            have hru := ((st.left _).1 hbs.1).1
            obtain ⟨bn, hbn⟩ : ∃ bn : Nat, best cost (gOf M) s = (bn : Int) := ⟨(best cost (gOf M) s).toNat, by omega⟩
            have hstep := orderF_step (cost := cost) (k := 128 - l.length) (g := gOf M) HZ.out
            rw [hbn] at hbs hru hstep
            rw [hbn]
            have hlu : bn < M.length := by rw [st.len]; omega
            have HLU := hid hlu
            have HBS := hid hbs.1
            have HSTEP := hid hstep
            have hsz := st.low.size
            have hown := st.own.1
            have hfar := st.far _ _ _ rfl
            have hltl := hown.lt
            have HFR := hid hfar
            clear hbs hstep hbe hru hbn st hlu hfar
            go_wp2_with (at_builtin; refine wpList_append_own _ rfl _ _ 25 rfl w.heap.size 3 i0 (.int .i64 0) 1 8 Tryd.underlying25 hi hz0 hz1 hz2 rfl (by decide) _ _ _ rfl (hown.alloc _) ⟨wr.heap.size, 0, none⟩ 1 1 [.int .i64 (bn : Int)] rfl rfl (World.news_of_block (heap_alloc_new _ _)) (by simp [Value.oneCell']) (by unfold maxLen; omega) (by omega) (by simp; omega) ?_; intro v' w13 hown' hgrow _; obtain ⟨g', cap', rfl⟩ := ownsRow_succ hown')
            have hfar2 : (Value.slice pu l.length cu).ownBlock ≠ some gb := by
              rcases HFR.out with h | ⟨cs, h⟩
              · intro e
                have := (hltl gb e).1
                exact absurd h (by show ¬ gb < w.heap.size; omega)
              · exact own_ne_box hown h (by decide)
            have hR13 : SetsAt w13 (.slice (some ⟨gb, go, none⟩) M.length gc) M := (HST.out.row.below ((Below.refl _ wr).alloc (Nat.le_refl _) (.cells #[.int .i64 (bn : Int)] 3))).kept hgrow (fun x k' c' e => by
              injection e with e _ _
              injection e with e
              rw [← e]
              exact fun h => hfar2 h.symm)
            have hB13 := (HST.out.low.alloc hsz (.cells #[.int .i64 (bn : Int)] 3)).grown hgrow (by simp; omega) (fun k' e => by have := (hltl k' e).1; omega)
            have HE := hid (rEliminate_c _ M bn w13 hR13 HLU.out HST.out.ok)
            have hN13 : NewInts w13 w.heap.size (.slice (some ⟨g', 0, none⟩) (l.length + 1) cap') (l ++ [(bn : Int)]) := ⟨by simpa using hown', by simp⟩
            clear hown hown' hgrow hfar2 hR13 HFR
            refine HE.out.mono ?_
            rintro e w14 ⟨g14, c14, rfl, hg14, hR14, hb14, hc14, hm14⟩
            have hw := len_without HBS.out
            have hlm := HST.out.len
            have hst : RoSt w w14 cost k (orderP cost L) (.slice (some ⟨g14, 0, none⟩) (elR M (bn : Int)).length c14) (.slice (some ⟨g', 0, none⟩) (l.length + 1) cap') (l ++ [(bn : Int)]) (elR M (bn : Int)) (withoutV s (bn : Int)) := by
              have hr1 := ((HST.out.left _).1 HBS.out)
              refine ⟨?_, by rw [List.length_append, hw]; have := HST.out.cnt; simp; omega, fun v => ?_, elR_valid HST.out.ok (by omega) (by omega), (elR_length M _).trans hlm, hR14.sets c14, fun x k' c' e => .inr ?_, hN13.below hb14 (Nat.le_refl _), hB13.trans (hb14.mono hB13.size)⟩
              · have h1 := HST.out.says
                have h2 := HSTEP.out
                rw [show 128 - l.length + 1 = 129 - l.length by omega] at h2
                rw [h1, h2, gOf_elR HST.out.ok (by omega) (by omega), List.length_append, List.append_assoc, show 129 - (l.length + [(bn : Int)].length) = 128 - l.length by simp <;> omega]
                rfl
              · rw [has_withoutV]
                simp only [Bool.and_eq_true, Bool.not_eq_true', decide_eq_false_iff_not, HST.out.left, List.mem_append, List.mem_singleton, not_or, and_assoc]
              · injection e with e _ _
                injection e with e
                rw [← e]
                obtain ⟨cur, hcur, _⟩ := hR14
                exact ⟨cur, hcur⟩
            clear hR14 hb14 hN13 hB13 HE
            go_wp2_with fail
            go_roundw
            case rel => exact ⟨_, _, _, hst⟩
            case measure => simp [lenV]; omega
      · have HZ : Hid (orderP cost L = l) := by
          show _ = _
          have h1 := st.cnt
          have h2 := len_pos (s := s)
          rw [st.says, len_none (s := s) (by omega), orderF_end, List.append_nil]
        have hO := st.own
        have hB := st.low
        clear st
        go_wp2_with fail
        go_ret
        exact ⟨_, rfl, by rw [HZ.out]; exact hO, hB⟩
set_option maxRecDepth 100000 in
set_option maxHeartbeats 4000000 in
theorem rOrderDeg_c (v : Value) (L : List VS) (w : World) (hI : SetsAt w v L) (hL : L.length ≤ 140737488355328) :
    Calls Tryd.prog 43 #[v, .bool false] w (OrderPost degC L w) := by
  obtain ⟨i0, hi, hz0, hz1, hz2⟩ := info_parts info_int
  obtain ⟨cost, hcost⟩ : ∃ cost, cost = degC := ⟨_, rfl⟩
  rw [← hcost]
  have HCO := hid hcost
  clear hcost
  have HV := hid (rValid_c v L w hI hL)
  have hI0 := hI
  obtain ⟨p, c, rfl, hdrop⟩ := id hI
  clear hdrop
  cases hv : validG L
  · rw [hv] at HV
    have HW := hid (orderP_no (cost := cost) hv)
    clear hv
    go_enter Tryd.func43, Tryd.ntmps43
    go_wp2_with fail
    refine HV.out.mono ?_
    rintro e w2 ⟨rfl, hb2⟩
    go_wp2_with fail
    go_ret
    exact ⟨.slice none 0 0, rfl, by rw [HW.out]; exact ⟨World.ownsRow_nil _ _ _ _, by simp⟩, hb2⟩
  · rw [hv] at HV
    have HVL := hid (validG_iff.1 hv)
    have hp := HVL.out.pos
    have hle := HVL.out.le
    have HW := hid (orderP_yes (cost := cost) hv)
    obtain ⟨n, hn⟩ : ∃ n, L.length = n + 1 := ⟨L.length - 1, by omega⟩
    have HNL := hid hn
    have hn128 : n ≤ 128 := by omega
    have HA := hid (len_allL HVL.out)
    have HEQ : Hid ((L.length : Int) - 1 = (n : Int)) := hid (by show _ = _; omega)
    have hsub : IntKind.i64.wrap ((L.length : Int) - 1) = (n : Int) := by rw [IntKind.wrap_i64]; omega
    have hfar : ∀ x k c', Value.slice p L.length c = .slice (some x) k c' → x.block < w.heap.size := by
      obtain ⟨b, off, c1, e1, hb⟩ := hI0.form hp
      intro x k c' e
      rw [e] at e1
      injection e1 with e1 _ _
      injection e1 with e1
      rw [e1]; exact hb
    have HFAR := hid hfar
    clear hv hI hfar hn
    go_enter Tryd.func43, Tryd.ntmps43
    go_wp2_with fail
    refine HV.out.mono ?_
    rintro e w2 ⟨rfl, hb2⟩
    have hI2 := hI0.below hb2
    have hst0 : RoSt w w2 cost n (orderP cost L) (.slice p L.length c) (.slice none 0 0) [] L (allV (n : Int)) := by
      refine ⟨by rw [HW.out, HEQ.out]; rfl, by rw [← HEQ.out, HA.out]; simp <;> omega, fun v => ?_, HVL.out, HNL.out, hI2, fun x k c' e => .inl (HFAR.out x k c' e), ⟨World.ownsRow_nil _ _ _ _, by simp⟩, hb2⟩
      rw [has_allV]
      simp only [Bool.and_eq_true, decide_eq_true_eq]
      constructor
      · rintro ⟨⟨h1, h2⟩, h3⟩; exact ⟨⟨h2, h1⟩, by simp⟩
      · rintro ⟨⟨h1, h2⟩, _⟩; exact ⟨⟨h2, h1⟩, by omega⟩
    clear HV hI0 hb2 hI2
    have hc0 : (L.length : Int) - 1 = (n : Int) := HEQ.out
    go_wp2_with fail
    go_loopw [0, 6] (fun u o wr => ∃ (l : List Int) (M : List VS) (s : VS), RoSt w wr cost n (orderP cost L) u o l M s) (fun _ o _ => 129 - lenV o)
    case atStart => exact ⟨[], L, _, hst0⟩
    case round =>
      clear hst0
      obtain ⟨l, M, s, st⟩ := hrel
      obtain ⟨pu, cu, hu, hdrop⟩ := st.own.ints
      subst hu
      clear hdrop
      obtain ⟨gb, go, gc, hform, hgb⟩ := st.row.form (by rw [st.len]; omega)
      subst hform
      have hln : l.length ≤ 128 := by have := st.cnt; have := len_pos (s := s); omega
      have HST := hid st
      by_cases hlt : l.length < n
      · have HZ := hid (show s ≠ 0 from fun e => by have := st.cnt; rw [e, len_zero] at this; omega)
        have hB := st.low
        clear st
        go_wp2_with fail
        obtain ⟨wo, hwo⟩ : ∃ wo : World, wo = wr := ⟨_, rfl⟩
        have HSO := HST
        rw [← hwo] at HSO
        go_loopw [7, 8, 9] (fun b y i wq => ∃ k : Nat, k ≤ n ∧ i = .int .i64 ((k : Int) + 1) ∧ b = .int .i64 (pickUp (cost (gOf M)) s k).1 ∧ y = .int .i64 (pickUp (cost (gOf M)) s k).2 ∧ RoSt w wq cost n (orderP cost L) (.slice (some ⟨gb, go, none⟩) M.length gc) (.slice pu l.length cu) l M s) (fun _ _ i _ => 130 - (intOf i).toNat)
        case atStart => exact ⟨0, Nat.zero_le _, rfl, rfl, rfl, HST.out⟩
        case round =>
          clear HST HSO hwo hB
          obtain ⟨k, hk, rfl, rfl, rfl, st⟩ := hrel
          have HST := hid st
          by_cases hkn : k < n
          · have d1 : decide ((k : Int) + 1 ≤ (n : Int)) = true := decide_eq_true (by omega)
            have HO := hid (rOf_c _ l wr st.own.ints (by omega))
            have HH := hid (fun w' => rHas_c (ofL l) ((k : Int) + 1) w')
            have HHS : Hid (has s ((k : Int) + 1) = !(has (ofL l) ((k : Int) + 1))) := by
              show _ = _
              rw [has_ofL, Bool.eq_iff_iff, st.left]
              simp only [Bool.not_eq_true', Bool.and_eq_false_iff, decide_eq_false_iff_not]
              constructor
              · rintro ⟨_, h⟩; exact .inl (.inl h)
              · rintro ((h | h) | h)
                · exact ⟨by omega, h⟩
                · omega
                · omega
            clear st
            cases hh : has (ofL l) ((k : Int) + 1)
            · rw [hh] at HH HHS
              have HPS := hid (pickUp_yes (cost (gOf M)) s k HHS.out)
              clear hh
              go_wp2_with fail
              refine HO.out.mono ?_
              rintro e w3 ⟨rfl, hb3⟩
              have hs3 := HST.out.below hb3
              clear hb3 HO HST
              go_wp2_with fail
              refine (HH.out w3).mono ?_
              rintro e w4 ⟨rfl, hb4⟩
              have hs4 := hs3.below hb4
              clear hb4 HH hs3
              obtain ⟨un, hun⟩ : ∃ un : Nat, un = k + 1 := ⟨_, rfl⟩
              have hlu : un < M.length := by rw [hs4.len]; omega
              have hue : (k : Int) + 1 = (un : Int) := by omega
              obtain ⟨t, hgt, r0, r1⟩ := hs4.row.get un hlu
              have zu : (0 : Int) ≤ (k : Int) + 1 ∧ (k : Int) + 1 < (M.length : Int) := by omega
              have zt : ((k : Int) + 1).toNat = un := by omega
              have HGT := hid hgt
              have HUE := hid hue
              have HLU := hid hlu
              have HS4 := hid hs4
              clear hs4 hgt hue hun hlu
              go_wp2_with fail
              refine (rLen_c t w4).mono ?_
              rintro e w5 ⟨rfl, hb5⟩
              have hs5 := HS4.out.below hb5
              clear r0 r1 hb5 HS4
              have HCV : Hid (len t = cost (gOf M) ((k : Int) + 1)) := by
                show _ = _
                rw [HCO.out, HUE.out]; unfold degC; rw [HGT.out]
              have hs6 := hs5
              clear hs5
              generalize len t = dt at *
              have HS6 := hid hs6
              have hcr := len_pos (s := t)
              generalize hpk : pickUp (cost (gOf M)) s k = pk at *
              obtain ⟨b1, b2⟩ := pk
              clear hpk
              by_cases h0 : b1 = 0
              · have e0 : (b1 == 0) = true := by simp [h0]
                have HN : Hid (pickUp (cost (gOf M)) s (k + 1) = ((k : Int) + 1, cost (gOf M) ((k : Int) + 1))) := by
                  show _ = _
                  rw [HPS.out]; unfold pickStep; rw [if_pos (.inl h0)]
                clear h0 hs6
                go_wp2_with fail
                go_roundw
                case rel => exact ⟨k + 1, by omega, by go_num, by rw [HN.out], by rw [HN.out, ← HCV.out], HS6.out⟩
                case measure => simp [intOf]; omega
              · have e0 : (b1 == 0) = false := by simp [h0]
                by_cases h1 : dt < b2
                · have d2 : decide (dt < b2) = true := decide_eq_true h1
                  have HN : Hid (pickUp (cost (gOf M)) s (k + 1) = ((k : Int) + 1, cost (gOf M) ((k : Int) + 1))) := by
                    show _ = _
                    rw [HPS.out]; unfold pickStep; rw [if_pos (.inr (by rw [← HCV.out]; exact h1))]
                  clear h0 h1 hs6
                  go_wp2_with fail
                  go_roundw
                  case rel => exact ⟨k + 1, by omega, by go_num, by rw [HN.out], by rw [HN.out, ← HCV.out], HS6.out⟩
                  case measure => simp [intOf]; omega
                · have d2 : decide (dt < b2) = false := decide_eq_false h1
                  have HN : Hid (pickUp (cost (gOf M)) s (k + 1) = (b1, b2)) := by
                    show _ = _
                    rw [HPS.out]; unfold pickStep; rw [if_neg (by rw [← HCV.out]; rintro (h | h); exact h0 h; exact h1 h)]
                  clear h0 h1 hs6
                  go_wp2_with fail
                  go_roundw
                  case rel => exact ⟨k + 1, by omega, by go_num, by rw [HN.out], by rw [HN.out], HS6.out⟩
                  case measure => simp [intOf]; omega
            · rw [hh] at HH HHS
              have HPS := hid (pickUp_no (cost (gOf M)) s k HHS.out)
              clear hh
              go_wp2_with fail
              refine HO.out.mono ?_
              rintro e w3 ⟨rfl, hb3⟩
              have hs3 := HST.out.below hb3
              clear hb3 HO HST
              go_wp2_with fail
              refine (HH.out w3).mono ?_
              rintro e w4 ⟨rfl, hb4⟩
              have hs4 := hs3.below hb4
              clear hb4 HH hs3
              go_wp2_with fail
              go_roundw
              case rel => exact ⟨k + 1, by omega, by go_num, by rw [HPS.out], by rw [HPS.out], hs4⟩
              case measure => simp [intOf]; omega
          · obtain rfl : k = n := by omega
            have d1 : decide ((k : Int) + 1 ≤ (k : Int)) = false := decide_eq_false (by omega)
            have hbs := best_spec (cost := cost) (g := gOf M) (left := s) HZ.out
            have hbe : (pickUp (cost (gOf M)) s k).1 = best cost (gOf M) s := by rw [pickUp_top hn128 (fun v hv => ((st.left v).1 hv).1.2)]; rfl
            rw [hbe]
            have hru := ((st.left _).1 hbs.1).1
            obtain ⟨bn, hbn⟩ : ∃ bn : Nat, best cost (gOf M) s = (bn : Int) := ⟨(best cost (gOf M) s).toNat, by omega⟩
            have hstep := orderF_step (cost := cost) (k := 128 - l.length) (g := gOf M) HZ.out
            rw [hbn] at hbs hru hstep
            rw [hbn]
            have hlu : bn < M.length := by rw [st.len]; omega
            have HLU := hid hlu
            have HBS := hid hbs.1
            have HSTEP := hid hstep
            have hsz := st.low.size
            have hown := st.own.1
            have hfar := st.far _ _ _ rfl
            have hltl := hown.lt
            have HFR := hid hfar
            clear hbs hstep hbe hru hbn st hlu hfar
            go_wp2_with (at_builtin; refine wpList_append_own _ rfl _ _ 25 rfl w.heap.size 3 i0 (.int .i64 0) 1 8 Tryd.underlying25 hi hz0 hz1 hz2 rfl (by decide) _ _ _ rfl (hown.alloc _) ⟨wr.heap.size, 0, none⟩ 1 1 [.int .i64 (bn : Int)] rfl rfl (World.news_of_block (heap_alloc_new _ _)) (by simp [Value.oneCell']) (by unfold maxLen; omega) (by omega) (by simp; omega) ?_; intro v' w13 hown' hgrow _; obtain ⟨g', cap', rfl⟩ := ownsRow_succ hown')
            have hfar2 : (Value.slice pu l.length cu).ownBlock ≠ some gb := by
              rcases HFR.out with h | ⟨cs, h⟩
              · intro e
                have := (hltl gb e).1
                exact absurd h (by show ¬ gb < w.heap.size; omega)
              · exact own_ne_box hown h (by decide)
            have hR13 : SetsAt w13 (.slice (some ⟨gb, go, none⟩) M.length gc) M := (HST.out.row.below ((Below.refl _ wr).alloc (Nat.le_refl _) (.cells #[.int .i64 (bn : Int)] 3))).kept hgrow (fun x k' c' e => by
              injection e with e _ _
              injection e with e
              rw [← e]
              exact fun h => hfar2 h.symm)
            have hB13 := (HST.out.low.alloc hsz (.cells #[.int .i64 (bn : Int)] 3)).grown hgrow (by simp; omega) (fun k' e => by have := (hltl k' e).1; omega)
            have HE := hid (rEliminate_c _ M bn w13 hR13 HLU.out HST.out.ok)
            have hN13 : NewInts w13 w.heap.size (.slice (some ⟨g', 0, none⟩) (l.length + 1) cap') (l ++ [(bn : Int)]) := ⟨by simpa using hown', by simp⟩
            clear hown hown' hgrow hfar2 hR13 HFR
            refine HE.out.mono ?_
            rintro e w14 ⟨g14, c14, rfl, hg14, hR14, hb14, hc14, hm14⟩
            have hw := len_without HBS.out
            have hlm := HST.out.len
            have hst : RoSt w w14 cost k (orderP cost L) (.slice (some ⟨g14, 0, none⟩) (elR M (bn : Int)).length c14) (.slice (some ⟨g', 0, none⟩) (l.length + 1) cap') (l ++ [(bn : Int)]) (elR M (bn : Int)) (withoutV s (bn : Int)) := by
              have hr1 := ((HST.out.left _).1 HBS.out)
              refine ⟨?_, by rw [List.length_append, hw]; have := HST.out.cnt; simp; omega, fun v => ?_, elR_valid HST.out.ok (by omega) (by omega), (elR_length M _).trans hlm, hR14.sets c14, fun x k' c' e => .inr ?_, hN13.below hb14 (Nat.le_refl _), hB13.trans (hb14.mono hB13.size)⟩
              · have h1 := HST.out.says
                have h2 := HSTEP.out
                rw [show 128 - l.length + 1 = 129 - l.length by omega] at h2
                rw [h1, h2, gOf_elR HST.out.ok (by omega) (by omega), List.length_append, List.append_assoc, show 129 - (l.length + [(bn : Int)].length) = 128 - l.length by simp <;> omega]
                rfl
              · rw [has_withoutV]
                simp only [Bool.and_eq_true, Bool.not_eq_true', decide_eq_false_iff_not, HST.out.left, List.mem_append, List.mem_singleton, not_or, and_assoc]
              · injection e with e _ _
                injection e with e
                rw [← e]
                obtain ⟨cur, hcur, _⟩ := hR14
                exact ⟨cur, hcur⟩
            clear hR14 hb14 hN13 hB13 HE
            go_wp2_with fail
            go_roundw
            case rel => exact ⟨_, _, _, hst⟩
            case measure => simp [lenV]; omega
      · have HZ : Hid (orderP cost L = l) := by
          show _ = _
          have h1 := st.cnt
          have h2 := len_pos (s := s)
          rw [st.says, len_none (s := s) (by omega), orderF_end, List.append_nil]
        have hO := st.own
        have hB := st.low
        clear st
        go_wp2_with fail
        go_ret
        exact ⟨_, rfl, by rw [HZ.out]; exact hO, hB⟩
end Go.Proofs.YthgkklahiclcpaaDoor
