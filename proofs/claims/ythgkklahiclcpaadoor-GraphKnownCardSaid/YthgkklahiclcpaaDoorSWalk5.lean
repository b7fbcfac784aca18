/- Walks: orders. -/
import Derived.Test.YthgkklahiclcpaaDoorSWalk4
import Derived.Test.YthgkklahiclcpaaDoorRWalk6
import Derived.Deep.AppendLies
namespace Go.Proofs.YthgkklahiclcpaaDoor
open Go.RowKit
attribute [local go_sem ↓] run_eqlS run_neqS run_eqlS0 run_neqS0

def lenV : Value → Nat
  | .slice _ n _ => n
  | _ => 0
/-- What stands in a round of order. -/
structure OrSt (w wr : World) (B g pn n : Nat) (cost : Gr → Int → Int) (O : List Int) (u : Value) (l : List Int) (M : List VS) (s : VS) : Prop where
  says : O = l ++ orderF cost (129 - l.length) (gOf M) s
  fit : (l.length : Int) + len s ≤ 128
  ok : ValidG M
  len : M.length = n
  sub : ∀ v, has s v = true → v < (n : Int)
  row : SetRow wr g M
  var : SetVar wr pn s
  own : NewInts wr B u l
  low : Below w.heap.size w wr
  sz : B ≤ wr.heap.size
theorem own_far {w : World} {base : Nat} {e : TypeId} {size : Nat} {v : Value} {n : Nat} {xs : List Value} (h : w.ownsRow base e size v n xs) {row : Option Nat} (hr : ∀ k, row = some k → k < base) : v.ownBlock = none ∨ v.ownBlock ≠ row := by
  cases hv : v.ownBlock with
  | none => exact .inl rfl
  | some k =>
    refine .inr fun e' => ?_
    have h1 := (h.lt k hv).1
    have h2 := hr k e'.symm
    omega
theorem NewInts.keep {w w' : World} {B : Nat} {v : Value} {l : List Int} {row : Option Nat} (h : NewInts w B v l) (hg : w.grownBy w' row) (hr : ∀ k, row = some k → k < B) : NewInts w' B v l := ⟨h.1.kept hg (own_far h.1 hr), h.2⟩
def OrderPost (cost : Gr → Int → Int) (L : List VS) (w : World) (e : Ending) (w' : World) : Prop := ∃ v, e = .returned v ∧ NewInts w' w.heap.size v (orderP cost L) ∧ Below w.heap.size w w'
theorem orderF_end {cost : Gr → Int → Int} {k : Nat} {g : Gr} : orderF cost k g 0 = [] := by cases k <;> simp [orderF]
theorem orderF_step {cost : Gr → Int → Int} {k : Nat} {g : Gr} {s : VS} (h : s ≠ 0) : orderF cost (k + 1) g s = best cost g s :: orderF cost k (el g (best cost g s)) (withoutV s (best cost g s)) := by
  rw [orderF, if_neg h]
def pickTo (cost : Int → Int) (l : List Int) (k : Nat) : Int × Int := (l.take k).foldl (pickStep cost) (0, 0)
theorem pickTo_succ (cost : Int → Int) (l : List Int) (k : Nat) (h : k < l.length) : pickTo cost l (k + 1) = pickStep cost (pickTo cost l k) l[k] := by
  unfold pickTo
  rw [List.take_succ_eq_append_getElem h, List.foldl_append]; rfl
theorem pickTo_all (cost : Int → Int) (l : List Int) : pickTo cost l l.length = pick cost l := by unfold pickTo pick; rw [List.take_length]
set_option maxRecDepth 100000 in
set_option maxHeartbeats 4000000 in
theorem orderFill_c (v : Value) (L : List VS) (w : World) (hI : SetsAt w v L) (hT : TabAt w) (hL : L.length ≤ 140737488355328) :
    Calls Tryd.prog 38 #[v, .func (.func 39) #[] #[]] w (OrderPost fillC L w) := by
  obtain ⟨cost, hcost⟩ : ∃ cost, cost = fillC := ⟨_, rfl⟩
  have HCOST : CostIs 39 cost := hcost ▸ fill_c
  rw [← hcost]
  clear hcost
  obtain ⟨i0, hi, hz0, hz1, hz2⟩ := info_parts info_int
  have HV := hid (valid_c v L w hI hT hL)
  obtain ⟨p, c, rfl, hdrop⟩ := id hI
  clear hdrop
  cases hv : validG L
  · rw [hv] at HV
    have HW := hid (orderP_no (cost := cost) hv)
    clear hv
    go_enter Tryd.func38, Tryd.ntmps38
    go_wp2_with fail
    refine HV.out.mono ?_
    rintro e w2 ⟨rfl, hb2⟩
    go_wp2_with fail
    go_ret
    exact ⟨.slice none 0 0, rfl, by rw [HW.out]; exact ⟨World.ownsRow_nil _ _ _ _, by simp⟩, hb2⟩
  · rw [hv] at HV
    have HVL := hid (validG_iff.1 hv)
    have hp := HVL.out.pos
    have hle := HVL.out.le
    have HW := hid (orderP_yes (cost := cost) hv)
    have HA := hid (len_allL HVL.out)
    clear hv
    go_enter Tryd.func38, Tryd.ntmps38
    go_wp2_with fail
    refine HV.out.mono ?_
    rintro e w2 ⟨rfl, hb2⟩
    have hI2 := hI.below hb2
    clear HV hI
    go_wp2_with fail
    refine (Clone_c _ L w2 hI2 (by intro e; rw [e] at hp; simp at hp) (by omega)).mono ?_
    rintro e w5 ⟨g, cg, rfl, hg, hR5, hb5, hcl, hcm⟩
    have hB5 := hb2.trans (hb5.mono hb2.size)
    have hgw : w.heap.size ≤ g := Nat.le_trans hb2.size hg
    clear hb2 hI2 hb5 hg
    go_wp2_with fail
    refine (All_c ((L.length : Int) - 1) w5).mono ?_
    rintro e w6 ⟨rfl, hb6⟩
    have hR6 := hR5.below hb6 hR5.lt
    have hB6 := hB5.trans (hb6.mono hB5.size)
    clear hR5 hB5 hb6
    generalize hs0 : allV ((L.length : Int) - 1) = s0 at *
    have hbv : Below w6.heap.size w6 (w6.alloc (.cells #[.int .u64 ((lw s0).toNat : Int), .int .u64 ((hw s0).toNat : Int)] 35)) := (Below.refl _ w6).alloc (Nat.le_refl _) _
    have hS7 := SetVar.new w6 s0 35
    have hR7 := hR6.alloc (.cells #[.int .u64 ((lw s0).toNat : Int), .int .u64 ((hw s0).toNat : Int)] 35)
    have hB7 := hB6.trans (hbv.mono hB6.size)
    have hgl := hR6.lt
    have hst0 : OrSt w (w6.alloc (.cells #[.int .u64 ((lw s0).toNat : Int), .int .u64 ((hw s0).toNat : Int)] 35)) (w6.heap.size + 1) g w6.heap.size L.length cost (orderF cost 129 (gOf L) s0) (.slice none 0 0) [] L s0 :=
      ⟨rfl, by rw [HA.out]; simp; omega, HVL.out, rfl, fun v hv => by
        rw [← hs0, has_allV] at hv; simp at hv; omega, hR7, hS7, ⟨World.ownsRow_nil _ _ _ _, by simp⟩, hB7, by simp⟩
    have hs6 := hB6.size
    have HS0 := hid hs0
    clear hs0 hbv hS7 hR7 hB7 hR6
    go_wp2_with fail
    generalize w6.alloc (.cells #[.int .u64 ((lw s0).toNat : Int), .int .u64 ((hw s0).toNat : Int)] 35) = w7 at *
    go_loopw [6] (fun u wr => ∃ (l : List Int) (M : List VS) (s : VS), OrSt w wr (w6.heap.size + 1) g w6.heap.size L.length cost (orderF cost 129 (gOf L) s0) u l M s) (fun u _ => 129 - lenV u)
    case atStart => exact ⟨[], L, s0, hst0⟩
    case round =>
      clear hst0
      obtain ⟨l, M, s, st⟩ := hrel
      obtain ⟨pu, cu, hu, hdrop⟩ := st.own.ints
      subst hu
      clear hdrop
      obtain ⟨n0, n1, m0, m1⟩ := st.var.cells
      have hsz := st.sz
      have hTr := hT.below hT.lt st.low
      have HST := hid st
      cases hz : (s == 0#128)
      · have hz3 : ¬ s = 0#128 := by simpa using hz
        have HZ := hid hz3
        have HL8 := hid (List_c s wr hTr)
        clear st hz3
        go_wp2_with fail
        refine HL8.out.mono ?_
        rintro e w8 ⟨v8, rfl, hn8, hb8⟩
        obtain ⟨pm, cm, e4, hm⟩ := hn8.ints
        subst e4
        have HM := hid hm
        have hml := mems_length s
        have hR8 := HST.out.row.below hb8 HST.out.row.lt
        have hS8 := HST.out.var.below hb8 HST.out.var.lt
        have hO8 := HST.out.own.below hb8 (Nat.le_refl _)
        have hB8 := HST.out.low.trans (hb8.mono HST.out.low.size)
        have hT8 := hT.below hT.lt hB8
        have hsz8 := Nat.le_trans hsz hb8.size
        clear hm hn8 hb8 HL8 n0 n1 m0 m1 hz
        go_wp2_with fail
        go_loopw [7, 8, 27] (fun b y i wq => ∃ k : Nat, k ≤ (mems s).length ∧ i = .int .i64 k ∧ b = .int .i64 (pickTo (cost (gOf M)) (mems s) k).1 ∧ y = .int .i64 (pickTo (cost (gOf M)) (mems s) k).2 ∧ Below w8.heap.size w8 wq) (fun _ _ i _ => (mems s).length - (intOf i).toNat)
        case atStart => exact ⟨0, Nat.zero_le _, rfl, rfl, rfl, Below.refl _ _⟩
        case round =>
          obtain ⟨k, hk, rfl, rfl, rfl, hBq⟩ := hrel
          by_cases hkl : k < (mems s).length
          · obtain ⟨bm, om, rfl, hm⟩ := HM.out.resolve_left (by intro e; rw [e] at hkl; simp at hkl)
            have hc := hm k hkl
            rw [List.getElem?_eq_getElem hkl, Option.getD_some] at hc
            have hc2 := (hBq.cell (cell_lt hc)).trans hc
            have hmem : has s (mems s)[k] = true := (mem_mems _ _).1 (List.getElem_mem hkl)
            have hrg := has_range hmem
            have hru := HST.out.sub _ hmem
            obtain ⟨un, hun⟩ : ∃ un : Nat, (mems s)[k] = (un : Int) := ⟨((mems s)[k]).toNat, by omega⟩
            have HPS := hid (pickTo_succ (cost (gOf M)) (mems s) k hkl)
            rw [hun] at hc2 hru hrg HPS
            have hlu : un < M.length := by rw [HST.out.len]; omega
            have zk : (0 : Int) ≤ (k : Int) ∧ (k : Int) < ((mems s).length : Int) := by omega
            have HF := hid (HCOST g cg M un wr (hR8.below hBq hR8.lt) (hT8.below hT8.lt hBq) HST.out.ok hlu)
            rw [HST.out.len] at HF
            clear hm hc hmem hrg hru hun hlu
            generalize pickTo (cost (gOf M)) (mems s) k = pk at *
            obtain ⟨b1, b2⟩ := pk
            generalize hcv : cost (gOf M) (un : Int) = cv at *
            have HCV := hid hcv
            clear hcv
            by_cases h0 : b1 = 0
            · have e0 : (b1 == 0) = true := by simp [h0]
              have HN : Hid (pickTo (cost (gOf M)) (mems s) (k + 1) = ((un : Int), cv)) := by
                show _ = _
                rw [HPS.out]; unfold pickStep; rw [if_pos (.inl h0), HCV.out]
              clear h0
              go_wp2_with fail
              refine HF.out.mono ?_
              rintro e w9 ⟨rfl, hb9⟩
              go_wp2_with fail
              go_roundw
              case rel => exact ⟨k + 1, by omega, by go_num, by rw [HN.out], by rw [HN.out], hBq.trans (hb9.mono hBq.size)⟩
              case measure => simp [intOf]; omega
            · have e0 : (b1 == 0) = false := by simp [h0]
              by_cases h1 : cv < b2
              · have d1 : decide (cv < b2) = true := decide_eq_true h1
                have HN : Hid (pickTo (cost (gOf M)) (mems s) (k + 1) = ((un : Int), cv)) := by
                  show _ = _
                  rw [HPS.out]; unfold pickStep; rw [if_pos (.inr (by rw [HCV.out]; exact h1)), HCV.out]
                clear h0 h1
                go_wp2_with fail
                refine HF.out.mono ?_
                rintro e w9 ⟨rfl, hb9⟩
                go_wp2_with fail
                go_roundw
                case rel => exact ⟨k + 1, by omega, by go_num, by rw [HN.out], by rw [HN.out], hBq.trans (hb9.mono hBq.size)⟩
                case measure => simp [intOf]; omega
              · have d1 : decide (cv < b2) = false := decide_eq_false h1
                have HN : Hid (pickTo (cost (gOf M)) (mems s) (k + 1) = (b1, b2)) := by
                  show _ = _
                  rw [HPS.out]; unfold pickStep; rw [if_neg (by rw [HCV.out]; rintro (h | h); exact h0 h; exact h1 h)]
                clear h0 h1
                go_wp2_with fail
                refine HF.out.mono ?_
                rintro e w9 ⟨rfl, hb9⟩
                go_wp2_with fail
                go_roundw
                case rel => exact ⟨k + 1, by omega, by go_num, by rw [HN.out], by rw [HN.out], hBq.trans (hb9.mono hBq.size)⟩
                case measure => simp [intOf]; omega
          · obtain rfl : k = (mems s).length := by omega
            have hbs := best_spec (cost := cost) (g := gOf M) (left := s) HZ.out
            have hbe : (pickTo (cost (gOf M)) (mems s) (mems s).length).1 = best cost (gOf M) s := by rw [pickTo_all]; rfl
            rw [hbe]
            have hrg := has_range hbs.1
            have hru := HST.out.sub _ hbs.1
            obtain ⟨bn, hbn⟩ : ∃ bn : Nat, best cost (gOf M) s = (bn : Int) := ⟨(best cost (gOf M) s).toNat, by omega⟩
            have hstep := orderF_step (cost := cost) (k := 128 - l.length) (g := gOf M) HZ.out
            rw [hbn] at hbs hrg hru hstep
            rw [hbn]
            have hlu : bn < M.length := by rw [HST.out.len]; omega
            have hRr := hR8.below hBq hR8.lt
            have HE := hid (eliminate_c g cg M bn wr hRr (hT8.below hT8.lt hBq) (Nat.lt_of_lt_of_le hT.lt hgw) hlu (fun u hu => by have := HST.out.ok.range hu; omega) (by rw [HST.out.len]; exact hle))
            rw [HST.out.len] at HE
            have HEV := hid (elL_valid HST.out.ok (v := (bn : Int)) (by omega) (by rw [HST.out.len]; omega))
            have HEG := hid (gOf_elL HST.out.ok (v := (bn : Int)) (by omega) (by rw [HST.out.len]; omega))
            have HELL := hid ((elL_length M (bn : Int)).trans HST.out.len)
            have HBS := hid hbs.1
            have HSTEP := hid hstep
            have hSr := hS8.below hBq hS8.lt
            have hOr := hO8.below hBq (Nat.le_refl _)
            have hszr := Nat.le_trans hsz8 hBq.size
            have hBw := hB8.trans (hBq.mono hB8.size)
            clear hbs hstep hbe hkl hlu hrg hru hbn
            go_wp2_with fail
            refine HE.out.mono ?_
            rintro e w10 ⟨rfl, hR10, hg10⟩
            have hS10 := hSr.kept hg10 (by simp; omega)
            have hO10 := hOr.keep hg10 (fun k e => by injection e with e; omega)
            have hsz10 := Nat.le_trans hszr hg10.size
            have hB10 : Below w.heap.size w w10 := hBw.grown hg10 hBw.size (fun k e => by injection e with e; omega)
            obtain ⟨n0, n1, m0, m1⟩ := hS10.cells
            clear HE hRr hSr hOr hBq hR8 hS8 hO8 hB8 hszr hsz8 hT8 hTr
            go_wp2_with fail
            refine (Without_c s (bn : Int) w10).mono ?_
            rintro e w11 ⟨rfl, hb11⟩
            have hS11 := hS10.below hb11 hS10.lt
            have hO11 := hO10.below hb11 (Nat.le_refl _)
            have hR11 := hR10.below hb11 hR10.lt
            have hB11 := hB10.trans (hb11.mono hB10.size)
            have hsz11 := Nat.le_trans hsz10 hb11.size
            clear n0 n1 m0 m1 hS10 hO10 hR10 hB10 hb11 hsz10
            obtain ⟨n0, n1, m0, m1⟩ := hS11.cells
            have hg12 := grownBy_set2 w11 w6.heap.size 0 1 (.int .u64 ((lw (withoutV s (bn : Int))).toNat : Int)) (.int .u64 ((hw (withoutV s (bn : Int))).toNat : Int))
            have hO12 := hO11.keep hg12 (fun k e => by injection e with e; omega)
            have hS12 := hS11.store (withoutV s (bn : Int))
            have hR12 := hR11.kept hg12 (by simp; omega)
            have hB12 : Below w.heap.size w _ := hB11.grown hg12 hB11.size (fun k e => by injection e with e; omega)
            have hfit := HST.out.fit
            have hs0 := len_pos (s := s)
            clear hg12
            go_wp2_with (at_builtin; refine wpList_append_own _ rfl _ _ 25 rfl (w6.heap.size + 1) 3 i0 (.int .i64 0) 1 8 Tryd.underlying25 hi hz0 hz1 hz2 rfl (by decide) _ _ _ rfl (hO12.1.alloc _) ⟨w11.heap.size, 0, none⟩ 1 1 [.int .i64 (bn : Int)] rfl rfl (World.news_of_block (by have := heap_alloc_new ((w11.setCell ⟨w6.heap.size, 0, none⟩ (.int .u64 ((lw (withoutV s (bn : Int))).toNat : Int))).setCell ⟨w6.heap.size, 1, none⟩ (.int .u64 ((hw (withoutV s (bn : Int))).toNat : Int))) (.cells #[.int .i64 (bn : Int)] 3); simpa using this)) (by simp [Value.oneCell']) (by unfold maxLen; omega) (by omega) (by simp; omega) ?_; intro v' w13 hown' hgrow _; obtain ⟨g', cap', rfl⟩ := ownsRow_succ hown')
            have hlt12 := hO12.1.lt
            have hR13 := (hR12.alloc (.cells #[.int .i64 (bn : Int)] 3)).kept hgrow (fun e => by have := (hlt12 _ e.symm).1; omega)
            have hS13 := (hS12.alloc (.cells #[.int .i64 (bn : Int)] 3)).kept hgrow (fun e => by have := (hlt12 _ e.symm).1; omega)
            have hB13 := (hB12.alloc hB12.size (.cells #[.int .i64 (bn : Int)] 3)).grown hgrow (by have := hB12.size; simp at this ⊢; omega) (fun k e => by have := (hlt12 k e).1; omega)
            have hsz13 : w6.heap.size + 1 ≤ w13.heap.size := Nat.le_trans (by simp; omega) hgrow.size
            have hw := len_without HBS.out
            have hst : OrSt w w13 (w6.heap.size + 1) g w6.heap.size L.length cost (orderF cost 129 (gOf L) s0) (.slice (some ⟨g', 0, none⟩) (l.length + 1) cap') (l ++ [(bn : Int)]) (elL M (bn : Int)) (withoutV s (bn : Int)) := by
              refine ⟨?_, by rw [List.length_append, hw]; simp; omega, HEV.out, HELL.out, fun v hv => ?_, hR13, hS13, ⟨by simpa using hown', by simp⟩, hB13, hsz13⟩
              · have h1 := HST.out.says
                have h2 := HSTEP.out
                rw [show 128 - l.length + 1 = 129 - l.length by omega] at h2
                rw [h1, h2, HEG.out, List.length_append, List.append_assoc, show 129 - (l.length + [(bn : Int)].length) = 128 - l.length by simp <;> omega]
                rfl
              · rw [has_withoutV] at hv
                exact HST.out.sub v (by simp at hv; exact hv.1)
            go_roundw
            case rel => exact ⟨_, _, _, hst⟩
            case measure => simp [lenV]; omega
      · have HZ := hid (show s = 0 from by simpa using hz)
        clear st
        go_wp2_with fail
        go_ret
        refine ⟨_, rfl, ?_, HST.out.low⟩
        have h1 := HST.out.says
        rw [HZ.out, orderF_end, List.append_nil] at h1
        rw [HW.out, h1]
        exact HST.out.own.mono (by omega)
set_option maxRecDepth 100000 in
set_option maxHeartbeats 4000000 in
theorem orderDeg_c (v : Value) (L : List VS) (w : World) (hI : SetsAt w v L) (hT : TabAt w) (hL : L.length ≤ 140737488355328) :
    Calls Tryd.prog 38 #[v, .func (.func 44) #[] #[]] w (OrderPost degC L w) := by
  obtain ⟨cost, hcost⟩ : ∃ cost, cost = degC := ⟨_, rfl⟩
  have HCOST : CostIs 44 cost := hcost ▸ degree_c
  rw [← hcost]
  clear hcost
  obtain ⟨i0, hi, hz0, hz1, hz2⟩ := info_parts info_int
  have HV := hid (valid_c v L w hI hT hL)
  obtain ⟨p, c, rfl, hdrop⟩ := id hI
  clear hdrop
  cases hv : validG L
  · rw [hv] at HV
    have HW := hid (orderP_no (cost := cost) hv)
    clear hv
    go_enter Tryd.func38, Tryd.ntmps38
    go_wp2_with fail
    refine HV.out.mono ?_
    rintro e w2 ⟨rfl, hb2⟩
    go_wp2_with fail
    go_ret
    exact ⟨.slice none 0 0, rfl, by rw [HW.out]; exact ⟨World.ownsRow_nil _ _ _ _, by simp⟩, hb2⟩
  · rw [hv] at HV
    have HVL := hid (validG_iff.1 hv)
    have hp := HVL.out.pos
    have hle := HVL.out.le
    have HW := hid (orderP_yes (cost := cost) hv)
    have HA := hid (len_allL HVL.out)
    clear hv
    go_enter Tryd.func38, Tryd.ntmps38
    go_wp2_with fail
    refine HV.out.mono ?_
    rintro e w2 ⟨rfl, hb2⟩
    have hI2 := hI.below hb2
    clear HV hI
    go_wp2_with fail
    refine (Clone_c _ L w2 hI2 (by intro e; rw [e] at hp; simp at hp) (by omega)).mono ?_
    rintro e w5 ⟨g, cg, rfl, hg, hR5, hb5, hcl, hcm⟩
    have hB5 := hb2.trans (hb5.mono hb2.size)
    have hgw : w.heap.size ≤ g := Nat.le_trans hb2.size hg
    clear hb2 hI2 hb5 hg
    go_wp2_with fail
    refine (All_c ((L.length : Int) - 1) w5).mono ?_
    rintro e w6 ⟨rfl, hb6⟩
    have hR6 := hR5.below hb6 hR5.lt
    have hB6 := hB5.trans (hb6.mono hB5.size)
    clear hR5 hB5 hb6
    generalize hs0 : allV ((L.length : Int) - 1) = s0 at *
    have hbv : Below w6.heap.size w6 (w6.alloc (.cells #[.int .u64 ((lw s0).toNat : Int), .int .u64 ((hw s0).toNat : Int)] 35)) := (Below.refl _ w6).alloc (Nat.le_refl _) _
    have hS7 := SetVar.new w6 s0 35
    have hR7 := hR6.alloc (.cells #[.int .u64 ((lw s0).toNat : Int), .int .u64 ((hw s0).toNat : Int)] 35)
    have hB7 := hB6.trans (hbv.mono hB6.size)
    have hgl := hR6.lt
    have hst0 : OrSt w (w6.alloc (.cells #[.int .u64 ((lw s0).toNat : Int), .int .u64 ((hw s0).toNat : Int)] 35)) (w6.heap.size + 1) g w6.heap.size L.length cost (orderF cost 129 (gOf L) s0) (.slice none 0 0) [] L s0 :=
      ⟨rfl, by rw [HA.out]; simp; omega, HVL.out, rfl, fun v hv => by
        rw [← hs0, has_allV] at hv; simp at hv; omega, hR7, hS7, ⟨World.ownsRow_nil _ _ _ _, by simp⟩, hB7, by simp⟩
    have hs6 := hB6.size
    have HS0 := hid hs0
    clear hs0 hbv hS7 hR7 hB7 hR6
    go_wp2_with fail
    generalize w6.alloc (.cells #[.int .u64 ((lw s0).toNat : Int), .int .u64 ((hw s0).toNat : Int)] 35) = w7 at *
    go_loopw [6] (fun u wr => ∃ (l : List Int) (M : List VS) (s : VS), OrSt w wr (w6.heap.size + 1) g w6.heap.size L.length cost (orderF cost 129 (gOf L) s0) u l M s) (fun u _ => 129 - lenV u)
    case atStart => exact ⟨[], L, s0, hst0⟩
    case round =>
      clear hst0
      obtain ⟨l, M, s, st⟩ := hrel
      obtain ⟨pu, cu, hu, hdrop⟩ := st.own.ints
      subst hu
      clear hdrop
      obtain ⟨n0, n1, m0, m1⟩ := st.var.cells
      have hsz := st.sz
      have hTr := hT.below hT.lt st.low
      have HST := hid st
      cases hz : (s == 0#128)
      · have hz3 : ¬ s = 0#128 := by simpa using hz
        have HZ := hid hz3
        have HL8 := hid (List_c s wr hTr)
        clear st hz3
        go_wp2_with fail
        refine HL8.out.mono ?_
        rintro e w8 ⟨v8, rfl, hn8, hb8⟩
        obtain ⟨pm, cm, e4, hm⟩ := hn8.ints
        subst e4
        have HM := hid hm
        have hml := mems_length s
        have hR8 := HST.out.row.below hb8 HST.out.row.lt
        have hS8 := HST.out.var.below hb8 HST.out.var.lt
        have hO8 := HST.out.own.below hb8 (Nat.le_refl _)
        have hB8 := HST.out.low.trans (hb8.mono HST.out.low.size)
        have hT8 := hT.below hT.lt hB8
        have hsz8 := Nat.le_trans hsz hb8.size
        clear hm hn8 hb8 HL8 n0 n1 m0 m1 hz
        go_wp2_with fail
        go_loopw [7, 8, 27] (fun b y i wq => ∃ k : Nat, k ≤ (mems s).length ∧ i = .int .i64 k ∧ b = .int .i64 (pickTo (cost (gOf M)) (mems s) k).1 ∧ y = .int .i64 (pickTo (cost (gOf M)) (mems s) k).2 ∧ Below w8.heap.size w8 wq) (fun _ _ i _ => (mems s).length - (intOf i).toNat)
        case atStart => exact ⟨0, Nat.zero_le _, rfl, rfl, rfl, Below.refl _ _⟩
        case round =>
          obtain ⟨k, hk, rfl, rfl, rfl, hBq⟩ := hrel
          by_cases hkl : k < (mems s).length
          · obtain ⟨bm, om, rfl, hm⟩ := HM.out.resolve_left (by intro e; rw [e] at hkl; simp at hkl)
            have hc := hm k hkl
            rw [List.getElem?_eq_getElem hkl, Option.getD_some] at hc
            have hc2 := (hBq.cell (cell_lt hc)).trans hc
            have hmem : has s (mems s)[k] = true := (mem_mems _ _).1 (List.getElem_mem hkl)
            have hrg := has_range hmem
            have hru := HST.out.sub _ hmem
            obtain ⟨un, hun⟩ : ∃ un : Nat, (mems s)[k] = (un : Int) := ⟨((mems s)[k]).toNat, by omega⟩
            have HPS := hid (pickTo_succ (cost (gOf M)) (mems s) k hkl)
            rw [hun] at hc2 hru hrg HPS
            have hlu : un < M.length := by rw [HST.out.len]; omega
            have zk : (0 : Int) ≤ (k : Int) ∧ (k : Int) < ((mems s).length : Int) := by omega
            have HF := hid (HCOST g cg M un wr (hR8.below hBq hR8.lt) (hT8.below hT8.lt hBq) HST.out.ok hlu)
            rw [HST.out.len] at HF
            clear hm hc hmem hrg hru hun hlu
            generalize pickTo (cost (gOf M)) (mems s) k = pk at *
            obtain ⟨b1, b2⟩ := pk
            generalize hcv : cost (gOf M) (un : Int) = cv at *
            have HCV := hid hcv
            clear hcv
            by_cases h0 : b1 = 0
            · have e0 : (b1 == 0) = true := by simp [h0]
              have HN : Hid (pickTo (cost (gOf M)) (mems s) (k + 1) = ((un : Int), cv)) := by
                show _ = _
                rw [HPS.out]; unfold pickStep; rw [if_pos (.inl h0), HCV.out]
              clear h0
              go_wp2_with fail
              refine HF.out.mono ?_
              rintro e w9 ⟨rfl, hb9⟩
              go_wp2_with fail
              go_roundw
              case rel => exact ⟨k + 1, by omega, by go_num, by rw [HN.out], by rw [HN.out], hBq.trans (hb9.mono hBq.size)⟩
              case measure => simp [intOf]; omega
            · have e0 : (b1 == 0) = false := by simp [h0]
              by_cases h1 : cv < b2
              · have d1 : decide (cv < b2) = true := decide_eq_true h1
                have HN : Hid (pickTo (cost (gOf M)) (mems s) (k + 1) = ((un : Int), cv)) := by
                  show _ = _
                  rw [HPS.out]; unfold pickStep; rw [if_pos (.inr (by rw [HCV.out]; exact h1)), HCV.out]
                clear h0 h1
                go_wp2_with fail
                refine HF.out.mono ?_
                rintro e w9 ⟨rfl, hb9⟩
                go_wp2_with fail
                go_roundw
                case rel => exact ⟨k + 1, by omega, by go_num, by rw [HN.out], by rw [HN.out], hBq.trans (hb9.mono hBq.size)⟩
                case measure => simp [intOf]; omega
              · have d1 : decide (cv < b2) = false := decide_eq_false h1
                have HN : Hid (pickTo (cost (gOf M)) (mems s) (k + 1) = (b1, b2)) := by
                  show _ = _
                  rw [HPS.out]; unfold pickStep; rw [if_neg (by rw [HCV.out]; rintro (h | h); exact h0 h; exact h1 h)]
                clear h0 h1
                go_wp2_with fail
                refine HF.out.mono ?_
                rintro e w9 ⟨rfl, hb9⟩
                go_wp2_with fail
                go_roundw
                case rel => exact ⟨k + 1, by omega, by go_num, by rw [HN.out], by rw [HN.out], hBq.trans (hb9.mono hBq.size)⟩
                case measure => simp [intOf]; omega
          · obtain rfl : k = (mems s).length := by omega
            have hbs := best_spec (cost := cost) (g := gOf M) (left := s) HZ.out
            have hbe : (pickTo (cost (gOf M)) (mems s) (mems s).length).1 = best cost (gOf M) s := by rw [pickTo_all]; rfl
            rw [hbe]
            have hrg := has_range hbs.1
            have hru := HST.out.sub _ hbs.1
            obtain ⟨bn, hbn⟩ : ∃ bn : Nat, best cost (gOf M) s = (bn : Int) := ⟨(best cost (gOf M) s).toNat, by omega⟩
            have hstep := orderF_step (cost := cost) (k := 128 - l.length) (g := gOf M) HZ.out
            rw [hbn] at hbs hrg hru hstep
            rw [hbn]
            have hlu : bn < M.length := by rw [HST.out.len]; omega
            have hRr := hR8.below hBq hR8.lt
            have HE := hid (eliminate_c g cg M bn wr hRr (hT8.below hT8.lt hBq) (Nat.lt_of_lt_of_le hT.lt hgw) hlu (fun u hu => by have := HST.out.ok.range hu; omega) (by rw [HST.out.len]; exact hle))
            rw [HST.out.len] at HE
            have HEV := hid (elL_valid HST.out.ok (v := (bn : Int)) (by omega) (by rw [HST.out.len]; omega))
            have HEG := hid (gOf_elL HST.out.ok (v := (bn : Int)) (by omega) (by rw [HST.out.len]; omega))
            have HELL := hid ((elL_length M (bn : Int)).trans HST.out.len)
            have HBS := hid hbs.1
            have HSTEP := hid hstep
            have hSr := hS8.below hBq hS8.lt
            have hOr := hO8.below hBq (Nat.le_refl _)
            have hszr := Nat.le_trans hsz8 hBq.size
            have hBw := hB8.trans (hBq.mono hB8.size)
            clear hbs hstep hbe hkl hlu hrg hru hbn
            go_wp2_with fail
            refine HE.out.mono ?_
            rintro e w10 ⟨rfl, hR10, hg10⟩
            have hS10 := hSr.kept hg10 (by simp; omega)
            have hO10 := hOr.keep hg10 (fun k e => by injection e with e; omega)
            have hsz10 := Nat.le_trans hszr hg10.size
            have hB10 : Below w.heap.size w w10 := hBw.grown hg10 hBw.size (fun k e => by injection e with e; omega)
            obtain ⟨n0, n1, m0, m1⟩ := hS10.cells
            clear HE hRr hSr hOr hBq hR8 hS8 hO8 hB8 hszr hsz8 hT8 hTr
            go_wp2_with fail
            refine (Without_c s (bn : Int) w10).mono ?_
            rintro e w11 ⟨rfl, hb11⟩
            have hS11 := hS10.below hb11 hS10.lt
            have hO11 := hO10.below hb11 (Nat.le_refl _)
            have hR11 := hR10.below hb11 hR10.lt
            have hB11 := hB10.trans (hb11.mono hB10.size)
            have hsz11 := Nat.le_trans hsz10 hb11.size
            clear n0 n1 m0 m1 hS10 hO10 hR10 hB10 hb11 hsz10
            obtain ⟨n0, n1, m0, m1⟩ := hS11.cells
            have hg12 := grownBy_set2 w11 w6.heap.size 0 1 (.int .u64 ((lw (withoutV s (bn : Int))).toNat : Int)) (.int .u64 ((hw (withoutV s (bn : Int))).toNat : Int))
            have hO12 := hO11.keep hg12 (fun k e => by injection e with e; omega)
            have hS12 := hS11.store (withoutV s (bn : Int))
            have hR12 := hR11.kept hg12 (by simp; omega)
            have hB12 : Below w.heap.size w _ := hB11.grown hg12 hB11.size (fun k e => by injection e with e; omega)
            have hfit := HST.out.fit
            have hs0 := len_pos (s := s)
            clear hg12
            go_wp2_with (at_builtin; refine wpList_append_own _ rfl _ _ 25 rfl (w6.heap.size + 1) 3 i0 (.int .i64 0) 1 8 Tryd.underlying25 hi hz0 hz1 hz2 rfl (by decide) _ _ _ rfl (hO12.1.alloc _) ⟨w11.heap.size, 0, none⟩ 1 1 [.int .i64 (bn : Int)] rfl rfl (World.news_of_block (by have := heap_alloc_new ((w11.setCell ⟨w6.heap.size, 0, none⟩ (.int .u64 ((lw (withoutV s (bn : Int))).toNat : Int))).setCell ⟨w6.heap.size, 1, none⟩ (.int .u64 ((hw (withoutV s (bn : Int))).toNat : Int))) (.cells #[.int .i64 (bn : Int)] 3); simpa using this)) (by simp [Value.oneCell']) (by unfold maxLen; omega) (by omega) (by simp; omega) ?_; intro v' w13 hown' hgrow _; obtain ⟨g', cap', rfl⟩ := ownsRow_succ hown')
            have hlt12 := hO12.1.lt
            have hR13 := (hR12.alloc (.cells #[.int .i64 (bn : Int)] 3)).kept hgrow (fun e => by have := (hlt12 _ e.symm).1; omega)
            have hS13 := (hS12.alloc (.cells #[.int .i64 (bn : Int)] 3)).kept hgrow (fun e => by have := (hlt12 _ e.symm).1; omega)
            have hB13 := (hB12.alloc hB12.size (.cells #[.int .i64 (bn : Int)] 3)).grown hgrow (by have := hB12.size; simp at this ⊢; omega) (fun k e => by have := (hlt12 k e).1; omega)
            have hsz13 : w6.heap.size + 1 ≤ w13.heap.size := Nat.le_trans (by simp; omega) hgrow.size
            have hw := len_without HBS.out
            have hst : OrSt w w13 (w6.heap.size + 1) g w6.heap.size L.length cost (orderF cost 129 (gOf L) s0) (.slice (some ⟨g', 0, none⟩) (l.length + 1) cap') (l ++ [(bn : Int)]) (elL M (bn : Int)) (withoutV s (bn : Int)) := by
              refine ⟨?_, by rw [List.length_append, hw]; simp; omega, HEV.out, HELL.out, fun v hv => ?_, hR13, hS13, ⟨by simpa using hown', by simp⟩, hB13, hsz13⟩
              · have h1 := HST.out.says
                have h2 := HSTEP.out
                rw [show 128 - l.length + 1 = 129 - l.length by omega] at h2
                rw [h1, h2, HEG.out, List.length_append, List.append_assoc, show 129 - (l.length + [(bn : Int)].length) = 128 - l.length by simp <;> omega]
                rfl
              · rw [has_withoutV] at hv
                exact HST.out.sub v (by simp at hv; exact hv.1)
            go_roundw
            case rel => exact ⟨_, _, _, hst⟩
            case measure => simp [lenV]; omega
      · have HZ := hid (show s = 0 from by simpa using hz)
        clear st
        go_wp2_with fail
        go_ret
        refine ⟨_, rfl, ?_, HST.out.low⟩
        have h1 := HST.out.says
        rw [HZ.out, orderF_end, List.append_nil] at h1
        rw [HW.out, h1]
        exact HST.out.own.mono (by omega)
end Go.Proofs.YthgkklahiclcpaaDoor
