/- Walks: whether a tree is a decomposition. -/
import Derived.Test.YtmlecpapoeodkaaDoorWBelow
import Derived.Test.YtmlecpapoeodkaaDoorWConn
namespace Go.Proofs.YtmlecpapoeodkaaDoor
open Go.RowKit
attribute [local go_sem ↓] run_eqlS run_neqS run_eqlS0 run_neqS0

set_option maxRecDepth 100000 in
set_option maxHeartbeats 1000000 in
theorem check1_c (b a : VS) (pb : Nat) (w : World) (hs : SetVar w pb a) :
    Calls Tryd.prog 52 #[encS b, .pointer (some ⟨pb, 0, none⟩)] w fun e w' => e = .returned (.bool (!sub b a)) ∧ Below w.heap.size w w' := by
  have hB : Below w.heap.size w (w.alloc (.cells #[.int .u64 ((lw b).toNat : Int), .int .u64 ((hw b).toNat : Int)] 32)) := (Below.refl _ w).alloc (Nat.le_refl _) _
  have h1 := SetVar.new w b 32
  have h2 := hs.alloc (.cells #[.int .u64 ((lw b).toNat : Int), .int .u64 ((hw b).toNat : Int)] 32)
  obtain ⟨c0, c1, _, _⟩ := h1.cells
  obtain ⟨d0, d1, _, _⟩ := h2.cells
  have HS := hid (Sub_c b a (w.alloc (.cells #[.int .u64 ((lw b).toNat : Int), .int .u64 ((hw b).toNat : Int)] 32)))
  have hl := hs.lt
  clear h1 h2 hs
  go_enter Tryd.func52, Tryd.ntmps52
  go_wp2_with fail
  refine HS.out.mono ?_
  rintro e w2 ⟨rfl, hb2⟩
  have hB2 := hB.trans (hb2.mono hB.size)
  go_wp2_with fail
  go_ret
  exact ⟨rfl, hB2⟩
set_option maxRecDepth 100000 in
set_option maxHeartbeats 2000000 in
theorem indexS_c (v : Value) (B : List VS) (a : VS) (pb : Nat) (w : World) (hI : SetsAt w v B) (hs : SetVar w pb a) (hl : B.length ≤ 140737488355328) :
    Calls Tryd.prog 79 #[v, .func (.func 52) #[] #[.pointer (some ⟨pb, 0, none⟩)]] w fun e w' => (∃ r, e = .returned (.int .i64 r) ∧ decide (0 ≤ r) = B.any (fun b => !sub b a)) ∧ Below w.heap.size w w' := by
  have HI := hid hI
  have HS := hid hs
  obtain ⟨p, c, rfl, hdrop⟩ := id hI
  clear hdrop hI hs
  go_enter Tryd.func79, Tryd.ntmps79
  go_wp2_with fail
  go_loopw [8] (fun i wr => ∃ k : Nat, k ≤ B.length ∧ i = .int .i64 k ∧ Hid ((B.take k).any (fun b => !sub b a) = false) ∧ Below w.heap.size w wr) (fun i _ => B.length - (intOf i).toNat)
  case atStart => exact ⟨0, Nat.zero_le _, rfl, rfl, Below.refl _ _⟩
  case round =>
    obtain ⟨k, hk, rfl, ha, hB⟩ := hrel
    by_cases hkl : k < B.length
    · obtain ⟨b1, o1, c1', e1, l1⟩ := (HI.out.below hB).form (by omega)
      injection e1 with e1 _ e1'
      subst e1; subst e1'
      obtain ⟨s, hss, q0, q1⟩ := (HI.out.below hB).get k hkl
      have HC := hid (check1_c s a pb wr (HS.out.below hB HS.out.lt))
      have zk : (0 : Int) ≤ (k : Int) ∧ (k : Int) < (B.length : Int) := by omega
      have hT : (B.take (k + 1)).any (fun b => !sub b a) = !sub s a := by
        rw [List.take_succ_eq_append_getElem hkl, List.any_append, ha.out, hss]; simp
      have HT := hid hT
      have HY := hid (show (!sub s a) = true → B.any (fun b => !sub b a) = true from fun h => by
        rw [List.any_eq_true]; exact ⟨B[k], List.getElem_mem hkl, by rw [hss]; exact h⟩)
      clear hss hT
      cases hsb : sub s a
      · rw [hsb] at HC HT HY
        have HYY := hid (HY.out rfl)
        clear hsb
        go_wp2_with fail
        refine HC.out.mono ?_
        rintro e w2 ⟨rfl, hb2⟩
        go_wp2_with fail
        go_ret
        exact ⟨⟨_, rfl, by rw [HYY.out]; simp⟩, hB.trans (hb2.mono hB.size)⟩
      · rw [hsb] at HC HT
        clear hsb HY
        go_wp2_with fail
        refine HC.out.mono ?_
        rintro e w2 ⟨rfl, hb2⟩
        have hB2 := hB.trans (hb2.mono hB.size)
        go_wp2_with fail
        go_roundw
        case rel => exact ⟨k + 1, by omega, by go_num, HT.out, hB2⟩
        case measure => simp [intOf]; omega
    · obtain rfl : k = B.length := by omega
      have HA := hid ha.out
      rw [List.take_length] at HA
      go_wp2_with fail
      go_ret
      exact ⟨⟨_, rfl, by rw [HA.out]; rfl⟩, hB⟩
set_option maxRecDepth 100000 in
set_option maxHeartbeats 1000000 in
theorem containsS_c (v : Value) (B : List VS) (a : VS) (pb : Nat) (w : World) (hI : SetsAt w v B) (hs : SetVar w pb a) (hl : B.length ≤ 140737488355328) :
    Calls Tryd.prog 51 #[v, .func (.func 52) #[] #[.pointer (some ⟨pb, 0, none⟩)]] w fun e w' => e = .returned (.bool (B.any (fun b => !sub b a))) ∧ Below w.heap.size w w' := by
  have H := hid (indexS_c v B a pb w hI hs hl)
  clear hI hs
  go_enter Tryd.func51, Tryd.ntmps51
  go_wp2_with fail
  refine H.out.mono ?_
  rintro e w2 ⟨⟨r, rfl, hr⟩, hb2⟩
  have HR := hid hr
  clear hr
  go_wp2_with fail
  go_ret
  exact ⟨by rw [← HR.out]; rfl, hb2⟩
set_option maxRecDepth 100000 in
set_option maxHeartbeats 4000000 in
theorem Check_c (v x y : Value) (L B : List VS) (U : List Int) (w : World) (hI : SetsAt w v L) (hx : SetsAt w x B) (hy : IntsAt w y U) (hT : TabAt w)
    (hL : L.length ≤ 140737488355328) (hB : B.length ≤ 140737488355328) (hU : U.length ≤ 140737488355328) :
    Calls Tryd.prog 20 #[v, .agg #[x, y]] w fun e w' => e = .returned (.int .i64 (checkW L B U)) ∧ Below w.heap.size w w' := by
  have HI := hid (fun w' (h : Below w.heap.size w w') => hI.below h)
  have HX := hid (fun w' (h : Below w.heap.size w w') => hx.below h)
  have HY := hid (fun w' (h : Below w.heap.size w w') => hy.below h)
  obtain ⟨p, c, rfl, hdrop⟩ := id hI
  obtain ⟨p1, c1, rfl, hdrop1⟩ := id hx
  obtain ⟨p2, c2, rfl, hdrop2⟩ := id hy
  clear hdrop hdrop1 hdrop2 hI hx hy
  have hB0 : Below w.heap.size w (w.alloc (.cells #[.slice p1 B.length c1, .slice p2 U.length c2] 25)) := (Below.refl _ w).alloc (Nat.le_refl _) _
  have b0 := Box2.new w 25 (.slice p1 B.length c1) (.slice p2 U.length c2)
  have HV := hid (wvalid_c _ L _ (HI.out _ hB0) (hT.below hT.lt hB0) hL)
  go_enter Tryd.func20, Tryd.ntmps20
  go_wp2_with fail
  refine HV.out.mono ?_
  rintro e w2 ⟨rfl, hb2⟩
  have hB2 := hB0.trans (hb2.mono hB0.size)
  have b2 := b0.below hb2 b0.lt
  clear b0 hb2 hB0 HV
  cases hv : validG L
  · have HW := hid (show checkW L B U = 1 from by unfold checkW; rw [if_pos hv])
    clear hv
    go_wp2_with fail
    go_ret
    exact ⟨by rw [HW.out]; rfl, hB2⟩
  · have HVV := hid hv
    have hle := (validG_iff.1 hv).le
    obtain ⟨d0, d1, _, _⟩ := b2.cells
    have HBE := hid (below_c p1 p2 B.length c1 c2 U w2 (HY.out w2 hB2) hB hU)
    clear hv
    go_wp2_with fail
    refine HBE.out.mono ?_
    rintro e w3 ⟨⟨vd, rt, rfl⟩, hb3⟩
    have hB3 := hB2.trans (hb3.mono hB2.size)
    have b3 := b2.below hb3 b2.lt
    clear d0 d1 b2 hb3 hB2 HBE
    cases hf : formedB B.length U
    · have HW := hid (show checkW L B U = 5 from by unfold checkW; rw [if_neg (by rw [HVV.out]; simp), if_pos hf])
      clear hf
      go_wp2_with fail
      go_ret
      exact ⟨by rw [HW.out]; rfl, hB3⟩
    · have HF := hid (formedB_iff.1 hf)
      have HFB := hid hf
      have hB65 := HF.out.le
      have HA := hid (All_c ((L.length : Int) - 1) w3)
      clear hf
      go_wp2_with fail
      refine HA.out.mono ?_
      rintro e w4 ⟨rfl, hb4⟩
      have hB4 := hB3.trans (hb4.mono hB3.size)
      have b4 := b3.below hb4 b3.lt
      have hs5 := SetVar.new w4 (allV ((L.length : Int) - 1)) 32
      have hb5 : Below w4.heap.size w4 (w4.alloc (.cells #[.int .u64 ((lw (allV ((L.length : Int) - 1))).toNat : Int), .int .u64 ((hw (allV ((L.length : Int) - 1))).toNat : Int)] 32)) := (Below.refl _ w4).alloc (Nat.le_refl _) _
      have hB5 := hB4.trans (hb5.mono hB4.size)
      have b5 := b4.below hb5 b4.lt
      obtain ⟨d0, d1, _, _⟩ := b5.cells
      have HC := hid (containsS_c _ B (allV ((L.length : Int) - 1)) w4.heap.size _ (HX.out _ hB5) hs5 hB)
      rw [show (B.any fun b => !sub b (allV ((L.length : Int) - 1))) = !inAll ((L.length : Int) - 1) B by unfold inAll; rw [List.not_all_eq_any_not]] at HC
      clear hb4 b4 b3 hB3 hB4 HA hs5 hb5
      go_wp2_with fail
      refine HC.out.mono ?_
      rintro e w6 ⟨rfl, hb6⟩
      have hB6 := hB5.trans (hb6.mono hB5.size)
      have b6 := b5.below hb6 b5.lt
      clear d0 d1 b5 hB5 hb6 HC
      cases hin : inAll ((L.length : Int) - 1) B
      · have HW := hid (show checkW L B U = 6 from by unfold checkW; rw [if_neg (by rw [HVV.out]; simp), if_neg (by rw [HFB.out]; simp), if_pos hin])
        clear hin
        go_wp2_with fail
        go_ret
        exact ⟨by rw [HW.out]; rfl, hB6⟩
      · have HIN := hid hin
        obtain ⟨d0, d1, _, _⟩ := b6.cells
        have HCV := hid (covered_c _ _ (.slice p2 U.length c2) L B w6 (HI.out _ hB6) (HX.out _ hB6) (hT.below hT.lt hB6) hle hB65 ((inAll_iff (validG_iff.1 HVV.out)).1 hin))
        clear hin
        go_wp2_with fail
        refine HCV.out.mono ?_
        rintro e w7 ⟨rfl, hb7⟩
        have hB7 := hB6.trans (hb7.mono hB6.size)
        have b7 := b6.below hb7 b6.lt
        clear d0 d1 b6 hB6 hb7 HCV
        cases hcv : covB L B
        · have HW := hid (show checkW L B U = 3 from by unfold checkW; rw [if_neg (by rw [HVV.out]; simp), if_neg (by rw [HFB.out]; simp), if_neg (by rw [HIN.out]; simp), if_pos hcv])
          clear hcv
          go_wp2_with fail
          go_ret
          exact ⟨by rw [HW.out]; rfl, hB7⟩
        · have HCO := hid hcv
          obtain ⟨d0, d1, _, _⟩ := b7.cells
          have HCN := hid (connected_c _ _ B U w7 (HX.out _ hB7) (HY.out _ hB7) HF.out)
          clear hcv
          go_wp2_with fail
          refine HCN.out.mono ?_
          rintro e w8 ⟨rfl, hb8⟩
          have hB8 := hB7.trans (hb8.mono hB7.size)
          clear d0 d1 b7 hB7 hb8 HCN
          cases hcn : connB B U
          · have HW := hid (show checkW L B U = 210 from by unfold checkW; rw [if_neg (by rw [HVV.out]; simp), if_neg (by rw [HFB.out]; simp), if_neg (by rw [HIN.out]; simp), if_neg (by rw [HCO.out]; simp), if_pos hcn])
            clear hcn
            go_wp2_with fail
            go_ret
            exact ⟨by rw [HW.out]; rfl, hB8⟩
          · have HW := hid (show checkW L B U = 0 from by unfold checkW; rw [if_neg (by rw [HVV.out]; simp), if_neg (by rw [HFB.out]; simp), if_neg (by rw [HIN.out]; simp), if_neg (by rw [HCO.out]; simp), if_neg (by rw [hcn]; simp)])
            clear hcn
            go_wp2_with fail
            go_ret
            exact ⟨by rw [HW.out]; rfl, hB8⟩
end Go.Proofs.YtmlecpapoeodkaaDoor
