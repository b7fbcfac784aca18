/- Walks: the reference's lower bound. -/
import Derived.Test.YtmlecpapoeodkaaDoorWLow
import Derived.Test.YtmlecpapoeodkaaDoorWRef
namespace Go.Proofs.YtmlecpapoeodkaaDoor
open Go.RowKit
attribute [local go_sem ↓] run_eqlS run_neqS run_eqlS0 run_neqS0

/-- The number of least cost, as the reference finds it. -/
def refP (cost : Int → Int) (l : List Int) : Int × Int := l.foldl (fun b v => if cost v < b.2 then (v, cost v) else b) (0, 128)
theorem refP_take (cost : Int → Int) (l : List Int) (k : Nat) (h : k < l.length) : refP cost (l.take (k + 1)) = if cost l[k] < (refP cost (l.take k)).2 then (l[k], cost l[k]) else refP cost (l.take k) := by
  unfold refP
  rw [List.take_succ_eq_append_getElem h, List.foldl_append]; rfl
theorem refP_from (cost : Int → Int) : ∀ (l : List Int) (b : Int × Int), b.1 ≠ 0 → (∀ v ∈ l, 1 ≤ v) → l.foldl (fun b v => if cost v < b.2 then (v, cost v) else b) b = l.foldl (pickStep cost) b
  | [], _, _, _ => rfl
  | v :: l, b, hb, hl => by
    have hv := hl v (by simp)
    rw [List.foldl_cons, List.foldl_cons]
    have e : pickStep cost b v = if cost v < b.2 then (v, cost v) else b := by
      unfold pickStep
      by_cases h : cost v < b.2
      · rw [if_pos (.inr h), if_pos h]
      · rw [if_neg (by rintro (h' | h'); exact hb h'; exact h h'), if_neg h]
    rw [e]
    refine refP_from cost l _ ?_ fun u hu => hl u (List.mem_cons_of_mem _ hu)
    split
    · show v ≠ 0; omega
    · exact hb
theorem refP_pick {cost : Int → Int} {l : List Int} (hne : l ≠ []) (hl : ∀ v ∈ l, cost v ≤ 127 ∧ 1 ≤ v) : refP cost l = pick cost l := by
  cases l with
  | nil => exact absurd rfl hne
  | cons a t =>
    obtain ⟨h1, h2⟩ := hl a (by simp)
    unfold refP pick
    rw [List.foldl_cons, List.foldl_cons, if_pos (by show cost a < 128; omega), show pickStep cost (0, 0) a = (a, cost a) from if_pos (.inl rfl)]
    exact refP_from cost t _ (by show a ≠ 0; omega) fun u hu => (hl u (List.mem_cons_of_mem _ hu)).2
theorem deg_lt {L : List VS} (hV : ValidG L) {s : VS} {v : Int} (hv : has s v = true) : degIn (gOf L) s v ≤ 127 := by
  have h1 : len (gOf L v &&& s) ≤ len (withoutV s v) := len_mono fun x hx => by
    rw [has_and, Bool.and_eq_true] at hx
    have hne : x ≠ v := fun e => by
      subst e
      rw [(hV.okAll x).self] at hx
      cases hx.1
    simp [has_withoutV, hx.2, hne]
  have h2 := len_without hv
  have h3 := len_le s
  unfold degIn
  omega
set_option maxRecDepth 100000 in
set_option maxHeartbeats 8000000 in
theorem rLower_c (v : Value) (L : List VS) (w : World) (hI : SetsAt w v L) (hL : L.length ≤ 140737488355328) :
    Calls Tryd.prog 34 #[v] w fun e w' => e = .returned (.int .i64 (lowerP L)) ∧ Below w.heap.size w w' := by
  have HI := hid (fun w' (h : Below w.heap.size w w') => hI.below h)
  have HV := hid (rValid_c v L w hI hL)
  obtain ⟨p, c, rfl, hdrop⟩ := id hI
  clear hdrop hI
  go_enter Tryd.func34, Tryd.ntmps34
  go_wp2_with fail
  refine HV.out.mono ?_
  rintro e w2 ⟨rfl, hB2⟩
  clear HV
  cases hv : validG L
  · have HW := hid (show lowerP L = -1 from by unfold lowerP; rw [if_neg (by rw [hv]; simp)])
    clear hv
    go_wp2_with fail
    go_ret
    exact ⟨by rw [HW.out]; rfl, hB2⟩
  · have HVL := hid (validG_iff.1 hv)
    have hle := HVL.out.le
    have hpos := HVL.out.pos
    have HLP := hid (show lowerP L = lowF (gOf L) 129 (allV ((L.length : Int) - 1)) (-1) from by unfold lowerP; rw [if_pos hv])
    have zl : IntKind.i64.wrap ((L.length : Int) - 1) = (L.length : Int) - 1 := IntWalk.i64_in _ (by omega)
    clear hv
    go_wp2_with fail
    refine (rAll_c ((L.length : Int) - 1) w2).mono ?_
    rintro e w4 ⟨rfl, hb4⟩
    have hB4 := hB2.trans (hb4.mono hB2.size)
    have hla : len (allV ((L.length : Int) - 1)) ≤ 129 := by have := len_allL HVL.out; omega
    have hra : ∀ x, has (allV ((L.length : Int) - 1)) x = true → x < (L.length : Int) := fun x hx => by rw [has_allV] at hx; simp at hx; omega
    generalize allV ((L.length : Int) - 1) = s0 at *
    have hs5 := SetVar.new w4 s0 32
    have hb5 : Below w4.heap.size w4 (w4.alloc (.cells #[.int .u64 ((lw s0).toNat : Int), .int .u64 ((hw s0).toNat : Int)] 32)) := (Below.refl _ w4).alloc (Nat.le_refl _) _
    have hB5 := hB4.trans (hb5.mono hB4.size)
    have hlt : w.heap.size ≤ w4.heap.size := hB4.size
    have HRA := hid hra
    have HB5 := hid hB5
    have HS5 := hid hs5
    clear hb4 hB4 hB2 hs5 hb5 hB5 hra zl
    go_wp2_with fail
    generalize w4.alloc (.cells #[.int .u64 ((lw s0).toNat : Int), .int .u64 ((hw s0).toNat : Int)] 32) = w5 at *
    generalize w4.heap.size = pl at *
    go_loopw [4] (fun mv wr => ∃ (s : VS) (m : Int) (j : Nat), mv = .int .i64 m ∧ Hid (lowerP L = lowF (gOf L) j s m) ∧ Hid (len s ≤ (j : Int)) ∧ (-1 ≤ m ∧ m ≤ 128) ∧ Hid (∀ x, has s x = true → x < (L.length : Int)) ∧ SetVar wr pl s ∧ Below w.heap.size w wr) (fun _ wr => lenAt wr pl)
    case atStart => exact ⟨s0, -1, 129, rfl, HLP.out, hla, by omega, HRA.out, HS5.out, HB5.out⟩
    case round =>
      clear HLP hla HRA HS5 HB5
      obtain ⟨s, m, j, rfl, hlp, hlj, hm, hra, hsv, hBw⟩ := hrel
      have hmeas := lenAt_of hsv
      obtain ⟨n0, n1, _, _⟩ := hsv.cells
      have HSV := hid hsv
      have HBW := hid hBw
      have HMEAS := hid hmeas
      have HLS := hid (rLen_c s wr)
      clear hsv hBw hmeas
      go_wp2_with fail
      refine HLS.out.mono ?_
      rintro e w6 ⟨rfl, hb6⟩
      have SV6 := hid (HSV.out.below hb6 HSV.out.lt)
      have BW6 := hid (HBW.out.trans (hb6.mono HBW.out.size))
      clear hb6 n0 n1 HLS HBW
      by_cases hz : 0 < len s
      · have d0 : decide (0 < len s) = true := decide_eq_true hz
        have hs0 : s ≠ 0 := fun e => by rw [e, len_zero] at hz; omega
        obtain ⟨hp1, hp2⟩ := pick_in (f := degIn (gOf L) s) hs0
        have hlpos := len_without hp1
        have hl0 := len_pos (s := withoutV s (pick (degIn (gOf L) s) (mems s)).1)
        obtain ⟨j', rfl⟩ : ∃ j', j = j' + 1 := ⟨j - 1, by have := hlj.out; omega⟩
        have HST := hid (hlp.out.trans (lowF_step hs0))
        have HLJ := hid (show len (withoutV s (pick (degIn (gOf L) s) (mems s)).1) ≤ (j' : Int) from by have := hlj.out; omega)
        have HRA2 := hid (show ∀ x, has (withoutV s (pick (degIn (gOf L) s) (mems s)).1) x = true → x < (L.length : Int) from fun x hx => by
          rw [has_withoutV, Bool.and_eq_true] at hx; exact hra.out x hx.1)
        have hne := mems_ne hs0
        have HRP := hid (refP_pick (cost := degIn (gOf L) s) hne fun v hv => ⟨deg_lt HVL.out ((mem_mems _ _).1 hv), (has_range ((mem_mems _ _).1 hv)).1⟩)
        have HRP2 := hid ((pick_spec (cost := degIn (gOf L) s) hne fun v hv => (has_range ((mem_mems _ _).1 hv)).1).2.1)
        obtain ⟨n0, n1, _, _⟩ := SV6.out.cells
        have HLI := hid (rList_c s w6)
        have hpl6 := SV6.out.lt
        clear hp1 hp2 hlp hlj hs0 hz hne
        go_wp2_with fail
        refine HLI.out.mono ?_
        rintro e w7 ⟨v7, rfl, hn7, hb7⟩
        obtain ⟨pm, cm, e4, hmm⟩ := hn7.ints
        subst e4
        have hmlen := mems_length s
        have SV7 := hid (SV6.out.below hb7 SV6.out.lt)
        have BW7 := hid (BW6.out.trans (hb7.mono BW6.out.size))
        have HMM := hid hmm
        have hpl7 := SV7.out.lt
        clear hmm hn7 hb7 n0 n1 HLI SV6 BW6 d0
        go_wp2_with fail
        go_loopw [6, 7, 8] (fun bv lv i wr => ∃ k : Nat, k ≤ (mems s).length ∧ i = .int .i64 k ∧ bv = .int .i64 (refP (degIn (gOf L) s) ((mems s).take k)).1 ∧ lv = .int .i64 (refP (degIn (gOf L) s) ((mems s).take k)).2 ∧ Below w7.heap.size w7 wr) (fun _ _ i _ => (mems s).length - (intOf i).toNat)
        case atStart => exact ⟨0, Nat.zero_le _, rfl, rfl, rfl, Below.refl _ _⟩
        case round =>
          obtain ⟨k, hk, rfl, rfl, rfl, hB8⟩ := hrel
          have BW8 := BW7.out.trans (hB8.mono BW7.out.size)
          have SV8 := SV7.out.below hB8 SV7.out.lt
          by_cases hkl : k < (mems s).length
          · obtain ⟨bm, om, rfl, hm'⟩ := HMM.out.resolve_left (by intro e; rw [e] at hkl; simp at hkl)
            have hc := hm' k hkl
            rw [List.getElem?_eq_getElem hkl, Option.getD_some] at hc
            have hmem : has s (mems s)[k] = true := (mem_mems _ _).1 (List.getElem_mem hkl)
            have hr := has_range hmem
            have hltL := hra.out _ hmem
            have HTK := hid (refP_take (degIn (gOf L) s) (mems s) k hkl)
            obtain ⟨un, hun⟩ : ∃ un : Nat, (mems s)[k] = (un : Int) := ⟨((mems s)[k]).toNat, by omega⟩
            rw [hun] at hc hr hltL HTK
            have hc8 := (hB8.cell (cell_lt hc)).trans hc
            have hul : un < L.length := by omega
            obtain ⟨b1, o1, c1', e1, l1⟩ := (HI.out _ BW8).form (by omega)
            injection e1 with e1 _ e1'
            subst e1; subst e1'
            obtain ⟨t, ht, q0, q1⟩ := (HI.out _ BW8).get un hul
            have HDG := hid (show degIn (gOf L) s (un : Int) = len (t &&& s) from by unfold degIn; rw [gOf_nat L un hul, ht])
            have zk : (0 : Int) ≤ (k : Int) ∧ (k : Int) < ((mems s).length : Int) := by omega
            have zu : (0 : Int) ≤ (un : Int) ∧ (un : Int) < (L.length : Int) := by omega
            have C8 : Hid (wr.drew.cell? ⟨bm, om + k, none⟩ = some (.int .i64 (un : Int))) := hc8
            have RT : Hid (wr.drew.cell? ⟨b1, o1 + un * 2, none⟩ = some (.int .u64 ((lw t).toNat : Int)) ∧ wr.drew.cell? ⟨b1, o1 + un * 2 + 1, none⟩ = some (.int .u64 ((hw t).toNat : Int))) := ⟨q0, q1⟩
            have SVd : Hid (SetVar wr.drew pl s) := SV8
            have HC8 := hid hc8
            have HB8 := hid hB8
            generalize hb0' : (refP (degIn (gOf L) s) ((mems s).take k)).1 = b0 at *
            have HB0 := hid hb0'
            clear hb0'
            generalize hl0' : (refP (degIn (gOf L) s) ((mems s).take k)).2 = le0 at *
            have HL0 := hid hl0'
            clear hm' hc hmem hr hltL hun hc8 ht q0 q1 SV8 BW8 hB8 hl0'
            go_wp2_with fail
            refine Go.Proofs.YtmlecpapoeodkaaDoor.wp_region_L 11 8 (fun w' => w'.cell? ⟨bm, om + k, none⟩ = some (.int .i64 (un : Int)) ∧ (w'.cell? ⟨b1, o1 + un * 2, none⟩ = some (.int .u64 ((lw (t)).toNat : Int)) ∧ w'.cell? ⟨b1, o1 + un * 2 + 1, none⟩ = some (.int .u64 ((hw (t)).toNat : Int))) ∧ SetVar w' (pl) (s)) (by kernel_rfl) rfl ⟨C8.out, RT.out, SVd.out⟩ (fun _ => ?_)
            refine wpAnyL_pure (i := 0) (v := .slice (some ⟨b1, o1, none⟩) L.length c) (by simp only [List.getElem?_toArray, List.getElem?_cons_zero] <;> rfl) (by kernel_rfl) (by kernel_rfl) (by kernel_rfl) (by exact fun _ _ _ h => h) (by decide) (.inr ⟨C8.out, RT.out, SVd.out⟩) (Or.inl ⟨by rfl, fun w _ => (by simp [execOp, go_sem, Act.eval])⟩) (fun _ => ?_)
            simp only [Act.put, List.setIfInBounds_toArray, List.set_cons_zero, List.set_cons_succ]
            refine wpAnyL_pure (i := 1) (v := .slice (some ⟨bm, om, none⟩) (mems s).length cm) (by simp only [List.getElem?_toArray, List.getElem?_cons_zero, List.getElem?_cons_succ] <;> rfl) (by kernel_rfl) (by kernel_rfl) (by kernel_rfl) (by exact fun _ _ _ h => h) (by decide) (.inr ⟨C8.out, RT.out, SVd.out⟩) (Or.inl ⟨by rfl, fun w _ => (by simp [execOp, go_sem, Act.eval])⟩) (fun _ => ?_)
            simp only [Act.put, List.setIfInBounds_toArray, List.set_cons_zero, List.set_cons_succ]
            refine wpAnyL_pure (i := 2) (v := .int .i64 (k : Int)) (by simp only [List.getElem?_toArray, List.getElem?_cons_zero, List.getElem?_cons_succ] <;> rfl) (by kernel_rfl) (by kernel_rfl) (by kernel_rfl) (by exact fun _ _ _ h => h) (by decide) (.inr ⟨C8.out, RT.out, SVd.out⟩) (Or.inl ⟨by rfl, fun w _ => (by simp [execOp, go_sem, Act.eval])⟩) (fun _ => ?_)
            simp only [Act.put, List.setIfInBounds_toArray, List.set_cons_zero, List.set_cons_succ]
            refine wpAnyL_pure (i := 3) (v := .pointer (some ⟨bm, om + k, none⟩)) (by simp only [List.getElem?_toArray, List.getElem?_cons_zero, List.getElem?_cons_succ] <;> rfl) (by kernel_rfl) (by kernel_rfl) (by kernel_rfl) (by exact fun _ _ _ h => h) (by decide) (.inr ⟨C8.out, RT.out, SVd.out⟩) (Or.inl ⟨by rfl, fun w _ => (by simp [execOp, go_sem, Act.eval, zk])⟩) (fun _ => ?_)
            simp only [Act.put, List.setIfInBounds_toArray, List.set_cons_zero, List.set_cons_succ]
            refine wpAnyL_load2 (i := 4) (v := .int .i64 (un : Int)) (by simp only [List.getElem?_toArray, List.getElem?_cons_zero, List.getElem?_cons_succ] <;> rfl) (by kernel_rfl) (by kernel_rfl) (by kernel_rfl) (by exact fun _ _ _ h => h) (by decide) (Waits.more (j := 6) rfl ⟨⟨6, .data⟩, by simp, rfl, rfl⟩ (Waits.more (j := 5) rfl ⟨⟨5, .data⟩, by simp, rfl, rfl⟩ (Waits.one rfl ⟨⟨4, .data⟩, by simp, rfl, rfl⟩))) (by kernel_rfl) (by kernel_rfl) (.inr ⟨C8.out, RT.out, SVd.out⟩) (Or.inl ⟨by rfl, fun w hw => (by obtain ⟨x0, _, _⟩ := hw; simp [execOp, go_sem, Act.eval, x0])⟩) (fun _ => ?_)
            simp only [Act.put, List.setIfInBounds_toArray, List.set_cons_zero, List.set_cons_succ]
            refine wpAnyL_pure (i := 5) (v := .pointer (some ⟨b1, o1 + un * 2, none⟩)) (by simp only [List.getElem?_toArray, List.getElem?_cons_zero, List.getElem?_cons_succ] <;> rfl) (by kernel_rfl) (by kernel_rfl) (by kernel_rfl) (by exact fun _ _ _ h => h) (by decide) (.inr ⟨C8.out, RT.out, SVd.out⟩) (Or.inl ⟨by rfl, fun w _ => (by simp [execOp, go_sem, Act.eval, zu])⟩) (fun _ => ?_)
            simp only [Act.put, List.setIfInBounds_toArray, List.set_cons_zero, List.set_cons_succ]
            refine wpAnyL_load2 (i := 6) (v := encS (t)) (by simp only [List.getElem?_toArray, List.getElem?_cons_zero, List.getElem?_cons_succ] <;> rfl) (by kernel_rfl) (by kernel_rfl) (by kernel_rfl) (by exact fun _ _ _ h => h) (by decide) (Waits.one rfl ⟨⟨6, .data⟩, by simp, rfl, rfl⟩) (by kernel_rfl) (by kernel_rfl) (.inr ⟨C8.out, RT.out, SVd.out⟩) (Or.inl ⟨by rfl, fun w hw => (by obtain ⟨_, ⟨y1, z1⟩, _⟩ := hw; simp [execOp, go_sem, Act.eval, y1, z1])⟩) (fun _ => ?_)
            simp only [Act.put, List.setIfInBounds_toArray, List.set_cons_zero, List.set_cons_succ]
            refine wpAnyL_load2 (i := 7) (v := encS s) (by simp only [List.getElem?_toArray, List.getElem?_cons_zero, List.getElem?_cons_succ] <;> rfl) (by kernel_rfl) (by kernel_rfl) (by kernel_rfl) (by exact fun _ _ _ h => h) (by decide) (Waits.one rfl ⟨⟨7, .data⟩, by simp, rfl, rfl⟩) (by kernel_rfl) (by kernel_rfl) (.inr ⟨C8.out, RT.out, SVd.out⟩) (Or.inl ⟨by rfl, fun w hw => (by obtain ⟨_, _, x2⟩ := hw; simp [execOp, go_sem, Act.eval, x2.cells.1, x2.cells.2.1])⟩) (fun _ => ?_)
            simp only [Act.put, List.setIfInBounds_toArray, List.set_cons_zero, List.set_cons_succ]
            refine wpAnyL_one (i := 8) (by kernel_rfl) (by simp only [List.getElem?_toArray, List.getElem?_cons_zero, List.getElem?_cons_succ] <;> rfl) (by rfl) ?_
            refine opwp_call (f := 72) (args := #[encS (t), encS s]) (w' := wr.drew) (by simp [go_sem, Act.eval]) ?_
            refine (rCut_c t s wr.drew).mono ?_
            rintro e w9 ⟨rfl, hb9⟩
            refine .inl ⟨_, rfl, .inl (by kernel_rfl), ?_⟩
            simp only [Act.put, List.setIfInBounds_toArray, List.set_cons_zero, List.set_cons_succ]
            refine wpAnyL_one (i := 9) (by kernel_rfl) (by simp only [List.getElem?_toArray, List.getElem?_cons_zero, List.getElem?_cons_succ] <;> rfl) (by rfl) ?_
            refine opwp_call (f := 71) (args := #[encS (t &&& s)]) (w' := w9) (by simp [go_sem, Act.eval]) ?_
            refine (rLen_c (t &&& s) w9).mono ?_
            rintro e w10 ⟨rfl, hb10⟩
            refine .inl ⟨_, rfl, .inl (by kernel_rfl), ?_⟩
            simp only [Act.put, List.setIfInBounds_toArray, List.set_cons_zero, List.set_cons_succ]
            refine wpAnyL_pure (i := 10) (v := .int .i64 (len (t &&& s))) (by simp only [List.getElem?_toArray, List.getElem?_cons_zero, List.getElem?_cons_succ] <;> rfl) (by kernel_rfl) (by kernel_rfl) (by kernel_rfl) (by exact fun _ _ _ h => h) (by decide) (.inl (by kernel_rfl)) (Or.inl ⟨by rfl, fun w _ => (by simp [execOp, go_sem, Act.eval])⟩) (fun _ => ?_)
            simp only [Act.put, List.setIfInBounds_toArray, List.set_cons_zero, List.set_cons_succ]
            refine wpAnyL_done (by kernel_rfl) ?_ _
            have hb810 : Below wr.heap.size wr w10 := ((Below.refl _ wr).drew.trans hb9).trans (hb10.mono hb9.size)
            have hB10 := hid (HB8.out.trans (hb810.mono HB8.out.size))
            have hc10 := (hb810.cell (cell_lt HC8.out)).trans HC8.out
            rw [HDG.out] at HTK
            generalize len (t &&& s) = dg at *
            clear hb9 hb10 hb810 C8 RT SVd HC8 HB8 HDG
            by_cases hdl : dg < le0
            · have HTK2 := hid (HTK.out.trans (if_pos hdl))
              clear HTK
              go_wp2_with fail
              go_roundw
              case rel => exact ⟨k + 1, by omega, by go_num, by rw [HTK2.out], by rw [HTK2.out], hB10.out⟩
              case measure => simp [intOf]; omega
            · have HTK2 := hid (HTK.out.trans (if_neg hdl))
              clear HTK hc10
              go_wp2_with fail
              go_roundw
              case rel => exact ⟨k + 1, by omega, by go_num, by rw [HTK2.out, HB0.out], by rw [HTK2.out, HL0.out], hB10.out⟩
              case measure => simp [intOf]; omega
          · obtain rfl : k = (mems s).length := by omega
            rw [List.take_length, HRP.out, HRP2.out]
            generalize (pick (degIn (gOf L) s) (mems s)).1 = x at *
            have hd1 : 0 ≤ degIn (gOf L) s x ∧ degIn (gOf L) s x ≤ 128 := ⟨len_pos, len_le _⟩
            generalize degIn (gOf L) s x = dg at *
            have HB8 := hid BW8
            have HSV8 := hid SV8
            clear HRP HRP2 BW8 SV8 hB8
            by_cases hmd : m < dg
            · have hmx : max m dg = dg := by omega
              rw [hmx] at HST
              obtain ⟨n0, n1, _, _⟩ := HSV8.out.cells
              have HWO := hid (rWithout_c s x wr)
              clear hmx
              go_wp2_with fail
              refine HWO.out.mono ?_
              rintro e w10 ⟨rfl, hb10⟩
              have sv10 := HSV8.out.below hb10 HSV8.out.lt
              obtain ⟨y0, y1, y2, y3⟩ := sv10.cells
              have SV11 := hid (sv10.store (withoutV s x))
              have BW11 := hid (below_01 (HB8.out.trans (hb10.mono HB8.out.size)) (b := pl) (by omega) (.int .u64 ((lw (withoutV s x)).toNat : Int)) (.int .u64 ((hw (withoutV s x)).toNat : Int)))
              have hm11 := lenAt_of SV11.out
              have HM11 := hid hm11
              clear n0 n1 sv10 hb10 HWO hm11
              go_wp2_with fail
              go_roundw
              case rel => exact ⟨withoutV s x, dg, j', rfl, HST.out, HLJ.out, by omega, HRA2.out, SV11.out, BW11.out⟩
              case measure => rw [HM11.out, HMEAS.out]; omega
            · have hmx : max m dg = m := by omega
              rw [hmx] at HST
              obtain ⟨n0, n1, _, _⟩ := HSV8.out.cells
              have HWO := hid (rWithout_c s x wr)
              clear hmx
              go_wp2_with fail
              refine HWO.out.mono ?_
              rintro e w10 ⟨rfl, hb10⟩
              have sv10 := HSV8.out.below hb10 HSV8.out.lt
              obtain ⟨y0, y1, y2, y3⟩ := sv10.cells
              have SV11 := hid (sv10.store (withoutV s x))
              have BW11 := hid (below_01 (HB8.out.trans (hb10.mono HB8.out.size)) (b := pl) (by omega) (.int .u64 ((lw (withoutV s x)).toNat : Int)) (.int .u64 ((hw (withoutV s x)).toNat : Int)))
              have hm11 := lenAt_of SV11.out
              have HM11 := hid hm11
              clear n0 n1 sv10 hb10 HWO hm11
              go_wp2_with fail
              go_roundw
              case rel => exact ⟨withoutV s x, m, j', rfl, HST.out, HLJ.out, by omega, HRA2.out, SV11.out, BW11.out⟩
              case measure => rw [HM11.out, HMEAS.out]; omega
      · have d0 : decide (0 < len s) = false := decide_eq_false hz
        have HF := hid (show lowerP L = m from by rw [hlp.out, len_none (s := s) (by omega)]; exact lowF_end _ _ _)
        clear hz
        go_wp2_with fail
        go_ret
        exact ⟨by rw [HF.out]; rfl, BW6.out⟩
end Go.Proofs.YtmlecpapoeodkaaDoor
