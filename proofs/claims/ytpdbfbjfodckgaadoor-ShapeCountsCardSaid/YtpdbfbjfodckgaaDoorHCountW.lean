/- The walk of the law ShapeCounts. -/
import Derived.Test.YtpdbfbjfodckgaaDoorHLaw
import Derived.Test.YtpdbfbjfodckgaaDoorHFew
import Derived.Test.YtpdbfbjfodckgaaDoorHEqual
namespace Go.Proofs.YtpdbfbjfodckgaaDoor
open Go.RowKit

/-! ### the row of the numbers -/
def rowQ (L : List NodeT) (k : Nat) (s : Int) : List Int := numsOf (L.take k) ++ s :: List.replicate (L.length - k - 1) 0
theorem numsOf_take (L : List NodeT) (k : Nat) (h : k ≤ L.length) : (numsOf (L.take k)).length = k := by rw [numsOf_length, List.length_take]; omega
theorem rowQ_length {L : List NodeT} {k : Nat} (s : Int) (h : k < L.length) : (rowQ L k s).length = L.length := by
  unfold rowQ
  rw [List.length_append, List.length_cons, List.length_replicate, numsOf_take L k (by omega)]
  omega
theorem rowQ_set {L : List NodeT} {k : Nat} (s t : Int) (h : k < L.length) : (rowQ L k s).set k t = rowQ L k t := by
  unfold rowQ
  have hl := numsOf_take L k (by omega)
  rw [List.set_append_right _ _ (by omega), hl, Nat.sub_self]; rfl
theorem rowQ_at {L : List NodeT} {k : Nat} (s : Int) (h : k < L.length) : (rowQ L k s)[k]'(by rw [rowQ_length s h]; exact h) = s := by
  unfold rowQ
  have hl := numsOf_take L k (by omega)
  rw [List.getElem_append_right (by omega)]
  simp [hl]
theorem rowQ_low {L : List NodeT} {k : Nat} (s : Int) (h : k < L.length) (u : Nat) (hu : u < k) : (rowQ L k s)[u]'(by rw [rowQ_length s h]; omega) = iOf (numsOf L) (u : Int) := by
  have hl := numsOf_take L k (by omega)
  unfold rowQ
  rw [List.getElem_append_left (by omega)]
  have e : numsOf (L.take k) = (numsOf L).take k := (scanF_take numNode L k (by omega)).symm
  rw [iOf_nat _ u (by rw [numsOf_length]; omega)]
  simp only [e, List.getElem_take]
theorem numNode_low {n : Int} {L : List NodeT} (h : formedTo n L L.length) {k : Nat} (hk : k < L.length) : numNode (numsOf (L.take k)) L[k] = numNode (numsOf L) L[k] := by
  have hg := numsOf_get h hk
  rw [iOf_nat _ k (by rw [numsOf_length]; exact hk)] at hg
  rw [← hg]
  exact (scanF_get numNode L k hk).symm
theorem rowQ_next {n : Int} {L : List NodeT} (hf : formedTo n L L.length) {k : Nat} (h : k < L.length) {s : Int} (hs : s = numNode (numsOf L) L[k]) : numsOf (L.take (k + 1)) ++ List.replicate (L.length - (k + 1)) 0 = rowQ L k s := by
  unfold rowQ
  have : numsOf (L.take (k + 1)) = numsOf (L.take k) ++ [s] := by rw [hs, ← numNode_low hf h]; exact scanF_take_succ numNode L k h
  rw [this, List.append_assoc]
  congr 2
theorem rowQ_start {L : List NodeT} {k : Nat} (h : k < L.length) : numsOf (L.take k) ++ List.replicate (L.length - k) 0 = rowQ L k 0 := by
  unfold rowQ
  congr 1
  obtain ⟨m, hm⟩ : ∃ m, L.length - k = m + 1 := ⟨L.length - k - 1, by omega⟩
  rw [hm, show m + 1 - 1 = m from rfl]; rfl
theorem add_small {M : List Int} {c : Int} : ∀ (l : List Int) (s : Int), 0 ≤ s → (∀ x ∈ l, 0 ≤ iOf M x ∧ iOf M x ≤ c) → 0 ≤ addIns M s l ∧ addIns M s l ≤ s + c * (l.length : Int) := by
  intro l
  induction l using snoc_ind with
  | h0 => intro s hs _; exact ⟨hs, by show s ≤ s + c * ((0 : Nat) : Int); simp⟩
  | h1 l x ih =>
    intro s hs h
    have h1 := ih s hs fun y hy => h y (List.mem_append_left _ hy)
    have h2 := h x (List.mem_append_right _ (List.mem_singleton.2 rfl))
    rw [addIns_snoc, List.length_append]
    have e : c * ((l.length + [x].length : Nat) : Int) = c * (l.length : Int) + c := by
      rw [show [x].length = 1 from rfl]; push_cast; rw [Int.mul_add, Int.mul_one]
    rw [e]
    omega
theorem wrap_mid {x : Int} (h0 : 0 ≤ x) (h1 : x ≤ 40000000000000000) : IntKind.i64.wrap x = x := by rw [IntKind.wrap_i64]; omega
/-! ### parts of a net -/
theorem valid_take {n : Int} {L : List NodeT} (hv : validNet ⟨n, L⟩ = true) {k : Nat} (hk : k < L.length) : validNet ⟨n, L.take (k + 1)⟩ = true := by
  obtain ⟨⟨r1, r2, r3, r4⟩, hf⟩ := (validNet_iff _).1 hv
  simp only at r1 r2 r3 r4 hf
  rw [validNet_iff]
  have hl : (L.take (k + 1)).length = k + 1 := by rw [List.length_take]; omega
  refine ⟨⟨r1, r2, by show 1 ≤ (L.take (k + 1)).length; omega, by show (L.take (k + 1)).length ≤ 65536; omega⟩, fun i hi hlt => ?_⟩
  have hi2 : i < (L.take (k + 1)).length := hi
  have := hf i (by omega) (by omega)
  show formed (L.take (k + 1))[i] n i = true
  rw [List.getElem_take]
  exact this
theorem eval_take {A : Int → Bool} {L : List NodeT} {k : Nat} (hk : k < L.length) : bOf (bsOf A (L.take (k + 1))) (((L.take (k + 1)).length : Int) - 1) = bOf (bsOf A L) (k : Int) := by
  have hl : (L.take (k + 1)).length = k + 1 := by rw [List.length_take]; omega
  rw [hl, show ((k + 1 : Nat) : Int) - 1 = (k : Int) by omega]
  exact (B_take (by omega) (by omega)).symm
theorem nodes_take {w : World} {b off c c' : Nat} {L : List NodeT} (h : NodesAt w (.slice (some ⟨b, off, none⟩) L.length c) L) {k : Nat} (hk : k < L.length) : NodesAt w (.slice (some ⟨b, off, none⟩) (k + 1) c') (L.take (k + 1)) := by
  obtain ⟨p, c2, e, h⟩ := h
  injection e with e1 _ _
  have hl : (L.take (k + 1)).length = k + 1 := by rw [List.length_take]; omega
  refine ⟨some ⟨b, off, none⟩, c', by rw [hl], .inr ⟨b, off, rfl, fun i hi => ?_⟩⟩
  rcases h with h | ⟨b', off', e2, h⟩
  · rw [h] at hk; simp at hk
  · rw [← e1] at e2
    injection e2 with e2
    injection e2 with e2 e3 _
    subst e2; subst e3
    obtain ⟨u, hu⟩ := h i (by omega)
    exact ⟨u, by rw [List.getElem_take]; exact hu⟩
/-- The number of assignments so far. -/
def cntK (S : VS) (L : List NodeT) (i : Int) (k : Nat) : Nat := (List.range k).countP fun k => sub (setW k) S && bOf (bsOf (has (setW k)) L) i
theorem cntK_succ (S : VS) (L : List NodeT) (i : Int) (k : Nat) : cntK S L i (k + 1) = cntK S L i k + if (sub (setW k) S && bOf (bsOf (has (setW k)) L) i) = true then 1 else 0 := by
  unfold cntK
  rw [List.range_succ, List.countP_append, List.countP_cons, List.countP_nil, Nat.zero_add]
theorem cntK_le (S : VS) (L : List NodeT) (i : Int) (k : Nat) : cntK S L i k ≤ k := by
  unfold cntK
  have := List.countP_le_length (p := fun k => sub (setW k) S && bOf (bsOf (has (setW k)) L) i) (l := List.range k)
  rwa [List.length_range] at this
theorem cntK_all (L : List NodeT) (i : Int) {n : Nat} (hn : n ≤ 128) : cntK (sOf (vsOf L) i) L i (2 ^ n) = cntN n L i := by
  have h := cS_count (sOf (vsOf L) i) (fun a => bOf (bsOf (has a) L) i) n hn 0
  unfold cntN
  rw [← h]
  unfold cntK
  refine List.countP_congr fun k _ => ?_
  have e : (0 : VS) ||| setW k = setW k := by simp
  rw [e]
/-- Whether the variables of a number are in a set. -/
theorem sub_word {k : Nat} (h : k < 18446744073709551616) (S : VS) : ∃ x : Int, bits .andNot .u64 (k : Int) ((lw S).toNat : Int) = x ∧ (x == 0) = sub (setW k) S := by
  have h1 : (lw (setW k)).toNat = k := by
    unfold lw setW
    rw [BitVec.toNat_setWidth, BitVec.toNat_ofNat]
    omega
  have h2 : hw (setW k) = 0 := by
    apply BitVec.eq_of_toNat_eq
    unfold hw setW
    rw [BitVec.toNat_setWidth, BitVec.toNat_ushiftRight, BitVec.toNat_ofNat, Nat.shiftRight_eq_div_pow]
    show _ = 0
    omega
  refine ⟨((andn64 (lw (setW k)) (lw S)).toNat : Int), by rw [← bits_andNot, h1], ?_⟩
  unfold sub
  rw [Bool.eq_iff_iff, beq_iff_eq, beq_iff_eq]
  have e1 : lw (minus (setW k) S) = andn64 (lw (setW k)) (lw S) := lo_minus _ _
  have e2 : hw (minus (setW k) S) = 0 := by
    have : hw (minus (setW k) S) = andn64 (hw (setW k)) (hw S) := hi_minus _ _
    rw [this, h2]
    unfold andn64; simp
  constructor
  · intro h
    refine ext_lo_hi ?_ (e2.trans rfl)
    rw [e1]
    exact BitVec.eq_of_toNat_eq (by have : (andn64 (lw (setW k)) (lw S)).toNat = 0 := by omega
                                    rw [this]; rfl)
  · intro h
    rw [← e1, h]; rfl
/-- A net over few variables. -/
theorem det_few {n : Int} {L : List NodeT} (hv : validNet ⟨n, L⟩ = true) (h8 : n ≤ 8) : detNo ⟨n, L⟩ = 0 ∧ detYes ⟨n, L⟩ = detB L := by
  obtain ⟨⟨r1, r2, r3, r4⟩, hf⟩ := (validNet_iff _).1 hv
  simp only at r1 r2 r3 r4 hf
  obtain ⟨N, rfl⟩ : ∃ N : Nat, n = (N : Int) := ⟨n.toNat, by omega⟩
  have h1 := occ_mems (s := litsVS L) (n := N) (lits_le hv) (by omega)
  have h2 := occ_length (litsVS L) N
  rw [h1] at h2
  have h0 : detNo ⟨(N : Int), L⟩ = 0 := by
    unfold detNo
    rw [hv, if_pos rfl, if_neg (by show ¬ 16 < (mems (litsVS L)).length; omega)]
  exact ⟨h0, by unfold detYes; rw [h0]; rfl⟩
theorem smT_few {n : Int} {L : List NodeT} (hv : validNet ⟨n, L⟩ = true) (hl : L.length ≤ 24) (hi : ∀ x ∈ L, x.ins.length ≤ 4) : (smT L).length ≤ 504 ∧ validNet ⟨n, smT L⟩ = true ∧ (∀ x ∈ smT L, x.ins.length ≤ 132) := by
  have h1 := smT_len hi
  have h2 : (smT L).length ≤ 504 := by omega
  exact ⟨h2, smT_valid hv (by omega), smT_short (by decide) hi⟩
theorem smT_detB {n : Int} {L : List NodeT} (hv : validNet ⟨n, L⟩ = true) (hs : validNet ⟨n, smT L⟩ = true) (hd : detB L = true) : detB (smT L) = true := by
  rw [detB_iff hs]
  exact smT_det hv ((detB_iff hv).1 hd)
set_option maxRecDepth 100000 in
set_option maxHeartbeats 8000000 in
theorem shapeCounts_walk (n0 : Int) (L0 : List NodeT) (v0 : Value) (many : Int) (w : World) (hT : TabAt w) (hP : PatAt w) (hN : NodesIn w v0 L0) (hl : L0.length ≤ 9223372036854775807) (hm : 0 ≤ many ∧ many ≤ 255) :
    Calls Tryd.prog 11 #[.agg #[.int .i64 n0, v0], .int .u8 many] w (LawPost w) := by
  obtain ⟨hm0, hm1⟩ := hm
  obtain ⟨kk, hkk⟩ : ∃ kk : Nat, many % 6 = (kk : Int) := ⟨(many % 6).toNat, by omega⟩
  have hkt : Int.tmod many 6 = (kk : Int) := by rw [Int.tmod_eq_emod_of_nonneg hm0]; exact hkk
  have hk8 : (kk : Int) ≤ 5 := by omega
  have hB1 : Below w.heap.size w (w.alloc (.cells #[.int .i64 n0, v0] 24)) := (Below.refl _ w).alloc (Nat.le_refl _) _
  have HX := hid (Box2.new w 24 (.int .i64 n0) v0)
  have HN := hid (hN.below hB1)
  have HLI := hid (light_c 100 n0 L0 v0 _ (hN.below hB1) hl)
  have HT0 := hid hT
  have HP0 := hid hP
  have HT := hid (hT.below hT.lt hB1)
  have HP := hid (hP.below hP.lt hB1)
  have HB1 := hid hB1
  obtain ⟨x0, x1, _, _⟩ := HX.out.cells
  clear hT hP hN hB1
  go_enter Tryd.func11, Tryd.ntmps11
  go_wp2_with fail
  refine HLI.out.mono ?_
  rintro e w2 ⟨rfl, hb2⟩
  clear x0 x1
  obtain ⟨x0, x1, _, _⟩ := (HX.out.below hb2 HX.out.lt).cells
  have HX2 := hid (HX.out.below hb2 HX.out.lt)
  have HN2 := hid (HN.out.below hb2)
  have HT2 := hid (HT.out.below HT.out.lt hb2)
  have HP2 := hid (HP.out.below HP.out.lt hb2)
  have HB2 := hid (HB1.out.trans (hb2.mono HB1.out.size))
  clear hb2 HX HN HLI HT HP HB1
  cases hL : lightB 100 L0
  · go_wp2_with fail
    refine (works_c w2 HT2.out HP2.out).mono ?_
    rintro e w3 ⟨rfl, hb3⟩
    go_wp2_with fail
    go_ret
    exact ⟨rfl, HB2.out.trans (hb3.mono HB2.out.size)⟩
  · obtain ⟨hlen, hins⟩ := light_len hL
    have HNA := hid (HN2.out.nodes fun x hx => by have := hins x hx; omega)
    have hl1000 : L0.length ≤ 1000 := by omega
    clear hL hlen hins
    go_wp2_with fail
    refine (few_c n0 (1 + (kk : Int)) L0 v0 w2 HNA.out hl1000 (by omega) (by omega)).mono ?_
    rintro e w3 ⟨v, L, vs, rfl, hv, hl24, hi4, hown, hb3⟩
    have HX3 := hid (HX2.out.below hb3 HX2.out.lt)
    have HB3 := hid (HB2.out.trans (hb3.mono HB2.out.size))
    obtain ⟨s1, s2, s3⟩ := smT_few hv hl24 hi4
    have HS1 := hid s1
    have HS2 := hid s2
    have HSM := hid (smT_smooth hv)
    obtain ⟨d3, d4⟩ := det_few s2 (show 1 + (kk : Int) ≤ 8 by omega)
    have HDN := hid d3
    have HDY := hid d4
    have HNL := hid hown.nodes
    obtain ⟨pv, cv, rfl, hd⟩ := hown.nodes
    have HSD := hid (Smoothed_c (1 + (kk : Int)) L _ w3 HNL.out hv (HT0.out.below HT0.out.lt HB3.out) (by omega) (fun x hx => by have := hi4 x hx; omega))
    clear hv hl24 hi4 hown hb3 x0 x1 s1 s2 s3 d3 d4 hl1000 hd
    go_wp2_with fail
    refine HSD.out.mono ?_
    rintro e w5 ⟨v5, vs5, rfl, hown5, hb5⟩
    have HX5 := hid (HX3.out.below hb5 HX3.out.lt)
    have HB5 := hid (HB3.out.trans (hb5.mono HB3.out.size))
    have hrow := hown5.row.2
    obtain ⟨p5, c5, rfl, hd5⟩ := hown5.nodes
    have hcap : (smT L).length ≤ c5 := by
      rcases hrow with ⟨e, e2⟩ | ⟨g, cap, cur, e, _, _, hn, _⟩
      · omega
      · injection e with _ _ e; omega
    have HO5 := hid hown5
    clear hrow hd5 hown5 hb5 HSD HX3 HB3 HX2 HN2 HNA HB2 HT2 HP2
    obtain ⟨x0, x1, x2, x3⟩ := HX5.out.cells
    have lx := HX5.out.lt
    have HX4 := hid (HX5.out.set01 (.int .i64 (1 + (kk : Int))) (.slice p5 (smT L).length c5))
    have HO4 := hid (few_own (x' := .int .i64 (1 + (kk : Int))) (y' := .slice p5 (smT L).length c5) HO5.out HX5.out)
    have HB4 := hid (below_01 HB5.out (Nat.le_refl _) (.int .i64 (1 + (kk : Int))) (.slice p5 (smT L).length c5))
    go_wp2_with fail
    clear x0 x1 x2 x3 lx HX5 HB5 HO5
    generalize (w5.setCell ⟨w.heap.size, 0, none⟩ (.int .i64 (1 + (kk : Int)))).setCell ⟨w.heap.size, 1, none⟩ (.slice p5 (smT L).length c5) = w4 at *
    have HNA := hid HO4.out.nodes
    have HTB := hid (fun w' (h : Below w4.heap.size w4 w') => (show TabAt w' ∧ PatAt w' from ⟨HT0.out.below HT0.out.lt (HB4.out.trans (h.mono HB4.out.size)), HP0.out.below HP0.out.lt (HB4.out.trans (h.mono HB4.out.size))⟩))
    clear HO4 HNL
    generalize smT L = M at *
    have cDN := fun w' (h4 : Below w4.heap.size w4 w') => Deterministic_c (1 + (kk : Int)) M _ w' (HNA.out.below h4) (HTB.out _ h4).1 (HTB.out _ h4).2
    have cMN := fun w' (h4 : Below w4.heap.size w4 w') => Decomposable_c (1 + (kk : Int)) M _ w' (HNA.out.below h4)
    have cWK := fun w' (h4 : Below w4.heap.size w4 w') => works_c w' (HTB.out _ h4).1 (HTB.out _ h4).2
    have cVA := fun w' (h4 : Below w4.heap.size w4 w') => Vars_c (1 + (kk : Int)) M _ w' (HNA.out.below h4) HS2.out
    unfold DecPost at cMN
    unfold DetPost at cDN
    rw [HDN.out, HDY.out] at cDN
    rw [HS2.out, Bool.true_and] at cMN
    have CDN := hid cDN
    have CMN := hid cMN
    have CWK := hid cWK
    have CVA := hid cVA
    clear cDN cMN cWK cVA
    have hms : M.length ≤ 504 := HS1.out
    refine (CDN.out _ (Below.refl _ _)).mono ?_
    rintro e w6 ⟨rfl, hb6⟩
    have HM6 := hid hb6
    clear hb6
    obtain ⟨x0, x1, _, _⟩ := (HX4.out.below HM6.out HX4.out.lt).cells
    have lx := cell_lt x0
    cases hdt : detB M
    · go_wp2_with fail
      refine (CWK.out _ HM6.out).mono ?_
      rintro e wz ⟨rfl, hbz⟩
      have HMZ := hid (HM6.out.trans (hbz.mono HM6.out.size))
      clear hbz
      go_wp2_with fail
      go_ret
      exact ⟨rfl, HB4.out.trans (HMZ.out.mono HB4.out.size)⟩
    · go_wp2_with fail
      refine (CMN.out _ HM6.out).mono ?_
      rintro e w7 ⟨rfl, hb7⟩
      have HM7 := hid (HM6.out.trans (hb7.mono HM6.out.size))
      clear x0 x1 lx hb7 HM6
      obtain ⟨x0, x1, _, _⟩ := (HX4.out.below HM7.out HX4.out.lt).cells
      have lx := cell_lt x0
      cases hdm : decomB M
      · go_wp2_with fail
        refine (CWK.out _ HM7.out).mono ?_
        rintro e wz ⟨rfl, hbz⟩
        have HMZ := hid (HM7.out.trans (hbz.mono HM7.out.size))
        clear hbz
        go_wp2_with fail
        go_ret
        exact ⟨rfl, HB4.out.trans (HMZ.out.mono HB4.out.size)⟩
      · have HDT := hid ((detB_iff HS2.out).1 hdt)
        have HDM := hid hdm
        clear hdt hdm
        go_wp2_with fail
        refine (CVA.out _ HM7.out).mono ?_
        rintro e w8 ⟨gV, rfl, hgV, hrow, hb8⟩
        have HM8 := hid (HM7.out.trans (hb8.mono HM7.out.size))
        have HRV := hid hrow
        clear x0 x1 lx hb8 HM7 hrow hgV
        obtain ⟨x0, x1, _, _⟩ := (HX4.out.below HM8.out HX4.out.lt).cells
        have lx := cell_lt x0
        have hmk := fun w' => make_ints w' M.length (by omega) (M.length : Int) (M.length : Int) rfl rfl
        have HAL := hid ((Below.refl _ w8).alloc (Nat.le_refl _) (.cells (madeCells #[.int .i64 0] M.length) 3))
        have HON := hid (show OwnInts (w8.alloc (.cells (madeCells #[.int .i64 0] M.length) 3)) w8.heap.size (.slice (some ⟨w8.heap.size, 0, none⟩) M.length M.length) (numsOf (M.take 0) ++ List.replicate (M.length - 0) 0) from OwnInts.made w8 M.length (by omega))
        go_wp2_with fail
        generalize w8.alloc (.cells (madeCells #[.int .i64 0] M.length) 3) = w9 at *
        obtain ⟨gN, hgN⟩ : ∃ gN, gN = w8.heap.size := ⟨_, rfl⟩
        rw [← hgN] at HON ⊢
        have HGN := hid hgN
        obtain ⟨N, hNe⟩ : ∃ N, N = 2 ^ (1 + kk) := ⟨_, rfl⟩
        have hN64 : N ≤ 256 := by rw [hNe]; exact small_pow (by omega)
        have hsh : IntKind.u64.wrap (2 ^ (1 + kk)) = (N : Int) := by
          have e : (2 : Int) ^ (1 + kk) = (N : Int) := by rw [hNe]; exact (Int.natCast_pow 2 _).symm
          rw [e, IntKind.wrap_u64]; omega
        have HNE := hid hNe
        clear hNe
        obtain ⟨⟨r1, r2, r3, r4⟩, hft⟩ := (validNet_iff _).1 HS2.out
        simp only at r1 r2 r3 r4 hft
        have HFT := hid hft
        obtain ⟨q5, c6, e5, h5⟩ := HNA.out
        injection e5 with e6 e7 e8
        clear e7
        subst e6; subst e8
        obtain ⟨b5, o5, rfl, hnd5⟩ := h5.resolve_left (by intro e; rw [e] at r3; simp at r3)
        have HND := hid hnd5
        clear x0 x1 lx hmk hgN hft h5 hnd5 r1 r2 r4
        go_loopw [66] (fun z wr => ∃ (i : Nat), i ≤ M.length ∧ z = .int .i64 i ∧ Hid (OwnInts wr gN (.slice (some ⟨gN, 0, none⟩) M.length M.length) (numsOf (M.take i) ++ List.replicate (M.length - i) 0)) ∧ Hid (Below w8.heap.size w8 wr)) (fun z _ => M.length - (intOf z).toNat)
        case atStart => exact ⟨0, Nat.zero_le _, rfl, HON.out, HAL.out⟩
        case round =>
          clear HON HAL
          obtain ⟨i, hi, rfl, hrow, hbr⟩ := hrel
          by_cases hil : i < M.length
          · have HBW := hid (HM8.out.trans (hbr.out.mono HM8.out.size))
            obtain ⟨u, hu⟩ := HND.out i hil
            have hur := hu.below HBW.out
            have d0 := hur.kind
            have d1 := hur.lit
            have d2 := hur.ins
            have HU := hid hur
            have HIN := hid (ins_lt HFT.out hil)
            have HKD := hid (valid_kinds HS2.out hil)
            have hle := hur.len
            have hrow2 := hrow.out
            rw [rowQ_start hil] at hrow2
            have HRW := hid hrow2
            have HNX := hid (fun s hs => rowQ_next HFT.out hil (s := s) hs)
            have HCT := hid (show numNode (numsOf M) M[i] = (cntN (1 + kk) M (i : Int) : Int) from by
              rw [← numsOf_get HFT.out hil]
              have hv := HS2.out
              rw [show 1 + (kk : Int) = ((1 + kk : Nat) : Int) by push_cast; rfl] at hv
              exact counts hv HDM.out HDT.out HSM.out i hil)
            have HMS := hid (fun (h3 : M[i].kind = 3) (j : Nat) => (by
              have hv := HS2.out
              rw [show 1 + (kk : Int) = ((1 + kk : Nat) : Int) by push_cast; rfl] at hv
              have hp : (2 : Int) ^ (1 + kk) = (N : Int) := by rw [HNE.out]; exact (Int.natCast_pow 2 _).symm
              have hm := mul_small hv HDM.out HDT.out HSM.out hil h3 j
              rw [hp] at hm
              exact ⟨hm.1, by omega⟩ : 0 ≤ mulIns (numsOf M) 1 (M[i].ins.take j) ∧ mulIns (numsOf M) 1 (M[i].ins.take j) ≤ 40000000000000000))
            have HAS := hid (fun (j : Nat) => (by
              have hv := HS2.out
              rw [show 1 + (kk : Int) = ((1 + kk : Nat) : Int) by push_cast; rfl] at hv
              have ha := add_small (M := numsOf M) (c := 256) (M[i].ins.take j) 0 (Int.le_refl 0) fun x hx => by
                have hx2 := HIN.out x (List.mem_of_mem_take hx)
                obtain ⟨q, rfl⟩ : ∃ q : Nat, x = (q : Int) := ⟨x.toNat, by omega⟩
                rw [counts hv HDM.out HDT.out HSM.out q (by omega)]
                have hc : cntN (1 + kk) M (q : Int) ≤ 2 ^ (1 + kk) := cS_le _ _ _ _
                rw [← HNE.out] at hc
                omega
              have hlt := List.length_take_le' j M[i].ins
              exact ⟨ha.1, by omega⟩ : 0 ≤ addIns (numsOf M) 0 (M[i].ins.take j) ∧ addIns (numsOf M) 0 (M[i].ins.take j) ≤ 40000000000000000))
            have HU4 := hid hu.ints
            have zi : (0 : Int) ≤ (i : Int) ∧ (i : Int) < (M.length : Int) := by omega
            have hlg := (own_ge hrow2 (k := gN) rfl).2
            clear hu hur hrow hrow2
            generalize hxx : M[i] = x at *
            obtain ⟨xk, xl, xi⟩ := x
            obtain ⟨p2, c2, e2, hdrop⟩ := HU.out.ints
            subst e2
            clear hdrop hxx
            simp only at HIN HKD hle HNX HCT HMS HAS HU4 d0 d1
            have HBR := hid hbr.out
            clear hbr
            rcases (show xk = 0 ∨ xk = 1 ∨ xk = 2 ∨ xk = 3 ∨ xk = 4 by have := HKD.out.1; omega) with rfl | rfl | rfl | rfl | rfl
            · obtain rfl : xi = [] := HKD.out.2.1 (by decide)
              have hal : Below wr.heap.size wr (wr.alloc (.cells #[.int .i64 0, .int .i64 xl, .slice p2 0 c2] 39)) := (Below.refl _ wr).alloc (Nat.le_refl _) _
              obtain ⟨val, HRT, HNXT, HVL⟩ : ∃ val : Int, Hid (OwnInts (wr.alloc (.cells #[.int .i64 0, .int .i64 xl, .slice p2 0 c2] 39)) gN (.slice (some ⟨gN, 0, none⟩) M.length M.length) (rowQ M i val)) ∧ Hid (numsOf (M.take (i + 1)) ++ List.replicate (M.length - (i + 1)) 0 = rowQ M i val) ∧ Hid (val = (cntN (1 + kk) M (i : Int) : Int)) := ⟨0, HRW.out.below hal, HNX.out 0 rfl, HCT.out⟩
              have HBT := hid (HBR.out.trans (hal.mono HBR.out.size))
              clear hal
              go_wp2_with fail
              go_rounds 1
              go_wp2_with fail
              generalize wr.alloc (.cells #[.int .i64 0, .int .i64 xl, .slice p2 0 c2] 39) = wt at *
              have hmm := HX4.out.below (HM8.out.trans (HBT.out.mono HM8.out.size)) HX4.out.lt
              obtain ⟨x0, x1, _, _⟩ := hmm.cells
              have CN : Hid (wt.drew.cell? ⟨w.heap.size, 0, none⟩ = some (.int .i64 (1 + (kk : Int)))) := x0
              have CL : Hid (wt.drew.cell? ⟨w.heap.size, 1, none⟩ = some (.slice (some ⟨b5, o5, none⟩) M.length c5)) := x1
              have hwi : IntKind.i64.wrap ((i : Int) + 1) = (i : Int) + 1 := by rw [IntKind.wrap_i64]; omega
              have zs1 : (0 : Int) ≤ (i : Int) + 1 := by omega
              have zs2 : (i : Int) + 1 ≤ (c5 : Int) := by omega
              have zs3 : i + 1 ≤ c5 := by omega
              clear hmm x0 x1
              refine Go.Proofs.YtpdbfbjfodckgaaDoor.wp_region_L 10 9 (fun w' => w'.cell? ⟨w.heap.size, 0, none⟩ = some (.int .i64 (1 + (kk : Int))) ∧ w'.cell? ⟨w.heap.size, 1, none⟩ = some (.slice (some ⟨b5, o5, none⟩) M.length c5)) (by kernel_rfl) rfl ⟨CN.out, CL.out⟩ (fun _ => ?_)
              refine wpAnyL_pure (i := 0) (v := .pointer (some ⟨w.heap.size, 0, none⟩)) (by simp only [List.getElem?_toArray, List.getElem?_cons_zero] <;> rfl) (by kernel_rfl) (by kernel_rfl) (by kernel_rfl) (by exact fun _ _ _ h => h) (by decide) (.inr ⟨CN.out, CL.out⟩) (Or.inl ⟨by rfl, fun w _ => (by simp [execOp, go_sem, Act.eval])⟩) (fun _ => ?_)
              simp only [Act.put, List.setIfInBounds_toArray, List.set_cons_zero, List.set_cons_succ]
              refine wpAnyL_load2 (i := 1) (v := .int .i64 (1 + (kk : Int))) (by simp only [List.getElem?_toArray, List.getElem?_cons_zero, List.getElem?_cons_succ] <;> rfl) (by kernel_rfl) (by kernel_rfl) (by kernel_rfl) (by exact fun _ _ _ h => h) (by decide) (Waits.one rfl ⟨⟨1, .phase⟩, by simp, rfl, rfl⟩) (by kernel_rfl) (by kernel_rfl) (.inr ⟨CN.out, CL.out⟩) (Or.inl ⟨by rfl, fun w hw => (by obtain ⟨x0, _⟩ := hw; simp [execOp, go_sem, Act.eval, x0])⟩) (fun _ => ?_)
              simp only [Act.put, List.setIfInBounds_toArray, List.set_cons_zero, List.set_cons_succ]
              refine wpAnyL_pure (i := 2) (v := .pointer (some ⟨w.heap.size, 1, none⟩)) (by simp only [List.getElem?_toArray, List.getElem?_cons_zero, List.getElem?_cons_succ] <;> rfl) (by kernel_rfl) (by kernel_rfl) (by kernel_rfl) (by exact fun _ _ _ h => h) (by decide) (.inr ⟨CN.out, CL.out⟩) (Or.inl ⟨by rfl, fun w _ => (by simp [execOp, go_sem, Act.eval])⟩) (fun _ => ?_)
              simp only [Act.put, List.setIfInBounds_toArray, List.set_cons_zero, List.set_cons_succ]
              refine wpAnyL_load2 (i := 3) (v := .slice (some ⟨b5, o5, none⟩) M.length c5) (by simp only [List.getElem?_toArray, List.getElem?_cons_zero, List.getElem?_cons_succ] <;> rfl) (by kernel_rfl) (by kernel_rfl) (by kernel_rfl) (by exact fun _ _ _ h => h) (by decide) (Waits.one rfl ⟨⟨3, .phase⟩, by simp, rfl, rfl⟩) (by kernel_rfl) (by kernel_rfl) (.inr ⟨CN.out, CL.out⟩) (Or.inl ⟨by rfl, fun w hw => (by obtain ⟨_, x1⟩ := hw; simp [execOp, go_sem, Act.eval, x1])⟩) (fun _ => ?_)
              simp only [Act.put, List.setIfInBounds_toArray, List.set_cons_zero, List.set_cons_succ]
              refine wpAnyL_pure (i := 4) (v := .int .i64 (i : Int)) (by simp only [List.getElem?_toArray, List.getElem?_cons_zero, List.getElem?_cons_succ] <;> rfl) (by kernel_rfl) (by kernel_rfl) (by kernel_rfl) (by exact fun _ _ _ h => h) (by decide) (.inr ⟨CN.out, CL.out⟩) (Or.inl ⟨by rfl, fun w _ => (by simp [execOp, go_sem, Act.eval])⟩) (fun _ => ?_)
              simp only [Act.put, List.setIfInBounds_toArray, List.set_cons_zero, List.set_cons_succ]
              refine wpAnyL_pure (i := 5) (v := .int .i64 ((i : Int) + 1)) (by simp only [List.getElem?_toArray, List.getElem?_cons_zero, List.getElem?_cons_succ] <;> rfl) (by kernel_rfl) (by kernel_rfl) (by kernel_rfl) (by exact fun _ _ _ h => h) (by decide) (.inr ⟨CN.out, CL.out⟩) (Or.inl ⟨by rfl, fun w _ => (by simp [execOp, go_sem, Act.eval, hwi])⟩) (fun _ => ?_)
              simp only [Act.put, List.setIfInBounds_toArray, List.set_cons_zero, List.set_cons_succ]
              refine wpAnyL_pure (i := 6) (v := .slice (some ⟨b5, o5, none⟩) (i + 1) c5) (by simp only [List.getElem?_toArray, List.getElem?_cons_zero, List.getElem?_cons_succ] <;> rfl) (by kernel_rfl) (by kernel_rfl) (by kernel_rfl) (by exact fun _ _ _ h => h) (by decide) (.inr ⟨CN.out, CL.out⟩) (Or.inl ⟨by rfl, fun w _ => (by simp [execOp, go_sem, Act.eval, zs1, zs2])⟩) (fun _ => ?_)
              simp only [Act.put, List.setIfInBounds_toArray, List.set_cons_zero, List.set_cons_succ]
              refine wpAnyL_pure (i := 7) (v := .agg #[.int .i64 (1 + (kk : Int)), .slice (some ⟨b5, o5, none⟩) (i + 1) c5]) (by simp only [List.getElem?_toArray, List.getElem?_cons_zero, List.getElem?_cons_succ] <;> rfl) (by kernel_rfl) (by kernel_rfl) (by kernel_rfl) (by exact fun _ _ _ h => h) (by decide) (.inr ⟨CN.out, CL.out⟩) (Or.inl ⟨by rfl, fun w _ => (by simp [execOp, go_sem, Act.eval])⟩) (fun _ => ?_)
              simp only [Act.put, List.setIfInBounds_toArray, List.set_cons_zero, List.set_cons_succ]
              have halp : Below wt.drew.heap.size wt.drew (wt.drew.alloc (.cells #[.int .i64 0, .slice none 0 0] 24)) := (Below.refl _ wt.drew).alloc (Nat.le_refl _) _
              have hpb : Box2 (wt.drew.alloc (.cells #[.int .i64 0, .slice none 0 0] 24)) wt.heap.size 24 (.int .i64 0) (.slice none 0 0) := Box2.new wt.drew 24 (.int .i64 0) (.slice none 0 0)
              have hp_0 := hid ((halp.cell (cell_lt CN.out)).trans CN.out)
              have hp_1 := hid ((halp.cell (cell_lt CL.out)).trans CL.out)
              refine wpAnyL_one (i := 8) (by kernel_rfl) (by simp only [List.getElem?_toArray, List.getElem?_cons_zero, List.getElem?_cons_succ] <;> rfl) (by rfl) ?_
              refine opwp_value (v := .pointer (some ⟨wt.heap.size, 0, none⟩)) (w' := (wt.drew.alloc (.cells #[.int .i64 0, .slice none 0 0] 24))) (by simp [execOp, go_sem]) ⟨.inr ⟨hp_0.out, hp_1.out⟩, ?_⟩
              simp only [Act.put, List.setIfInBounds_toArray, List.set_cons_zero, List.set_cons_succ]
              refine wpAnyL_one (i := 9) (by kernel_rfl) (by simp only [List.getElem?_toArray, List.getElem?_cons_zero, List.getElem?_cons_succ] <;> rfl) (by rfl) ?_
              refine opwp_skip (w' := (((wt.drew.alloc (.cells #[.int .i64 0, .slice none 0 0] 24)).setCell ⟨wt.heap.size, 0, none⟩ (.int .i64 (1 + (kk : Int)))).setCell ⟨wt.heap.size, 1, none⟩ (.slice (some ⟨b5, o5, none⟩) (i + 1) c5))) (by simp [execOp, go_sem, Act.eval]) ⟨.inl (by kernel_rfl), ?_⟩
              simp only [Act.put]
              refine wpAnyL_done (by kernel_rfl) ?_ _
              have hb10 : Below wt.heap.size wt (((wt.drew.alloc (.cells #[.int .i64 0, .slice none 0 0] 24)).setCell ⟨wt.heap.size, 0, none⟩ (.int .i64 (1 + (kk : Int)))).setCell ⟨wt.heap.size, 1, none⟩ (.slice (some ⟨b5, o5, none⟩) (i + 1) c5)) := below_01 ((Below.refl _ wt).drew.trans halp) (Nat.le_refl _) _ _
              have HP10 := hid (hpb.set01 (.int .i64 (1 + (kk : Int))) (.slice (some ⟨b5, o5, none⟩) (i + 1) c5))
              have HB10 := hid (HBT.out.trans (hb10.mono HBT.out.size))
              have HR10 := hid (HRT.out.below hb10)
              clear halp hpb hb10 CN CL hwi hp_0 hp_1
              generalize ((wt.drew.alloc (.cells #[.int .i64 0, .slice none 0 0] 24)).setCell ⟨wt.heap.size, 0, none⟩ (.int .i64 (1 + (kk : Int)))).setCell ⟨wt.heap.size, 1, none⟩ (.slice (some ⟨b5, o5, none⟩) (i + 1) c5) = w10 at *
              obtain ⟨x0, x1, _, _⟩ := (HX4.out.below (HM8.out.trans (HB10.out.mono HM8.out.size)) HX4.out.lt).cells
              go_wp2_with fail
              rw [hsh]
              clear x0 x1
              go_loopw [14, 130] (fun y z wq => ∃ (k : Nat), k ≤ N ∧ z = .int .u64 k ∧ y = .int .i64 (cntK (sOf (vsOf M) (i : Int)) M (i : Int) k : Nat) ∧ Hid (Below w10.heap.size w10 wq)) (fun _ z _ => N - (intOf z).toNat)
              case atStart => exact ⟨0, Nat.zero_le _, rfl, rfl, Below.refl _ _⟩
              case round =>
                obtain ⟨k, hk, rfl, rfl, hbq⟩ := hrel
                have HB8 := hid (HB10.out.trans (hbq.out.mono HB10.out.size))
                have HBQ := hid hbq.out
                clear hbq
                have hcl := cntK_le (sOf (vsOf M) (i : Int)) M (i : Int) k
                by_cases hkl : k < N
                · have zk : (k : Int) < (N : Int) := by omega
                  have HCS := hid (cntK_succ (sOf (vsOf M) (i : Int)) M (i : Int) k)
                  obtain ⟨t, ht, y0, y1, _, _⟩ := (HRV.out.below HB8.out HRV.out.lt).getS i (by rw [vsOf_length]; exact hil)
                  rw [ht] at HCS hcl ⊢
                  obtain ⟨x, hx, hsub⟩ := sub_word (k := k) (by omega) t
                  have lgv := cell_lt y0
                  have HNP := hid (nodes_take (c' := c5) (HNA.out.below (HM8.out.trans (HB8.out.mono HM8.out.size))) hil)
                  have HEV := hid (Eval_k (1 + (kk : Int)) (M.take (i + 1)) _ k wr HNP.out (valid_take HS2.out hil) (by omega))
                  rw [eval_take hil] at HEV
                  have hp := HP10.out.below HBQ.out HP10.out.lt
                  obtain ⟨z0, z1, _, _⟩ := hp.cells
                  have lpp := hp.lt
                  clear ht hp
                  generalize cntK t M (i : Int) k = cc at HCS hcl ⊢
                  cases hsb : sub (setW k) t
                  · rw [hsb] at hsub HCS
                    have HC2 := hid (HCS.out.trans (by rw [Bool.false_and, if_neg (by simp), Nat.add_zero]))
                    go_wp2_with fail
                    go_roundw
                    case rel => exact ⟨k + 1, by omega, by go_num, by rw [HC2.out], HBQ.out⟩
                    case measure => simp [intOf]; omega
                  · rw [hsb] at hsub HCS
                    have hx0 : x = 0 := by simpa using hsub
                    subst hx0
                    generalize bOf (bsOf (has (setW k)) M) (i : Int) = ev at HEV HCS
                    go_wp2_with fail
                    refine HEV.out.mono ?_
                    rintro e wz ⟨rfl, hbz⟩
                    have HBZ := hid (HBQ.out.trans (hbz.mono HBQ.out.size))
                    clear hbz hx hsub y0 y1 z0 z1
                    cases ev
                    · have HC2 := hid (HCS.out.trans (by rw [Bool.true_and, if_neg (by simp), Nat.add_zero]))
                      go_wp2_with fail
                      go_roundw
                      case rel => exact ⟨k + 1, by omega, by go_num, by rw [HC2.out], HBZ.out⟩
                      case measure => simp [intOf]; omega
                    · have HC2 := hid (HCS.out.trans (by rw [Bool.true_and, if_pos rfl]))
                      go_wp2_with fail
                      go_roundw
                      case rel => exact ⟨k + 1, by omega, by go_num, by rw [HC2.out]; go_num, HBZ.out⟩
                      case measure => simp [intOf]; omega
                · obtain rfl : k = N := by omega
                  have hck : (cntK (sOf (vsOf M) (i : Int)) M (i : Int) k : Int) = val := by
                    rw [HNE.out, cntK_all M (i : Int) (by omega), HVL.out]
                  generalize cntK (sOf (vsOf M) (i : Int)) M (i : Int) k = cc at hck hcl ⊢
                  have hrz := HR10.out.below HBQ.out
                  obtain ⟨g, cg, eg, _, hgl, hcg⟩ := hrz.cells (by rw [rowQ_length _ hil]; omega)
                  injection eg with eg1 eg2 eg3
                  injection eg1 with eg1
                  injection eg1 with eg1 _ _
                  clear eg2 eg3
                  subst eg1
                  have hcell := (hcg i (by rw [rowQ_length _ hil]; exact hil)).1
                  rw [rowQ_at _ hil] at hcell
                  rw [← hck] at hcell
                  have HRZ := hid hrz
                  have dcc : ((cc : Int) != (cc : Int)) = false := by simp
                  clear hcg hrz hck
                  go_wp2_with fail
                  go_roundw
                  case rel => exact ⟨i + 1, by omega, by go_num, (by rw [HNXT.out]; exact HRZ.out), HB8.out⟩
                  case measure => simp [intOf]; omega
            · obtain rfl : xi = [] := HKD.out.2.1 (by decide)
              obtain ⟨g, cg, eg, _, hgl, hcg⟩ := HRW.out.cells (by rw [rowQ_length _ hil]; omega)
              injection eg with eg1 eg2 eg3
              injection eg1 with eg1
              injection eg1 with eg1 _ _
              clear eg2 eg3
              subst eg1
              obtain ⟨y1, y2⟩ := hcg i (by rw [rowQ_length _ hil]; exact hil)
              have h7 := HRW.out.store i (by rw [rowQ_length _ hil]; exact hil) 1
              rw [rowQ_set _ _ hil] at h7
              have hszk : (wr.setCell ⟨gN, i, none⟩ (.int .i64 1)).heap.size = wr.heap.size := by simp [World.setCell]
              have hal : Below (wr.setCell ⟨gN, i, none⟩ (.int .i64 1)).heap.size (wr.setCell ⟨gN, i, none⟩ (.int .i64 1)) ((wr.setCell ⟨gN, i, none⟩ (.int .i64 1)).alloc (.cells #[.int .i64 1, .int .i64 xl, .slice p2 0 c2] 39)) := (Below.refl _ _).alloc (Nat.le_refl _) _
              obtain ⟨val, HRT, HNXT, HVL⟩ : ∃ val : Int, Hid (OwnInts ((wr.setCell ⟨gN, i, none⟩ (.int .i64 1)).alloc (.cells #[.int .i64 1, .int .i64 xl, .slice p2 0 c2] 39)) gN (.slice (some ⟨gN, 0, none⟩) M.length M.length) (rowQ M i val)) ∧ Hid (numsOf (M.take (i + 1)) ++ List.replicate (M.length - (i + 1)) 0 = rowQ M i val) ∧ Hid (val = (cntN (1 + kk) M (i : Int) : Int)) := ⟨1, h7.below hal, HNX.out 1 rfl, HCT.out⟩
              have hb7 := HBR.out.setCell (p := ⟨gN, i, none⟩) (by rw [HGN.out]; exact Nat.le_refl _) (.int .i64 1)
              have HBT := hid (hb7.alloc (by rw [hszk]; exact HBR.out.size) (.cells #[.int .i64 1, .int .i64 xl, .slice p2 0 c2] 39))
              clear hal hcg h7 hb7
              go_wp2_with fail
              go_rounds 1
              go_wp2_with fail
              generalize (wr.setCell ⟨gN, i, none⟩ (.int .i64 1)).alloc (.cells #[.int .i64 1, .int .i64 xl, .slice p2 0 c2] 39) = wt at *
              have hmm := HX4.out.below (HM8.out.trans (HBT.out.mono HM8.out.size)) HX4.out.lt
              obtain ⟨x0, x1, _, _⟩ := hmm.cells
              have CN : Hid (wt.drew.cell? ⟨w.heap.size, 0, none⟩ = some (.int .i64 (1 + (kk : Int)))) := x0
              have CL : Hid (wt.drew.cell? ⟨w.heap.size, 1, none⟩ = some (.slice (some ⟨b5, o5, none⟩) M.length c5)) := x1
              have hwi : IntKind.i64.wrap ((i : Int) + 1) = (i : Int) + 1 := by rw [IntKind.wrap_i64]; omega
              have zs1 : (0 : Int) ≤ (i : Int) + 1 := by omega
              have zs2 : (i : Int) + 1 ≤ (c5 : Int) := by omega
              have zs3 : i + 1 ≤ c5 := by omega
              clear hmm x0 x1
              refine Go.Proofs.YtpdbfbjfodckgaaDoor.wp_region_L 10 9 (fun w' => w'.cell? ⟨w.heap.size, 0, none⟩ = some (.int .i64 (1 + (kk : Int))) ∧ w'.cell? ⟨w.heap.size, 1, none⟩ = some (.slice (some ⟨b5, o5, none⟩) M.length c5)) (by kernel_rfl) rfl ⟨CN.out, CL.out⟩ (fun _ => ?_)
              refine wpAnyL_pure (i := 0) (v := .pointer (some ⟨w.heap.size, 0, none⟩)) (by simp only [List.getElem?_toArray, List.getElem?_cons_zero] <;> rfl) (by kernel_rfl) (by kernel_rfl) (by kernel_rfl) (by exact fun _ _ _ h => h) (by decide) (.inr ⟨CN.out, CL.out⟩) (Or.inl ⟨by rfl, fun w _ => (by simp [execOp, go_sem, Act.eval])⟩) (fun _ => ?_)
              simp only [Act.put, List.setIfInBounds_toArray, List.set_cons_zero, List.set_cons_succ]
              refine wpAnyL_load2 (i := 1) (v := .int .i64 (1 + (kk : Int))) (by simp only [List.getElem?_toArray, List.getElem?_cons_zero, List.getElem?_cons_succ] <;> rfl) (by kernel_rfl) (by kernel_rfl) (by kernel_rfl) (by exact fun _ _ _ h => h) (by decide) (Waits.one rfl ⟨⟨1, .phase⟩, by simp, rfl, rfl⟩) (by kernel_rfl) (by kernel_rfl) (.inr ⟨CN.out, CL.out⟩) (Or.inl ⟨by rfl, fun w hw => (by obtain ⟨x0, _⟩ := hw; simp [execOp, go_sem, Act.eval, x0])⟩) (fun _ => ?_)
              simp only [Act.put, List.setIfInBounds_toArray, List.set_cons_zero, List.set_cons_succ]
              refine wpAnyL_pure (i := 2) (v := .pointer (some ⟨w.heap.size, 1, none⟩)) (by simp only [List.getElem?_toArray, List.getElem?_cons_zero, List.getElem?_cons_succ] <;> rfl) (by kernel_rfl) (by kernel_rfl) (by kernel_rfl) (by exact fun _ _ _ h => h) (by decide) (.inr ⟨CN.out, CL.out⟩) (Or.inl ⟨by rfl, fun w _ => (by simp [execOp, go_sem, Act.eval])⟩) (fun _ => ?_)
              simp only [Act.put, List.setIfInBounds_toArray, List.set_cons_zero, List.set_cons_succ]
              refine wpAnyL_load2 (i := 3) (v := .slice (some ⟨b5, o5, none⟩) M.length c5) (by simp only [List.getElem?_toArray, List.getElem?_cons_zero, List.getElem?_cons_succ] <;> rfl) (by kernel_rfl) (by kernel_rfl) (by kernel_rfl) (by exact fun _ _ _ h => h) (by decide) (Waits.one rfl ⟨⟨3, .phase⟩, by simp, rfl, rfl⟩) (by kernel_rfl) (by kernel_rfl) (.inr ⟨CN.out, CL.out⟩) (Or.inl ⟨by rfl, fun w hw => (by obtain ⟨_, x1⟩ := hw; simp [execOp, go_sem, Act.eval, x1])⟩) (fun _ => ?_)
              simp only [Act.put, List.setIfInBounds_toArray, List.set_cons_zero, List.set_cons_succ]
              refine wpAnyL_pure (i := 4) (v := .int .i64 (i : Int)) (by simp only [List.getElem?_toArray, List.getElem?_cons_zero, List.getElem?_cons_succ] <;> rfl) (by kernel_rfl) (by kernel_rfl) (by kernel_rfl) (by exact fun _ _ _ h => h) (by decide) (.inr ⟨CN.out, CL.out⟩) (Or.inl ⟨by rfl, fun w _ => (by simp [execOp, go_sem, Act.eval])⟩) (fun _ => ?_)
              simp only [Act.put, List.setIfInBounds_toArray, List.set_cons_zero, List.set_cons_succ]
              refine wpAnyL_pure (i := 5) (v := .int .i64 ((i : Int) + 1)) (by simp only [List.getElem?_toArray, List.getElem?_cons_zero, List.getElem?_cons_succ] <;> rfl) (by kernel_rfl) (by kernel_rfl) (by kernel_rfl) (by exact fun _ _ _ h => h) (by decide) (.inr ⟨CN.out, CL.out⟩) (Or.inl ⟨by rfl, fun w _ => (by simp [execOp, go_sem, Act.eval, hwi])⟩) (fun _ => ?_)
              simp only [Act.put, List.setIfInBounds_toArray, List.set_cons_zero, List.set_cons_succ]
              refine wpAnyL_pure (i := 6) (v := .slice (some ⟨b5, o5, none⟩) (i + 1) c5) (by simp only [List.getElem?_toArray, List.getElem?_cons_zero, List.getElem?_cons_succ] <;> rfl) (by kernel_rfl) (by kernel_rfl) (by kernel_rfl) (by exact fun _ _ _ h => h) (by decide) (.inr ⟨CN.out, CL.out⟩) (Or.inl ⟨by rfl, fun w _ => (by simp [execOp, go_sem, Act.eval, zs1, zs2])⟩) (fun _ => ?_)
              simp only [Act.put, List.setIfInBounds_toArray, List.set_cons_zero, List.set_cons_succ]
              refine wpAnyL_pure (i := 7) (v := .agg #[.int .i64 (1 + (kk : Int)), .slice (some ⟨b5, o5, none⟩) (i + 1) c5]) (by simp only [List.getElem?_toArray, List.getElem?_cons_zero, List.getElem?_cons_succ] <;> rfl) (by kernel_rfl) (by kernel_rfl) (by kernel_rfl) (by exact fun _ _ _ h => h) (by decide) (.inr ⟨CN.out, CL.out⟩) (Or.inl ⟨by rfl, fun w _ => (by simp [execOp, go_sem, Act.eval])⟩) (fun _ => ?_)
              simp only [Act.put, List.setIfInBounds_toArray, List.set_cons_zero, List.set_cons_succ]
              have halp : Below wt.drew.heap.size wt.drew (wt.drew.alloc (.cells #[.int .i64 0, .slice none 0 0] 24)) := (Below.refl _ wt.drew).alloc (Nat.le_refl _) _
              have hpb : Box2 (wt.drew.alloc (.cells #[.int .i64 0, .slice none 0 0] 24)) wt.heap.size 24 (.int .i64 0) (.slice none 0 0) := Box2.new wt.drew 24 (.int .i64 0) (.slice none 0 0)
              have hp_0 := hid ((halp.cell (cell_lt CN.out)).trans CN.out)
              have hp_1 := hid ((halp.cell (cell_lt CL.out)).trans CL.out)
              refine wpAnyL_one (i := 8) (by kernel_rfl) (by simp only [List.getElem?_toArray, List.getElem?_cons_zero, List.getElem?_cons_succ] <;> rfl) (by rfl) ?_
              refine opwp_value (v := .pointer (some ⟨wt.heap.size, 0, none⟩)) (w' := (wt.drew.alloc (.cells #[.int .i64 0, .slice none 0 0] 24))) (by simp [execOp, go_sem]) ⟨.inr ⟨hp_0.out, hp_1.out⟩, ?_⟩
              simp only [Act.put, List.setIfInBounds_toArray, List.set_cons_zero, List.set_cons_succ]
              refine wpAnyL_one (i := 9) (by kernel_rfl) (by simp only [List.getElem?_toArray, List.getElem?_cons_zero, List.getElem?_cons_succ] <;> rfl) (by rfl) ?_
              refine opwp_skip (w' := (((wt.drew.alloc (.cells #[.int .i64 0, .slice none 0 0] 24)).setCell ⟨wt.heap.size, 0, none⟩ (.int .i64 (1 + (kk : Int)))).setCell ⟨wt.heap.size, 1, none⟩ (.slice (some ⟨b5, o5, none⟩) (i + 1) c5))) (by simp [execOp, go_sem, Act.eval]) ⟨.inl (by kernel_rfl), ?_⟩
              simp only [Act.put]
              refine wpAnyL_done (by kernel_rfl) ?_ _
              have hb10 : Below wt.heap.size wt (((wt.drew.alloc (.cells #[.int .i64 0, .slice none 0 0] 24)).setCell ⟨wt.heap.size, 0, none⟩ (.int .i64 (1 + (kk : Int)))).setCell ⟨wt.heap.size, 1, none⟩ (.slice (some ⟨b5, o5, none⟩) (i + 1) c5)) := below_01 ((Below.refl _ wt).drew.trans halp) (Nat.le_refl _) _ _
              have HP10 := hid (hpb.set01 (.int .i64 (1 + (kk : Int))) (.slice (some ⟨b5, o5, none⟩) (i + 1) c5))
              have HB10 := hid (HBT.out.trans (hb10.mono HBT.out.size))
              have HR10 := hid (HRT.out.below hb10)
              clear halp hpb hb10 CN CL hwi hp_0 hp_1
              generalize ((wt.drew.alloc (.cells #[.int .i64 0, .slice none 0 0] 24)).setCell ⟨wt.heap.size, 0, none⟩ (.int .i64 (1 + (kk : Int)))).setCell ⟨wt.heap.size, 1, none⟩ (.slice (some ⟨b5, o5, none⟩) (i + 1) c5) = w10 at *
              obtain ⟨x0, x1, _, _⟩ := (HX4.out.below (HM8.out.trans (HB10.out.mono HM8.out.size)) HX4.out.lt).cells
              go_wp2_with fail
              rw [hsh]
              clear x0 x1
              go_loopw [14, 130] (fun y z wq => ∃ (k : Nat), k ≤ N ∧ z = .int .u64 k ∧ y = .int .i64 (cntK (sOf (vsOf M) (i : Int)) M (i : Int) k : Nat) ∧ Hid (Below w10.heap.size w10 wq)) (fun _ z _ => N - (intOf z).toNat)
              case atStart => exact ⟨0, Nat.zero_le _, rfl, rfl, Below.refl _ _⟩
              case round =>
                obtain ⟨k, hk, rfl, rfl, hbq⟩ := hrel
                have HB8 := hid (HB10.out.trans (hbq.out.mono HB10.out.size))
                have HBQ := hid hbq.out
                clear hbq
                have hcl := cntK_le (sOf (vsOf M) (i : Int)) M (i : Int) k
                by_cases hkl : k < N
                · have zk : (k : Int) < (N : Int) := by omega
                  have HCS := hid (cntK_succ (sOf (vsOf M) (i : Int)) M (i : Int) k)
                  obtain ⟨t, ht, y0, y1, _, _⟩ := (HRV.out.below HB8.out HRV.out.lt).getS i (by rw [vsOf_length]; exact hil)
                  rw [ht] at HCS hcl ⊢
                  obtain ⟨x, hx, hsub⟩ := sub_word (k := k) (by omega) t
                  have lgv := cell_lt y0
                  have HNP := hid (nodes_take (c' := c5) (HNA.out.below (HM8.out.trans (HB8.out.mono HM8.out.size))) hil)
                  have HEV := hid (Eval_k (1 + (kk : Int)) (M.take (i + 1)) _ k wr HNP.out (valid_take HS2.out hil) (by omega))
                  rw [eval_take hil] at HEV
                  have hp := HP10.out.below HBQ.out HP10.out.lt
                  obtain ⟨z0, z1, _, _⟩ := hp.cells
                  have lpp := hp.lt
                  clear ht hp
                  generalize cntK t M (i : Int) k = cc at HCS hcl ⊢
                  cases hsb : sub (setW k) t
                  · rw [hsb] at hsub HCS
                    have HC2 := hid (HCS.out.trans (by rw [Bool.false_and, if_neg (by simp), Nat.add_zero]))
                    go_wp2_with fail
                    go_roundw
                    case rel => exact ⟨k + 1, by omega, by go_num, by rw [HC2.out], HBQ.out⟩
                    case measure => simp [intOf]; omega
                  · rw [hsb] at hsub HCS
                    have hx0 : x = 0 := by simpa using hsub
                    subst hx0
                    generalize bOf (bsOf (has (setW k)) M) (i : Int) = ev at HEV HCS
                    go_wp2_with fail
                    refine HEV.out.mono ?_
                    rintro e wz ⟨rfl, hbz⟩
                    have HBZ := hid (HBQ.out.trans (hbz.mono HBQ.out.size))
                    clear hbz hx hsub y0 y1 z0 z1
                    cases ev
                    · have HC2 := hid (HCS.out.trans (by rw [Bool.true_and, if_neg (by simp), Nat.add_zero]))
                      go_wp2_with fail
                      go_roundw
                      case rel => exact ⟨k + 1, by omega, by go_num, by rw [HC2.out], HBZ.out⟩
                      case measure => simp [intOf]; omega
                    · have HC2 := hid (HCS.out.trans (by rw [Bool.true_and, if_pos rfl]))
                      go_wp2_with fail
                      go_roundw
                      case rel => exact ⟨k + 1, by omega, by go_num, by rw [HC2.out]; go_num, HBZ.out⟩
                      case measure => simp [intOf]; omega
                · obtain rfl : k = N := by omega
                  have hck : (cntK (sOf (vsOf M) (i : Int)) M (i : Int) k : Int) = val := by
                    rw [HNE.out, cntK_all M (i : Int) (by omega), HVL.out]
                  generalize cntK (sOf (vsOf M) (i : Int)) M (i : Int) k = cc at hck hcl ⊢
                  have hrz := HR10.out.below HBQ.out
                  obtain ⟨g, cg, eg, _, hgl, hcg⟩ := hrz.cells (by rw [rowQ_length _ hil]; omega)
                  injection eg with eg1 eg2 eg3
                  injection eg1 with eg1
                  injection eg1 with eg1 _ _
                  clear eg2 eg3
                  subst eg1
                  have hcell := (hcg i (by rw [rowQ_length _ hil]; exact hil)).1
                  rw [rowQ_at _ hil] at hcell
                  rw [← hck] at hcell
                  have HRZ := hid hrz
                  have dcc : ((cc : Int) != (cc : Int)) = false := by simp
                  clear hcg hrz hck
                  go_wp2_with fail
                  go_roundw
                  case rel => exact ⟨i + 1, by omega, by go_num, (by rw [HNXT.out]; exact HRZ.out), HB8.out⟩
                  case measure => simp [intOf]; omega
            · obtain rfl : xi = [] := HKD.out.2.1 (by decide)
              obtain ⟨g, cg, eg, _, hgl, hcg⟩ := HRW.out.cells (by rw [rowQ_length _ hil]; omega)
              injection eg with eg1 eg2 eg3
              injection eg1 with eg1
              injection eg1 with eg1 _ _
              clear eg2 eg3
              subst eg1
              obtain ⟨y1, y2⟩ := hcg i (by rw [rowQ_length _ hil]; exact hil)
              have h7 := HRW.out.store i (by rw [rowQ_length _ hil]; exact hil) 1
              rw [rowQ_set _ _ hil] at h7
              have hszk : (wr.setCell ⟨gN, i, none⟩ (.int .i64 1)).heap.size = wr.heap.size := by simp [World.setCell]
              have hal : Below (wr.setCell ⟨gN, i, none⟩ (.int .i64 1)).heap.size (wr.setCell ⟨gN, i, none⟩ (.int .i64 1)) ((wr.setCell ⟨gN, i, none⟩ (.int .i64 1)).alloc (.cells #[.int .i64 2, .int .i64 xl, .slice p2 0 c2] 39)) := (Below.refl _ _).alloc (Nat.le_refl _) _
              obtain ⟨val, HRT, HNXT, HVL⟩ : ∃ val : Int, Hid (OwnInts ((wr.setCell ⟨gN, i, none⟩ (.int .i64 1)).alloc (.cells #[.int .i64 2, .int .i64 xl, .slice p2 0 c2] 39)) gN (.slice (some ⟨gN, 0, none⟩) M.length M.length) (rowQ M i val)) ∧ Hid (numsOf (M.take (i + 1)) ++ List.replicate (M.length - (i + 1)) 0 = rowQ M i val) ∧ Hid (val = (cntN (1 + kk) M (i : Int) : Int)) := ⟨1, h7.below hal, HNX.out 1 rfl, HCT.out⟩
              have hb7 := HBR.out.setCell (p := ⟨gN, i, none⟩) (by rw [HGN.out]; exact Nat.le_refl _) (.int .i64 1)
              have HBT := hid (hb7.alloc (by rw [hszk]; exact HBR.out.size) (.cells #[.int .i64 2, .int .i64 xl, .slice p2 0 c2] 39))
              clear hal hcg h7 hb7
              go_wp2_with fail
              go_rounds 1
              go_wp2_with fail
              generalize (wr.setCell ⟨gN, i, none⟩ (.int .i64 1)).alloc (.cells #[.int .i64 2, .int .i64 xl, .slice p2 0 c2] 39) = wt at *
              have hmm := HX4.out.below (HM8.out.trans (HBT.out.mono HM8.out.size)) HX4.out.lt
              obtain ⟨x0, x1, _, _⟩ := hmm.cells
              have CN : Hid (wt.drew.cell? ⟨w.heap.size, 0, none⟩ = some (.int .i64 (1 + (kk : Int)))) := x0
              have CL : Hid (wt.drew.cell? ⟨w.heap.size, 1, none⟩ = some (.slice (some ⟨b5, o5, none⟩) M.length c5)) := x1
              have hwi : IntKind.i64.wrap ((i : Int) + 1) = (i : Int) + 1 := by rw [IntKind.wrap_i64]; omega
              have zs1 : (0 : Int) ≤ (i : Int) + 1 := by omega
              have zs2 : (i : Int) + 1 ≤ (c5 : Int) := by omega
              have zs3 : i + 1 ≤ c5 := by omega
              clear hmm x0 x1
              refine Go.Proofs.YtpdbfbjfodckgaaDoor.wp_region_L 10 9 (fun w' => w'.cell? ⟨w.heap.size, 0, none⟩ = some (.int .i64 (1 + (kk : Int))) ∧ w'.cell? ⟨w.heap.size, 1, none⟩ = some (.slice (some ⟨b5, o5, none⟩) M.length c5)) (by kernel_rfl) rfl ⟨CN.out, CL.out⟩ (fun _ => ?_)
              refine wpAnyL_pure (i := 0) (v := .pointer (some ⟨w.heap.size, 0, none⟩)) (by simp only [List.getElem?_toArray, List.getElem?_cons_zero] <;> rfl) (by kernel_rfl) (by kernel_rfl) (by kernel_rfl) (by exact fun _ _ _ h => h) (by decide) (.inr ⟨CN.out, CL.out⟩) (Or.inl ⟨by rfl, fun w _ => (by simp [execOp, go_sem, Act.eval])⟩) (fun _ => ?_)
              simp only [Act.put, List.setIfInBounds_toArray, List.set_cons_zero, List.set_cons_succ]
              refine wpAnyL_load2 (i := 1) (v := .int .i64 (1 + (kk : Int))) (by simp only [List.getElem?_toArray, List.getElem?_cons_zero, List.getElem?_cons_succ] <;> rfl) (by kernel_rfl) (by kernel_rfl) (by kernel_rfl) (by exact fun _ _ _ h => h) (by decide) (Waits.one rfl ⟨⟨1, .phase⟩, by simp, rfl, rfl⟩) (by kernel_rfl) (by kernel_rfl) (.inr ⟨CN.out, CL.out⟩) (Or.inl ⟨by rfl, fun w hw => (by obtain ⟨x0, _⟩ := hw; simp [execOp, go_sem, Act.eval, x0])⟩) (fun _ => ?_)
              simp only [Act.put, List.setIfInBounds_toArray, List.set_cons_zero, List.set_cons_succ]
              refine wpAnyL_pure (i := 2) (v := .pointer (some ⟨w.heap.size, 1, none⟩)) (by simp only [List.getElem?_toArray, List.getElem?_cons_zero, List.getElem?_cons_succ] <;> rfl) (by kernel_rfl) (by kernel_rfl) (by kernel_rfl) (by exact fun _ _ _ h => h) (by decide) (.inr ⟨CN.out, CL.out⟩) (Or.inl ⟨by rfl, fun w _ => (by simp [execOp, go_sem, Act.eval])⟩) (fun _ => ?_)
              simp only [Act.put, List.setIfInBounds_toArray, List.set_cons_zero, List.set_cons_succ]
              refine wpAnyL_load2 (i := 3) (v := .slice (some ⟨b5, o5, none⟩) M.length c5) (by simp only [List.getElem?_toArray, List.getElem?_cons_zero, List.getElem?_cons_succ] <;> rfl) (by kernel_rfl) (by kernel_rfl) (by kernel_rfl) (by exact fun _ _ _ h => h) (by decide) (Waits.one rfl ⟨⟨3, .phase⟩, by simp, rfl, rfl⟩) (by kernel_rfl) (by kernel_rfl) (.inr ⟨CN.out, CL.out⟩) (Or.inl ⟨by rfl, fun w hw => (by obtain ⟨_, x1⟩ := hw; simp [execOp, go_sem, Act.eval, x1])⟩) (fun _ => ?_)
              simp only [Act.put, List.setIfInBounds_toArray, List.set_cons_zero, List.set_cons_succ]
              refine wpAnyL_pure (i := 4) (v := .int .i64 (i : Int)) (by simp only [List.getElem?_toArray, List.getElem?_cons_zero, List.getElem?_cons_succ] <;> rfl) (by kernel_rfl) (by kernel_rfl) (by kernel_rfl) (by exact fun _ _ _ h => h) (by decide) (.inr ⟨CN.out, CL.out⟩) (Or.inl ⟨by rfl, fun w _ => (by simp [execOp, go_sem, Act.eval])⟩) (fun _ => ?_)
              simp only [Act.put, List.setIfInBounds_toArray, List.set_cons_zero, List.set_cons_succ]
              refine wpAnyL_pure (i := 5) (v := .int .i64 ((i : Int) + 1)) (by simp only [List.getElem?_toArray, List.getElem?_cons_zero, List.getElem?_cons_succ] <;> rfl) (by kernel_rfl) (by kernel_rfl) (by kernel_rfl) (by exact fun _ _ _ h => h) (by decide) (.inr ⟨CN.out, CL.out⟩) (Or.inl ⟨by rfl, fun w _ => (by simp [execOp, go_sem, Act.eval, hwi])⟩) (fun _ => ?_)
              simp only [Act.put, List.setIfInBounds_toArray, List.set_cons_zero, List.set_cons_succ]
              refine wpAnyL_pure (i := 6) (v := .slice (some ⟨b5, o5, none⟩) (i + 1) c5) (by simp only [List.getElem?_toArray, List.getElem?_cons_zero, List.getElem?_cons_succ] <;> rfl) (by kernel_rfl) (by kernel_rfl) (by kernel_rfl) (by exact fun _ _ _ h => h) (by decide) (.inr ⟨CN.out, CL.out⟩) (Or.inl ⟨by rfl, fun w _ => (by simp [execOp, go_sem, Act.eval, zs1, zs2])⟩) (fun _ => ?_)
              simp only [Act.put, List.setIfInBounds_toArray, List.set_cons_zero, List.set_cons_succ]
              refine wpAnyL_pure (i := 7) (v := .agg #[.int .i64 (1 + (kk : Int)), .slice (some ⟨b5, o5, none⟩) (i + 1) c5]) (by simp only [List.getElem?_toArray, List.getElem?_cons_zero, List.getElem?_cons_succ] <;> rfl) (by kernel_rfl) (by kernel_rfl) (by kernel_rfl) (by exact fun _ _ _ h => h) (by decide) (.inr ⟨CN.out, CL.out⟩) (Or.inl ⟨by rfl, fun w _ => (by simp [execOp, go_sem, Act.eval])⟩) (fun _ => ?_)
              simp only [Act.put, List.setIfInBounds_toArray, List.set_cons_zero, List.set_cons_succ]
              have halp : Below wt.drew.heap.size wt.drew (wt.drew.alloc (.cells #[.int .i64 0, .slice none 0 0] 24)) := (Below.refl _ wt.drew).alloc (Nat.le_refl _) _
              have hpb : Box2 (wt.drew.alloc (.cells #[.int .i64 0, .slice none 0 0] 24)) wt.heap.size 24 (.int .i64 0) (.slice none 0 0) := Box2.new wt.drew 24 (.int .i64 0) (.slice none 0 0)
              have hp_0 := hid ((halp.cell (cell_lt CN.out)).trans CN.out)
              have hp_1 := hid ((halp.cell (cell_lt CL.out)).trans CL.out)
              refine wpAnyL_one (i := 8) (by kernel_rfl) (by simp only [List.getElem?_toArray, List.getElem?_cons_zero, List.getElem?_cons_succ] <;> rfl) (by rfl) ?_
              refine opwp_value (v := .pointer (some ⟨wt.heap.size, 0, none⟩)) (w' := (wt.drew.alloc (.cells #[.int .i64 0, .slice none 0 0] 24))) (by simp [execOp, go_sem]) ⟨.inr ⟨hp_0.out, hp_1.out⟩, ?_⟩
              simp only [Act.put, List.setIfInBounds_toArray, List.set_cons_zero, List.set_cons_succ]
              refine wpAnyL_one (i := 9) (by kernel_rfl) (by simp only [List.getElem?_toArray, List.getElem?_cons_zero, List.getElem?_cons_succ] <;> rfl) (by rfl) ?_
              refine opwp_skip (w' := (((wt.drew.alloc (.cells #[.int .i64 0, .slice none 0 0] 24)).setCell ⟨wt.heap.size, 0, none⟩ (.int .i64 (1 + (kk : Int)))).setCell ⟨wt.heap.size, 1, none⟩ (.slice (some ⟨b5, o5, none⟩) (i + 1) c5))) (by simp [execOp, go_sem, Act.eval]) ⟨.inl (by kernel_rfl), ?_⟩
              simp only [Act.put]
              refine wpAnyL_done (by kernel_rfl) ?_ _
              have hb10 : Below wt.heap.size wt (((wt.drew.alloc (.cells #[.int .i64 0, .slice none 0 0] 24)).setCell ⟨wt.heap.size, 0, none⟩ (.int .i64 (1 + (kk : Int)))).setCell ⟨wt.heap.size, 1, none⟩ (.slice (some ⟨b5, o5, none⟩) (i + 1) c5)) := below_01 ((Below.refl _ wt).drew.trans halp) (Nat.le_refl _) _ _
              have HP10 := hid (hpb.set01 (.int .i64 (1 + (kk : Int))) (.slice (some ⟨b5, o5, none⟩) (i + 1) c5))
              have HB10 := hid (HBT.out.trans (hb10.mono HBT.out.size))
              have HR10 := hid (HRT.out.below hb10)
              clear halp hpb hb10 CN CL hwi hp_0 hp_1
              generalize ((wt.drew.alloc (.cells #[.int .i64 0, .slice none 0 0] 24)).setCell ⟨wt.heap.size, 0, none⟩ (.int .i64 (1 + (kk : Int)))).setCell ⟨wt.heap.size, 1, none⟩ (.slice (some ⟨b5, o5, none⟩) (i + 1) c5) = w10 at *
              obtain ⟨x0, x1, _, _⟩ := (HX4.out.below (HM8.out.trans (HB10.out.mono HM8.out.size)) HX4.out.lt).cells
              go_wp2_with fail
              rw [hsh]
              clear x0 x1
              go_loopw [14, 130] (fun y z wq => ∃ (k : Nat), k ≤ N ∧ z = .int .u64 k ∧ y = .int .i64 (cntK (sOf (vsOf M) (i : Int)) M (i : Int) k : Nat) ∧ Hid (Below w10.heap.size w10 wq)) (fun _ z _ => N - (intOf z).toNat)
              case atStart => exact ⟨0, Nat.zero_le _, rfl, rfl, Below.refl _ _⟩
              case round =>
                obtain ⟨k, hk, rfl, rfl, hbq⟩ := hrel
                have HB8 := hid (HB10.out.trans (hbq.out.mono HB10.out.size))
                have HBQ := hid hbq.out
                clear hbq
                have hcl := cntK_le (sOf (vsOf M) (i : Int)) M (i : Int) k
                by_cases hkl : k < N
                · have zk : (k : Int) < (N : Int) := by omega
                  have HCS := hid (cntK_succ (sOf (vsOf M) (i : Int)) M (i : Int) k)
                  obtain ⟨t, ht, y0, y1, _, _⟩ := (HRV.out.below HB8.out HRV.out.lt).getS i (by rw [vsOf_length]; exact hil)
                  rw [ht] at HCS hcl ⊢
                  obtain ⟨x, hx, hsub⟩ := sub_word (k := k) (by omega) t
                  have lgv := cell_lt y0
                  have HNP := hid (nodes_take (c' := c5) (HNA.out.below (HM8.out.trans (HB8.out.mono HM8.out.size))) hil)
                  have HEV := hid (Eval_k (1 + (kk : Int)) (M.take (i + 1)) _ k wr HNP.out (valid_take HS2.out hil) (by omega))
                  rw [eval_take hil] at HEV
                  have hp := HP10.out.below HBQ.out HP10.out.lt
                  obtain ⟨z0, z1, _, _⟩ := hp.cells
                  have lpp := hp.lt
                  clear ht hp
                  generalize cntK t M (i : Int) k = cc at HCS hcl ⊢
                  cases hsb : sub (setW k) t
                  · rw [hsb] at hsub HCS
                    have HC2 := hid (HCS.out.trans (by rw [Bool.false_and, if_neg (by simp), Nat.add_zero]))
                    go_wp2_with fail
                    go_roundw
                    case rel => exact ⟨k + 1, by omega, by go_num, by rw [HC2.out], HBQ.out⟩
                    case measure => simp [intOf]; omega
                  · rw [hsb] at hsub HCS
                    have hx0 : x = 0 := by simpa using hsub
                    subst hx0
                    generalize bOf (bsOf (has (setW k)) M) (i : Int) = ev at HEV HCS
                    go_wp2_with fail
                    refine HEV.out.mono ?_
                    rintro e wz ⟨rfl, hbz⟩
                    have HBZ := hid (HBQ.out.trans (hbz.mono HBQ.out.size))
                    clear hbz hx hsub y0 y1 z0 z1
                    cases ev
                    · have HC2 := hid (HCS.out.trans (by rw [Bool.true_and, if_neg (by simp), Nat.add_zero]))
                      go_wp2_with fail
                      go_roundw
                      case rel => exact ⟨k + 1, by omega, by go_num, by rw [HC2.out], HBZ.out⟩
                      case measure => simp [intOf]; omega
                    · have HC2 := hid (HCS.out.trans (by rw [Bool.true_and, if_pos rfl]))
                      go_wp2_with fail
                      go_roundw
                      case rel => exact ⟨k + 1, by omega, by go_num, by rw [HC2.out]; go_num, HBZ.out⟩
                      case measure => simp [intOf]; omega
                · obtain rfl : k = N := by omega
                  have hck : (cntK (sOf (vsOf M) (i : Int)) M (i : Int) k : Int) = val := by
                    rw [HNE.out, cntK_all M (i : Int) (by omega), HVL.out]
                  generalize cntK (sOf (vsOf M) (i : Int)) M (i : Int) k = cc at hck hcl ⊢
                  have hrz := HR10.out.below HBQ.out
                  obtain ⟨g, cg, eg, _, hgl, hcg⟩ := hrz.cells (by rw [rowQ_length _ hil]; omega)
                  injection eg with eg1 eg2 eg3
                  injection eg1 with eg1
                  injection eg1 with eg1 _ _
                  clear eg2 eg3
                  subst eg1
                  have hcell := (hcg i (by rw [rowQ_length _ hil]; exact hil)).1
                  rw [rowQ_at _ hil] at hcell
                  rw [← hck] at hcell
                  have HRZ := hid hrz
                  have dcc : ((cc : Int) != (cc : Int)) = false := by simp
                  clear hcg hrz hck
                  go_wp2_with fail
                  go_roundw
                  case rel => exact ⟨i + 1, by omega, by go_num, (by rw [HNXT.out]; exact HRZ.out), HB8.out⟩
                  case measure => simp [intOf]; omega
            · have hszk : (wr.setCell ⟨gN, i, none⟩ (.int .i64 1)).heap.size = wr.heap.size := by simp [World.setCell]
              obtain ⟨g, cg, eg, _, hgl, hcg⟩ := HRW.out.cells (by rw [rowQ_length _ hil]; omega)
              injection eg with eg1 eg2 eg3
              injection eg1 with eg1
              injection eg1 with eg1 _ _
              clear eg2 eg3
              subst eg1
              obtain ⟨y1, y2⟩ := hcg i (by rw [rowQ_length _ hil]; exact hil)
              have h7 := HRW.out.store i (by rw [rowQ_length _ hil]; exact hil) 1
              rw [rowQ_set _ _ hil] at h7
              have hal : Below (wr.setCell ⟨gN, i, none⟩ (.int .i64 1)).heap.size (wr.setCell ⟨gN, i, none⟩ (.int .i64 1)) ((wr.setCell ⟨gN, i, none⟩ (.int .i64 1)).alloc (.cells #[.int .i64 3, .int .i64 xl, .slice p2 xi.length c2] 39)) := (Below.refl _ _).alloc (Nat.le_refl _) _
              have HR7 := hid (show OwnInts ((wr.setCell ⟨gN, i, none⟩ (.int .i64 1)).alloc (.cells #[.int .i64 3, .int .i64 xl, .slice p2 xi.length c2] 39)) gN (.slice (some ⟨gN, 0, none⟩) M.length M.length) (rowQ M i (mulIns (numsOf M) 1 (xi.take 0))) from h7.below hal)
              have hb7 := HBR.out.setCell (p := ⟨gN, i, none⟩) (by rw [HGN.out]; exact Nat.le_refl _) (.int .i64 1)
              have HB7 := hid (hb7.alloc (by rw [hszk]; exact HBR.out.size) (.cells #[.int .i64 3, .int .i64 xl, .slice p2 xi.length c2] 39))
              have hx7 := Box3.new (wr.setCell ⟨gN, i, none⟩ (.int .i64 1)) 39 (.int .i64 3) (.int .i64 xl) (.slice p2 xi.length c2)
              rw [hszk] at hx7
              clear h7 hal hb7
              have HX7 := hid hx7
              have HXG := hid (show wr.heap.size ≠ gN by omega)
              have HXL := hid HBR.out.size
              clear hx7 hcg hszk
              go_wp2_with fail
              clear y1 y2 d0 d1 d2
              obtain ⟨xb, hxb⟩ : ∃ xb, xb = wr.heap.size := ⟨_, rfl⟩
              generalize ((wr.setCell ⟨gN, i, none⟩ (.int .i64 1)).alloc (.cells #[.int .i64 3, .int .i64 xl, .slice p2 xi.length c2] 39)) = w7 at *
              rw [← hxb] at HX7 HXG HXL ⊢
              clear hxb
              go_loopw [90] (fun z wq => ∃ (j : Nat), j ≤ xi.length ∧ z = .int .i64 j ∧ Hid (OwnInts wq gN (.slice (some ⟨gN, 0, none⟩) M.length M.length) (rowQ M i (mulIns (numsOf M) 1 (xi.take j)))) ∧ Hid (Box3 wq xb 39 (.int .i64 3) (.int .i64 xl) (.slice p2 xi.length c2)) ∧ Hid (Below w8.heap.size w8 wq)) (fun z _ => xi.length - (intOf z).toNat)
              case atStart => exact ⟨0, Nat.zero_le _, rfl, HR7.out, HX7.out, HB7.out⟩
              case round =>
                clear HR7 HX7 HB7
                obtain ⟨j, hj, rfl, hrw, hbx, hbq⟩ := hrel
                obtain ⟨n0', n1, n2⟩ := hbx.out.cells
                by_cases hjl : j < xi.length
                · obtain ⟨p3, c3, e3, h3⟩ := show IntsAt wr (.slice p2 xi.length c2) xi from ((show IntsAt w4 (.slice p2 xi.length c2) xi from HU4.out).below (HM8.out.trans (hbq.out.mono HM8.out.size)))
                  injection e3 with e1 e4 e2
                  clear e4
                  subst e1; subst e2
                  obtain ⟨b2, o2, rfl, hc⟩ := h3.resolve_left (by intro e; rw [e] at hjl; simp at hjl)
                  have hcj := hc j hjl
                  rw [List.getElem?_eq_getElem hjl, Option.getD_some] at hcj
                  have hin := HIN.out _ (List.getElem_mem hjl)
                  have hop := mulIns_snoc (numsOf M) 1 (xi.take j) xi[j]
                  rw [← List.take_succ_eq_append_getElem hjl] at hop
                  have hbd := HMS.out (by first | rfl | trivial) (j + 1)
                  rw [hop] at hbd
                  obtain ⟨u, hu⟩ : ∃ u : Nat, xi[j] = (u : Int) := ⟨xi[j].toNat, by omega⟩
                  rw [hu] at hcj hin hop hbd
                  have zj : (0 : Int) ≤ (j : Int) ∧ (j : Int) < (xi.length : Int) := by omega
                  have zu : (0 : Int) ≤ (u : Int) ∧ (u : Int) < (M.length : Int) := by omega
                  have hul : u < M.length := by omega
                  have hui : u < i := by omega
                  obtain ⟨g, cg, eg, _, hgl2, hcg⟩ := hrw.out.cells (by rw [rowQ_length _ hil]; omega)
                  injection eg with eg1 eg2 eg3
                  injection eg1 with eg1
                  injection eg1 with eg1 _ _
                  clear eg2 eg3
                  subst eg1
                  obtain ⟨y1, y2⟩ := hcg i (by rw [rowQ_length _ hil]; exact hil)
                  have y3 := (hcg u (by rw [rowQ_length _ hil]; exact hul)).1
                  rw [rowQ_at _ hil] at y1
                  rw [rowQ_low _ hil u hui] at y3
                  have hst := (hrw.out.below (w' := wr.drew) (Below.refl _ wr).drew).store i (by rw [rowQ_length _ hil]; exact hil) (mulIns (numsOf M) 1 (xi.take j) * iOf (numsOf M) (u : Int))
                  rw [rowQ_set _ _ hil] at hst
                  generalize mulIns (numsOf M) 1 (xi.take j) = s1 at y1 hop hbd hst
                  generalize iOf (numsOf M) (u : Int) = t at y3 hop hbd hst
                  have hwm : IntKind.i64.wrap (s1 * t) = s1 * t := wrap_mid hbd.1 hbd.2
                  have RK : Hid (wr.drew.cell? ⟨gN, i, none⟩ = some (.int .i64 s1)) := y1
                  have RU : Hid (wr.drew.cell? ⟨gN, u, none⟩ = some (.int .i64 t)) := y3
                  have HST := hid hst
                  have HOP := hid hop
                  have HRQ := hid (hrw.out.below (w' := wr.drew) (Below.refl _ wr).drew)
                  have HBX2 := hid ((hbx.out.below (w' := wr.drew) (Below.refl _ wr).drew hbx.out.lt).other (a := ⟨gN, i, none⟩) HXG.out (.int .i64 (s1 * t)))
                  have HBQ2 := hid (hbq.out.drew.setCell (p := ⟨gN, i, none⟩) (by rw [HGN.out]; exact Nat.le_refl _) (.int .i64 (s1 * t)))
                  have y2d : Hid (wr.drew.frozen? ⟨gN, i, none⟩ = false) := y2
                  clear h3 hc hin hu hcg y3 hst hop hbd hrw hbx hbq y2
                  go_wp2_with fail
                  refine Go.Proofs.YtpdbfbjfodckgaaDoor.wp_region_L 11 10 (fun w' => w'.cell? ⟨gN, i, none⟩ = some (.int .i64 s1) ∧ w'.cell? ⟨gN, u, none⟩ = some (.int .i64 t)) (by kernel_rfl) rfl ⟨RK.out, RU.out⟩ (fun _ => ?_)
                  refine wpAnyL_pure (i := 0) (v := .slice (some ⟨gN, 0, none⟩) M.length M.length) (by simp only [List.getElem?_toArray, List.getElem?_cons_zero] <;> rfl) (by kernel_rfl) (by kernel_rfl) (by kernel_rfl) (by exact fun _ _ _ h => h) (by decide) (.inr ⟨RK.out, RU.out⟩) (Or.inl ⟨by rfl, fun w _ => (by simp [execOp, go_sem, Act.eval])⟩) (fun _ => ?_)
                  simp only [Act.put, List.setIfInBounds_toArray, List.set_cons_zero, List.set_cons_succ]
                  refine wpAnyL_pure (i := 1) (v := .int .i64 (i : Int)) (by simp only [List.getElem?_toArray, List.getElem?_cons_zero, List.getElem?_cons_succ] <;> rfl) (by kernel_rfl) (by kernel_rfl) (by kernel_rfl) (by exact fun _ _ _ h => h) (by decide) (.inr ⟨RK.out, RU.out⟩) (Or.inl ⟨by rfl, fun w _ => (by simp [execOp, go_sem, Act.eval])⟩) (fun _ => ?_)
                  simp only [Act.put, List.setIfInBounds_toArray, List.set_cons_zero, List.set_cons_succ]
                  refine wpAnyL_pure (i := 2) (v := .pointer (some ⟨gN, i, none⟩)) (by simp only [List.getElem?_toArray, List.getElem?_cons_zero, List.getElem?_cons_succ] <;> rfl) (by kernel_rfl) (by kernel_rfl) (by kernel_rfl) (by exact fun _ _ _ h => h) (by decide) (.inr ⟨RK.out, RU.out⟩) (Or.inl ⟨by rfl, fun w _ => (by simp [execOp, go_sem, Act.eval, zi])⟩) (fun _ => ?_)
                  simp only [Act.put, List.setIfInBounds_toArray, List.set_cons_zero, List.set_cons_succ]
                  refine wpAnyL_load2 (i := 3) (v := .int .i64 s1) (by simp only [List.getElem?_toArray, List.getElem?_cons_zero, List.getElem?_cons_succ] <;> rfl) (by kernel_rfl) (by kernel_rfl) (by kernel_rfl) (by exact fun _ _ _ h => h) (by decide) (Waits.one rfl ⟨⟨3, .phase⟩, by simp, rfl, rfl⟩) (by kernel_rfl) (by kernel_rfl) (.inr ⟨RK.out, RU.out⟩) (Or.inl ⟨by rfl, fun w hw => (by obtain ⟨x0, _⟩ := hw; simp [execOp, go_sem, Act.eval, x0])⟩) (fun _ => ?_)
                  simp only [Act.put, List.setIfInBounds_toArray, List.set_cons_zero, List.set_cons_succ]
                  refine wpAnyL_pure (i := 4) (v := .slice (some ⟨gN, 0, none⟩) M.length M.length) (by simp only [List.getElem?_toArray, List.getElem?_cons_zero, List.getElem?_cons_succ] <;> rfl) (by kernel_rfl) (by kernel_rfl) (by kernel_rfl) (by exact fun _ _ _ h => h) (by decide) (.inr ⟨RK.out, RU.out⟩) (Or.inl ⟨by rfl, fun w _ => (by simp [execOp, go_sem, Act.eval])⟩) (fun _ => ?_)
                  simp only [Act.put, List.setIfInBounds_toArray, List.set_cons_zero, List.set_cons_succ]
                  refine wpAnyL_pure (i := 5) (v := .int .i64 (u : Int)) (by simp only [List.getElem?_toArray, List.getElem?_cons_zero, List.getElem?_cons_succ] <;> rfl) (by kernel_rfl) (by kernel_rfl) (by kernel_rfl) (by exact fun _ _ _ h => h) (by decide) (.inr ⟨RK.out, RU.out⟩) (Or.inl ⟨by rfl, fun w _ => (by simp [execOp, go_sem, Act.eval])⟩) (fun _ => ?_)
                  simp only [Act.put, List.setIfInBounds_toArray, List.set_cons_zero, List.set_cons_succ]
                  refine wpAnyL_pure (i := 6) (v := .pointer (some ⟨gN, u, none⟩)) (by simp only [List.getElem?_toArray, List.getElem?_cons_zero, List.getElem?_cons_succ] <;> rfl) (by kernel_rfl) (by kernel_rfl) (by kernel_rfl) (by exact fun _ _ _ h => h) (by decide) (.inr ⟨RK.out, RU.out⟩) (Or.inl ⟨by rfl, fun w _ => (by simp [execOp, go_sem, Act.eval, zu])⟩) (fun _ => ?_)
                  simp only [Act.put, List.setIfInBounds_toArray, List.set_cons_zero, List.set_cons_succ]
                  refine wpAnyL_load2 (i := 7) (v := .int .i64 t) (by simp only [List.getElem?_toArray, List.getElem?_cons_zero, List.getElem?_cons_succ] <;> rfl) (by kernel_rfl) (by kernel_rfl) (by kernel_rfl) (by exact fun _ _ _ h => h) (by decide) (Waits.one rfl ⟨⟨7, .phase⟩, by simp, rfl, rfl⟩) (by kernel_rfl) (by kernel_rfl) (.inr ⟨RK.out, RU.out⟩) (Or.inl ⟨by rfl, fun w hw => (by obtain ⟨_, x1⟩ := hw; simp [execOp, go_sem, Act.eval, x1])⟩) (fun _ => ?_)
                  simp only [Act.put, List.setIfInBounds_toArray, List.set_cons_zero, List.set_cons_succ]
                  refine wpAnyL_pure (i := 8) (v := .int .i64 (s1 * t)) (by simp only [List.getElem?_toArray, List.getElem?_cons_zero, List.getElem?_cons_succ] <;> rfl) (by kernel_rfl) (by kernel_rfl) (by kernel_rfl) (by exact fun _ _ _ h => h) (by decide) (.inr ⟨RK.out, RU.out⟩) (Or.inl ⟨by rfl, fun w _ => (by simp [execOp, go_sem, Act.eval, hwm])⟩) (fun _ => ?_)
                  simp only [Act.put, List.setIfInBounds_toArray, List.set_cons_zero, List.set_cons_succ]
                  refine wpAnyL_pure (i := 9) (v := .pointer (some ⟨gN, i, none⟩)) (by simp only [List.getElem?_toArray, List.getElem?_cons_zero, List.getElem?_cons_succ] <;> rfl) (by kernel_rfl) (by kernel_rfl) (by kernel_rfl) (by exact fun _ _ _ h => h) (by decide) (.inr ⟨RK.out, RU.out⟩) (Or.inl ⟨by rfl, fun w _ => (by simp [execOp, go_sem, Act.eval, zi])⟩) (fun _ => ?_)
                  simp only [Act.put, List.setIfInBounds_toArray, List.set_cons_zero, List.set_cons_succ]
                  have y7 := RK.out
                  have y8 := y2d.out
                  refine wpAnyL_one (i := 10) (by kernel_rfl) (by simp only [List.getElem?_toArray, List.getElem?_cons_zero, List.getElem?_cons_succ] <;> rfl) (by rfl) ?_
                  refine opwp_skip (w' := (wr.drew.setCell ⟨gN, i, none⟩ (.int .i64 (s1 * t)))) (by simp [execOp, go_sem, Act.eval, y7, y8]) ⟨.inl (by kernel_rfl), ?_⟩
                  simp only [Act.put]
                  refine wpAnyL_done (by kernel_rfl) ?_ _
                  clear RK RU y7 y8 y2d hwm
                  have HS9 := hid (show OwnInts (wr.drew.setCell ⟨gN, i, none⟩ (.int .i64 (s1 * t))) gN (.slice (some ⟨gN, 0, none⟩) M.length M.length) (rowQ M i (mulIns (numsOf M) 1 (xi.take (j + 1)))) from by rw [HOP.out]; exact HST.out)
                  go_wp2_with fail
                  go_roundw
                  case rel => exact ⟨j + 1, by omega, by go_num, HS9.out, HBX2.out, HBQ2.out⟩
                  case measure => simp [intOf]; omega
                · obtain rfl : j = xi.length := by omega
                  rw [List.take_length] at hrw
                  have hrw' := hrw.out
                  have HBT := hid hbq.out
                  obtain ⟨val, HRT, HNXT, HVL⟩ : ∃ val : Int, Hid (OwnInts wr gN (.slice (some ⟨gN, 0, none⟩) M.length M.length) (rowQ M i val)) ∧ Hid (numsOf (M.take (i + 1)) ++ List.replicate (M.length - (i + 1)) 0 = rowQ M i val) ∧ Hid (val = (cntN (1 + kk) M (i : Int) : Int)) := ⟨mulIns (numsOf M) 1 xi, hrw', HNX.out _ rfl, HCT.out⟩
                  obtain ⟨wt, hwt⟩ : ∃ wt : World, wt = wr := ⟨_, rfl⟩
                  subst hwt
                  clear hrw hbq hbx hrw'
                  go_wp2_with fail
                  have hmm := HX4.out.below (HM8.out.trans (HBT.out.mono HM8.out.size)) HX4.out.lt
                  obtain ⟨x0, x1, _, _⟩ := hmm.cells
                  have CN : Hid (wt.drew.cell? ⟨w.heap.size, 0, none⟩ = some (.int .i64 (1 + (kk : Int)))) := x0
                  have CL : Hid (wt.drew.cell? ⟨w.heap.size, 1, none⟩ = some (.slice (some ⟨b5, o5, none⟩) M.length c5)) := x1
                  have hwi : IntKind.i64.wrap ((i : Int) + 1) = (i : Int) + 1 := by rw [IntKind.wrap_i64]; omega
                  have zs1 : (0 : Int) ≤ (i : Int) + 1 := by omega
                  have zs2 : (i : Int) + 1 ≤ (c5 : Int) := by omega
                  have zs3 : i + 1 ≤ c5 := by omega
                  clear hmm x0 x1
                  refine Go.Proofs.YtpdbfbjfodckgaaDoor.wp_region_L 10 9 (fun w' => w'.cell? ⟨w.heap.size, 0, none⟩ = some (.int .i64 (1 + (kk : Int))) ∧ w'.cell? ⟨w.heap.size, 1, none⟩ = some (.slice (some ⟨b5, o5, none⟩) M.length c5)) (by kernel_rfl) rfl ⟨CN.out, CL.out⟩ (fun _ => ?_)
                  refine wpAnyL_pure (i := 0) (v := .pointer (some ⟨w.heap.size, 0, none⟩)) (by simp only [List.getElem?_toArray, List.getElem?_cons_zero] <;> rfl) (by kernel_rfl) (by kernel_rfl) (by kernel_rfl) (by exact fun _ _ _ h => h) (by decide) (.inr ⟨CN.out, CL.out⟩) (Or.inl ⟨by rfl, fun w _ => (by simp [execOp, go_sem, Act.eval])⟩) (fun _ => ?_)
                  simp only [Act.put, List.setIfInBounds_toArray, List.set_cons_zero, List.set_cons_succ]
                  refine wpAnyL_load2 (i := 1) (v := .int .i64 (1 + (kk : Int))) (by simp only [List.getElem?_toArray, List.getElem?_cons_zero, List.getElem?_cons_succ] <;> rfl) (by kernel_rfl) (by kernel_rfl) (by kernel_rfl) (by exact fun _ _ _ h => h) (by decide) (Waits.one rfl ⟨⟨1, .phase⟩, by simp, rfl, rfl⟩) (by kernel_rfl) (by kernel_rfl) (.inr ⟨CN.out, CL.out⟩) (Or.inl ⟨by rfl, fun w hw => (by obtain ⟨x0, _⟩ := hw; simp [execOp, go_sem, Act.eval, x0])⟩) (fun _ => ?_)
                  simp only [Act.put, List.setIfInBounds_toArray, List.set_cons_zero, List.set_cons_succ]
                  refine wpAnyL_pure (i := 2) (v := .pointer (some ⟨w.heap.size, 1, none⟩)) (by simp only [List.getElem?_toArray, List.getElem?_cons_zero, List.getElem?_cons_succ] <;> rfl) (by kernel_rfl) (by kernel_rfl) (by kernel_rfl) (by exact fun _ _ _ h => h) (by decide) (.inr ⟨CN.out, CL.out⟩) (Or.inl ⟨by rfl, fun w _ => (by simp [execOp, go_sem, Act.eval])⟩) (fun _ => ?_)
                  simp only [Act.put, List.setIfInBounds_toArray, List.set_cons_zero, List.set_cons_succ]
                  refine wpAnyL_load2 (i := 3) (v := .slice (some ⟨b5, o5, none⟩) M.length c5) (by simp only [List.getElem?_toArray, List.getElem?_cons_zero, List.getElem?_cons_succ] <;> rfl) (by kernel_rfl) (by kernel_rfl) (by kernel_rfl) (by exact fun _ _ _ h => h) (by decide) (Waits.one rfl ⟨⟨3, .phase⟩, by simp, rfl, rfl⟩) (by kernel_rfl) (by kernel_rfl) (.inr ⟨CN.out, CL.out⟩) (Or.inl ⟨by rfl, fun w hw => (by obtain ⟨_, x1⟩ := hw; simp [execOp, go_sem, Act.eval, x1])⟩) (fun _ => ?_)
                  simp only [Act.put, List.setIfInBounds_toArray, List.set_cons_zero, List.set_cons_succ]
                  refine wpAnyL_pure (i := 4) (v := .int .i64 (i : Int)) (by simp only [List.getElem?_toArray, List.getElem?_cons_zero, List.getElem?_cons_succ] <;> rfl) (by kernel_rfl) (by kernel_rfl) (by kernel_rfl) (by exact fun _ _ _ h => h) (by decide) (.inr ⟨CN.out, CL.out⟩) (Or.inl ⟨by rfl, fun w _ => (by simp [execOp, go_sem, Act.eval])⟩) (fun _ => ?_)
                  simp only [Act.put, List.setIfInBounds_toArray, List.set_cons_zero, List.set_cons_succ]
                  refine wpAnyL_pure (i := 5) (v := .int .i64 ((i : Int) + 1)) (by simp only [List.getElem?_toArray, List.getElem?_cons_zero, List.getElem?_cons_succ] <;> rfl) (by kernel_rfl) (by kernel_rfl) (by kernel_rfl) (by exact fun _ _ _ h => h) (by decide) (.inr ⟨CN.out, CL.out⟩) (Or.inl ⟨by rfl, fun w _ => (by simp [execOp, go_sem, Act.eval, hwi])⟩) (fun _ => ?_)
                  simp only [Act.put, List.setIfInBounds_toArray, List.set_cons_zero, List.set_cons_succ]
                  refine wpAnyL_pure (i := 6) (v := .slice (some ⟨b5, o5, none⟩) (i + 1) c5) (by simp only [List.getElem?_toArray, List.getElem?_cons_zero, List.getElem?_cons_succ] <;> rfl) (by kernel_rfl) (by kernel_rfl) (by kernel_rfl) (by exact fun _ _ _ h => h) (by decide) (.inr ⟨CN.out, CL.out⟩) (Or.inl ⟨by rfl, fun w _ => (by simp [execOp, go_sem, Act.eval, zs1, zs2])⟩) (fun _ => ?_)
                  simp only [Act.put, List.setIfInBounds_toArray, List.set_cons_zero, List.set_cons_succ]
                  refine wpAnyL_pure (i := 7) (v := .agg #[.int .i64 (1 + (kk : Int)), .slice (some ⟨b5, o5, none⟩) (i + 1) c5]) (by simp only [List.getElem?_toArray, List.getElem?_cons_zero, List.getElem?_cons_succ] <;> rfl) (by kernel_rfl) (by kernel_rfl) (by kernel_rfl) (by exact fun _ _ _ h => h) (by decide) (.inr ⟨CN.out, CL.out⟩) (Or.inl ⟨by rfl, fun w _ => (by simp [execOp, go_sem, Act.eval])⟩) (fun _ => ?_)
                  simp only [Act.put, List.setIfInBounds_toArray, List.set_cons_zero, List.set_cons_succ]
                  have halp : Below wt.drew.heap.size wt.drew (wt.drew.alloc (.cells #[.int .i64 0, .slice none 0 0] 24)) := (Below.refl _ wt.drew).alloc (Nat.le_refl _) _
                  have hpb : Box2 (wt.drew.alloc (.cells #[.int .i64 0, .slice none 0 0] 24)) wt.heap.size 24 (.int .i64 0) (.slice none 0 0) := Box2.new wt.drew 24 (.int .i64 0) (.slice none 0 0)
                  have hp_0 := hid ((halp.cell (cell_lt CN.out)).trans CN.out)
                  have hp_1 := hid ((halp.cell (cell_lt CL.out)).trans CL.out)
                  refine wpAnyL_one (i := 8) (by kernel_rfl) (by simp only [List.getElem?_toArray, List.getElem?_cons_zero, List.getElem?_cons_succ] <;> rfl) (by rfl) ?_
                  refine opwp_value (v := .pointer (some ⟨wt.heap.size, 0, none⟩)) (w' := (wt.drew.alloc (.cells #[.int .i64 0, .slice none 0 0] 24))) (by simp [execOp, go_sem]) ⟨.inr ⟨hp_0.out, hp_1.out⟩, ?_⟩
                  simp only [Act.put, List.setIfInBounds_toArray, List.set_cons_zero, List.set_cons_succ]
                  refine wpAnyL_one (i := 9) (by kernel_rfl) (by simp only [List.getElem?_toArray, List.getElem?_cons_zero, List.getElem?_cons_succ] <;> rfl) (by rfl) ?_
                  refine opwp_skip (w' := (((wt.drew.alloc (.cells #[.int .i64 0, .slice none 0 0] 24)).setCell ⟨wt.heap.size, 0, none⟩ (.int .i64 (1 + (kk : Int)))).setCell ⟨wt.heap.size, 1, none⟩ (.slice (some ⟨b5, o5, none⟩) (i + 1) c5))) (by simp [execOp, go_sem, Act.eval]) ⟨.inl (by kernel_rfl), ?_⟩
                  simp only [Act.put]
                  refine wpAnyL_done (by kernel_rfl) ?_ _
                  have hb10 : Below wt.heap.size wt (((wt.drew.alloc (.cells #[.int .i64 0, .slice none 0 0] 24)).setCell ⟨wt.heap.size, 0, none⟩ (.int .i64 (1 + (kk : Int)))).setCell ⟨wt.heap.size, 1, none⟩ (.slice (some ⟨b5, o5, none⟩) (i + 1) c5)) := below_01 ((Below.refl _ wt).drew.trans halp) (Nat.le_refl _) _ _
                  have HP10 := hid (hpb.set01 (.int .i64 (1 + (kk : Int))) (.slice (some ⟨b5, o5, none⟩) (i + 1) c5))
                  have HB10 := hid (HBT.out.trans (hb10.mono HBT.out.size))
                  have HR10 := hid (HRT.out.below hb10)
                  clear halp hpb hb10 CN CL hwi hp_0 hp_1
                  generalize ((wt.drew.alloc (.cells #[.int .i64 0, .slice none 0 0] 24)).setCell ⟨wt.heap.size, 0, none⟩ (.int .i64 (1 + (kk : Int)))).setCell ⟨wt.heap.size, 1, none⟩ (.slice (some ⟨b5, o5, none⟩) (i + 1) c5) = w10 at *
                  obtain ⟨x0, x1, _, _⟩ := (HX4.out.below (HM8.out.trans (HB10.out.mono HM8.out.size)) HX4.out.lt).cells
                  go_wp2_with fail
                  rw [hsh]
                  clear x0 x1
                  go_loopw [14, 130] (fun y z wq => ∃ (k : Nat), k ≤ N ∧ z = .int .u64 k ∧ y = .int .i64 (cntK (sOf (vsOf M) (i : Int)) M (i : Int) k : Nat) ∧ Hid (Below w10.heap.size w10 wq)) (fun _ z _ => N - (intOf z).toNat)
                  case atStart => exact ⟨0, Nat.zero_le _, rfl, rfl, Below.refl _ _⟩
                  case round =>
                    obtain ⟨k, hk, rfl, rfl, hbq⟩ := hrel
                    have HB8 := hid (HB10.out.trans (hbq.out.mono HB10.out.size))
                    have HBQ := hid hbq.out
                    clear hbq
                    have hcl := cntK_le (sOf (vsOf M) (i : Int)) M (i : Int) k
                    by_cases hkl : k < N
                    · have zk : (k : Int) < (N : Int) := by omega
                      have HCS := hid (cntK_succ (sOf (vsOf M) (i : Int)) M (i : Int) k)
                      obtain ⟨t, ht, y0, y1, _, _⟩ := (HRV.out.below HB8.out HRV.out.lt).getS i (by rw [vsOf_length]; exact hil)
                      rw [ht] at HCS hcl ⊢
                      obtain ⟨x, hx, hsub⟩ := sub_word (k := k) (by omega) t
                      have lgv := cell_lt y0
                      have HNP := hid (nodes_take (c' := c5) (HNA.out.below (HM8.out.trans (HB8.out.mono HM8.out.size))) hil)
                      have HEV := hid (Eval_k (1 + (kk : Int)) (M.take (i + 1)) _ k wr HNP.out (valid_take HS2.out hil) (by omega))
                      rw [eval_take hil] at HEV
                      have hp := HP10.out.below HBQ.out HP10.out.lt
                      obtain ⟨z0, z1, _, _⟩ := hp.cells
                      have lpp := hp.lt
                      clear ht hp
                      generalize cntK t M (i : Int) k = cc at HCS hcl ⊢
                      cases hsb : sub (setW k) t
                      · rw [hsb] at hsub HCS
                        have HC2 := hid (HCS.out.trans (by rw [Bool.false_and, if_neg (by simp), Nat.add_zero]))
                        go_wp2_with fail
                        go_roundw
                        case rel => exact ⟨k + 1, by omega, by go_num, by rw [HC2.out], HBQ.out⟩
                        case measure => simp [intOf]; omega
                      · rw [hsb] at hsub HCS
                        have hx0 : x = 0 := by simpa using hsub
                        subst hx0
                        generalize bOf (bsOf (has (setW k)) M) (i : Int) = ev at HEV HCS
                        go_wp2_with fail
                        refine HEV.out.mono ?_
                        rintro e wz ⟨rfl, hbz⟩
                        have HBZ := hid (HBQ.out.trans (hbz.mono HBQ.out.size))
                        clear hbz hx hsub y0 y1 z0 z1
                        cases ev
                        · have HC2 := hid (HCS.out.trans (by rw [Bool.true_and, if_neg (by simp), Nat.add_zero]))
                          go_wp2_with fail
                          go_roundw
                          case rel => exact ⟨k + 1, by omega, by go_num, by rw [HC2.out], HBZ.out⟩
                          case measure => simp [intOf]; omega
                        · have HC2 := hid (HCS.out.trans (by rw [Bool.true_and, if_pos rfl]))
                          go_wp2_with fail
                          go_roundw
                          case rel => exact ⟨k + 1, by omega, by go_num, by rw [HC2.out]; go_num, HBZ.out⟩
                          case measure => simp [intOf]; omega
                    · obtain rfl : k = N := by omega
                      have hck : (cntK (sOf (vsOf M) (i : Int)) M (i : Int) k : Int) = val := by
                        rw [HNE.out, cntK_all M (i : Int) (by omega), HVL.out]
                      generalize cntK (sOf (vsOf M) (i : Int)) M (i : Int) k = cc at hck hcl ⊢
                      have hrz := HR10.out.below HBQ.out
                      obtain ⟨g, cg, eg, _, hgl, hcg⟩ := hrz.cells (by rw [rowQ_length _ hil]; omega)
                      injection eg with eg1 eg2 eg3
                      injection eg1 with eg1
                      injection eg1 with eg1 _ _
                      clear eg2 eg3
                      subst eg1
                      have hcell := (hcg i (by rw [rowQ_length _ hil]; exact hil)).1
                      rw [rowQ_at _ hil] at hcell
                      rw [← hck] at hcell
                      have HRZ := hid hrz
                      have dcc : ((cc : Int) != (cc : Int)) = false := by simp
                      clear hcg hrz hck
                      go_wp2_with fail
                      go_roundw
                      case rel => exact ⟨i + 1, by omega, by go_num, (by rw [HNXT.out]; exact HRZ.out), HB8.out⟩
                      case measure => simp [intOf]; omega
            · have hszk : (wr.setCell ⟨gN, i, none⟩ (.int .i64 1)).heap.size = wr.heap.size := by simp [World.setCell]
              obtain ⟨g, cg, eg, _, hgl, hcg⟩ := HRW.out.cells (by rw [rowQ_length _ hil]; omega)
              injection eg with eg1 eg2 eg3
              injection eg1 with eg1
              injection eg1 with eg1 _ _
              clear eg2 eg3
              subst eg1
              obtain ⟨y1, y2⟩ := hcg i (by rw [rowQ_length _ hil]; exact hil)
              have hal : Below wr.heap.size wr (wr.alloc (.cells #[.int .i64 4, .int .i64 xl, .slice p2 xi.length c2] 39)) := (Below.refl _ _).alloc (Nat.le_refl _) _
              have HR7 := hid (show OwnInts (wr.alloc (.cells #[.int .i64 4, .int .i64 xl, .slice p2 xi.length c2] 39)) gN (.slice (some ⟨gN, 0, none⟩) M.length M.length) (rowQ M i (addIns (numsOf M) 0 (xi.take 0))) from HRW.out.below hal)
              have HB7 := hid (HBR.out.trans (hal.mono HBR.out.size))
              have hx7 := Box3.new wr 39 (.int .i64 4) (.int .i64 xl) (.slice p2 xi.length c2)
              clear hal
              have HX7 := hid hx7
              have HXG := hid (show wr.heap.size ≠ gN by omega)
              have HXL := hid HBR.out.size
              clear hx7 hcg hszk
              go_wp2_with fail
              clear y1 y2 d0 d1 d2
              obtain ⟨xb, hxb⟩ : ∃ xb, xb = wr.heap.size := ⟨_, rfl⟩
              generalize (wr.alloc (.cells #[.int .i64 4, .int .i64 xl, .slice p2 xi.length c2] 39)) = w7 at *
              rw [← hxb] at HX7 HXG HXL ⊢
              clear hxb
              go_loopw [90] (fun z wq => ∃ (j : Nat), j ≤ xi.length ∧ z = .int .i64 j ∧ Hid (OwnInts wq gN (.slice (some ⟨gN, 0, none⟩) M.length M.length) (rowQ M i (addIns (numsOf M) 0 (xi.take j)))) ∧ Hid (Box3 wq xb 39 (.int .i64 4) (.int .i64 xl) (.slice p2 xi.length c2)) ∧ Hid (Below w8.heap.size w8 wq)) (fun z _ => xi.length - (intOf z).toNat)
              case atStart => exact ⟨0, Nat.zero_le _, rfl, HR7.out, HX7.out, HB7.out⟩
              case round =>
                clear HR7 HX7 HB7
                obtain ⟨j, hj, rfl, hrw, hbx, hbq⟩ := hrel
                obtain ⟨n0', n1, n2⟩ := hbx.out.cells
                by_cases hjl : j < xi.length
                · obtain ⟨p3, c3, e3, h3⟩ := show IntsAt wr (.slice p2 xi.length c2) xi from ((show IntsAt w4 (.slice p2 xi.length c2) xi from HU4.out).below (HM8.out.trans (hbq.out.mono HM8.out.size)))
                  injection e3 with e1 e4 e2
                  clear e4
                  subst e1; subst e2
                  obtain ⟨b2, o2, rfl, hc⟩ := h3.resolve_left (by intro e; rw [e] at hjl; simp at hjl)
                  have hcj := hc j hjl
                  rw [List.getElem?_eq_getElem hjl, Option.getD_some] at hcj
                  have hin := HIN.out _ (List.getElem_mem hjl)
                  have hop := addIns_snoc (numsOf M) 0 (xi.take j) xi[j]
                  rw [← List.take_succ_eq_append_getElem hjl] at hop
                  have hbd := HAS.out (j + 1)
                  rw [hop] at hbd
                  obtain ⟨u, hu⟩ : ∃ u : Nat, xi[j] = (u : Int) := ⟨xi[j].toNat, by omega⟩
                  rw [hu] at hcj hin hop hbd
                  have zj : (0 : Int) ≤ (j : Int) ∧ (j : Int) < (xi.length : Int) := by omega
                  have zu : (0 : Int) ≤ (u : Int) ∧ (u : Int) < (M.length : Int) := by omega
                  have hul : u < M.length := by omega
                  have hui : u < i := by omega
                  obtain ⟨g, cg, eg, _, hgl2, hcg⟩ := hrw.out.cells (by rw [rowQ_length _ hil]; omega)
                  injection eg with eg1 eg2 eg3
                  injection eg1 with eg1
                  injection eg1 with eg1 _ _
                  clear eg2 eg3
                  subst eg1
                  obtain ⟨y1, y2⟩ := hcg i (by rw [rowQ_length _ hil]; exact hil)
                  have y3 := (hcg u (by rw [rowQ_length _ hil]; exact hul)).1
                  rw [rowQ_at _ hil] at y1
                  rw [rowQ_low _ hil u hui] at y3
                  have hst := (hrw.out.below (w' := wr.drew) (Below.refl _ wr).drew).store i (by rw [rowQ_length _ hil]; exact hil) (addIns (numsOf M) 0 (xi.take j) + iOf (numsOf M) (u : Int))
                  rw [rowQ_set _ _ hil] at hst
                  generalize addIns (numsOf M) 0 (xi.take j) = s1 at y1 hop hbd hst
                  generalize iOf (numsOf M) (u : Int) = t at y3 hop hbd hst
                  have hwm : IntKind.i64.wrap (s1 + t) = s1 + t := wrap_mid hbd.1 hbd.2
                  have RK : Hid (wr.drew.cell? ⟨gN, i, none⟩ = some (.int .i64 s1)) := y1
                  have RU : Hid (wr.drew.cell? ⟨gN, u, none⟩ = some (.int .i64 t)) := y3
                  have HST := hid hst
                  have HOP := hid hop
                  have HRQ := hid (hrw.out.below (w' := wr.drew) (Below.refl _ wr).drew)
                  have HBX2 := hid ((hbx.out.below (w' := wr.drew) (Below.refl _ wr).drew hbx.out.lt).other (a := ⟨gN, i, none⟩) HXG.out (.int .i64 (s1 + t)))
                  have HBQ2 := hid (hbq.out.drew.setCell (p := ⟨gN, i, none⟩) (by rw [HGN.out]; exact Nat.le_refl _) (.int .i64 (s1 + t)))
                  have y2d : Hid (wr.drew.frozen? ⟨gN, i, none⟩ = false) := y2
                  clear h3 hc hin hu hcg y3 hst hop hbd hrw hbx hbq y2
                  go_wp2_with fail
                  refine Go.Proofs.YtpdbfbjfodckgaaDoor.wp_region_L 11 10 (fun w' => w'.cell? ⟨gN, i, none⟩ = some (.int .i64 s1) ∧ w'.cell? ⟨gN, u, none⟩ = some (.int .i64 t)) (by kernel_rfl) rfl ⟨RK.out, RU.out⟩ (fun _ => ?_)
                  refine wpAnyL_pure (i := 0) (v := .slice (some ⟨gN, 0, none⟩) M.length M.length) (by simp only [List.getElem?_toArray, List.getElem?_cons_zero] <;> rfl) (by kernel_rfl) (by kernel_rfl) (by kernel_rfl) (by exact fun _ _ _ h => h) (by decide) (.inr ⟨RK.out, RU.out⟩) (Or.inl ⟨by rfl, fun w _ => (by simp [execOp, go_sem, Act.eval])⟩) (fun _ => ?_)
                  simp only [Act.put, List.setIfInBounds_toArray, List.set_cons_zero, List.set_cons_succ]
                  refine wpAnyL_pure (i := 1) (v := .int .i64 (i : Int)) (by simp only [List.getElem?_toArray, List.getElem?_cons_zero, List.getElem?_cons_succ] <;> rfl) (by kernel_rfl) (by kernel_rfl) (by kernel_rfl) (by exact fun _ _ _ h => h) (by decide) (.inr ⟨RK.out, RU.out⟩) (Or.inl ⟨by rfl, fun w _ => (by simp [execOp, go_sem, Act.eval])⟩) (fun _ => ?_)
                  simp only [Act.put, List.setIfInBounds_toArray, List.set_cons_zero, List.set_cons_succ]
                  refine wpAnyL_pure (i := 2) (v := .pointer (some ⟨gN, i, none⟩)) (by simp only [List.getElem?_toArray, List.getElem?_cons_zero, List.getElem?_cons_succ] <;> rfl) (by kernel_rfl) (by kernel_rfl) (by kernel_rfl) (by exact fun _ _ _ h => h) (by decide) (.inr ⟨RK.out, RU.out⟩) (Or.inl ⟨by rfl, fun w _ => (by simp [execOp, go_sem, Act.eval, zi])⟩) (fun _ => ?_)
                  simp only [Act.put, List.setIfInBounds_toArray, List.set_cons_zero, List.set_cons_succ]
                  refine wpAnyL_load2 (i := 3) (v := .int .i64 s1) (by simp only [List.getElem?_toArray, List.getElem?_cons_zero, List.getElem?_cons_succ] <;> rfl) (by kernel_rfl) (by kernel_rfl) (by kernel_rfl) (by exact fun _ _ _ h => h) (by decide) (Waits.one rfl ⟨⟨3, .phase⟩, by simp, rfl, rfl⟩) (by kernel_rfl) (by kernel_rfl) (.inr ⟨RK.out, RU.out⟩) (Or.inl ⟨by rfl, fun w hw => (by obtain ⟨x0, _⟩ := hw; simp [execOp, go_sem, Act.eval, x0])⟩) (fun _ => ?_)
                  simp only [Act.put, List.setIfInBounds_toArray, List.set_cons_zero, List.set_cons_succ]
                  refine wpAnyL_pure (i := 4) (v := .slice (some ⟨gN, 0, none⟩) M.length M.length) (by simp only [List.getElem?_toArray, List.getElem?_cons_zero, List.getElem?_cons_succ] <;> rfl) (by kernel_rfl) (by kernel_rfl) (by kernel_rfl) (by exact fun _ _ _ h => h) (by decide) (.inr ⟨RK.out, RU.out⟩) (Or.inl ⟨by rfl, fun w _ => (by simp [execOp, go_sem, Act.eval])⟩) (fun _ => ?_)
                  simp only [Act.put, List.setIfInBounds_toArray, List.set_cons_zero, List.set_cons_succ]
                  refine wpAnyL_pure (i := 5) (v := .int .i64 (u : Int)) (by simp only [List.getElem?_toArray, List.getElem?_cons_zero, List.getElem?_cons_succ] <;> rfl) (by kernel_rfl) (by kernel_rfl) (by kernel_rfl) (by exact fun _ _ _ h => h) (by decide) (.inr ⟨RK.out, RU.out⟩) (Or.inl ⟨by rfl, fun w _ => (by simp [execOp, go_sem, Act.eval])⟩) (fun _ => ?_)
                  simp only [Act.put, List.setIfInBounds_toArray, List.set_cons_zero, List.set_cons_succ]
                  refine wpAnyL_pure (i := 6) (v := .pointer (some ⟨gN, u, none⟩)) (by simp only [List.getElem?_toArray, List.getElem?_cons_zero, List.getElem?_cons_succ] <;> rfl) (by kernel_rfl) (by kernel_rfl) (by kernel_rfl) (by exact fun _ _ _ h => h) (by decide) (.inr ⟨RK.out, RU.out⟩) (Or.inl ⟨by rfl, fun w _ => (by simp [execOp, go_sem, Act.eval, zu])⟩) (fun _ => ?_)
                  simp only [Act.put, List.setIfInBounds_toArray, List.set_cons_zero, List.set_cons_succ]
                  refine wpAnyL_load2 (i := 7) (v := .int .i64 t) (by simp only [List.getElem?_toArray, List.getElem?_cons_zero, List.getElem?_cons_succ] <;> rfl) (by kernel_rfl) (by kernel_rfl) (by kernel_rfl) (by exact fun _ _ _ h => h) (by decide) (Waits.one rfl ⟨⟨7, .phase⟩, by simp, rfl, rfl⟩) (by kernel_rfl) (by kernel_rfl) (.inr ⟨RK.out, RU.out⟩) (Or.inl ⟨by rfl, fun w hw => (by obtain ⟨_, x1⟩ := hw; simp [execOp, go_sem, Act.eval, x1])⟩) (fun _ => ?_)
                  simp only [Act.put, List.setIfInBounds_toArray, List.set_cons_zero, List.set_cons_succ]
                  refine wpAnyL_pure (i := 8) (v := .int .i64 (s1 + t)) (by simp only [List.getElem?_toArray, List.getElem?_cons_zero, List.getElem?_cons_succ] <;> rfl) (by kernel_rfl) (by kernel_rfl) (by kernel_rfl) (by exact fun _ _ _ h => h) (by decide) (.inr ⟨RK.out, RU.out⟩) (Or.inl ⟨by rfl, fun w _ => (by simp [execOp, go_sem, Act.eval, hwm])⟩) (fun _ => ?_)
                  simp only [Act.put, List.setIfInBounds_toArray, List.set_cons_zero, List.set_cons_succ]
                  refine wpAnyL_pure (i := 9) (v := .pointer (some ⟨gN, i, none⟩)) (by simp only [List.getElem?_toArray, List.getElem?_cons_zero, List.getElem?_cons_succ] <;> rfl) (by kernel_rfl) (by kernel_rfl) (by kernel_rfl) (by exact fun _ _ _ h => h) (by decide) (.inr ⟨RK.out, RU.out⟩) (Or.inl ⟨by rfl, fun w _ => (by simp [execOp, go_sem, Act.eval, zi])⟩) (fun _ => ?_)
                  simp only [Act.put, List.setIfInBounds_toArray, List.set_cons_zero, List.set_cons_succ]
                  have y7 := RK.out
                  have y8 := y2d.out
                  refine wpAnyL_one (i := 10) (by kernel_rfl) (by simp only [List.getElem?_toArray, List.getElem?_cons_zero, List.getElem?_cons_succ] <;> rfl) (by rfl) ?_
                  refine opwp_skip (w' := (wr.drew.setCell ⟨gN, i, none⟩ (.int .i64 (s1 + t)))) (by simp [execOp, go_sem, Act.eval, y7, y8]) ⟨.inl (by kernel_rfl), ?_⟩
                  simp only [Act.put]
                  refine wpAnyL_done (by kernel_rfl) ?_ _
                  clear RK RU y7 y8 y2d hwm
                  have HS9 := hid (show OwnInts (wr.drew.setCell ⟨gN, i, none⟩ (.int .i64 (s1 + t))) gN (.slice (some ⟨gN, 0, none⟩) M.length M.length) (rowQ M i (addIns (numsOf M) 0 (xi.take (j + 1)))) from by rw [HOP.out]; exact HST.out)
                  go_wp2_with fail
                  go_roundw
                  case rel => exact ⟨j + 1, by omega, by go_num, HS9.out, HBX2.out, HBQ2.out⟩
                  case measure => simp [intOf]; omega
                · obtain rfl : j = xi.length := by omega
                  rw [List.take_length] at hrw
                  have hrw' := hrw.out
                  have HBT := hid hbq.out
                  obtain ⟨val, HRT, HNXT, HVL⟩ : ∃ val : Int, Hid (OwnInts wr gN (.slice (some ⟨gN, 0, none⟩) M.length M.length) (rowQ M i val)) ∧ Hid (numsOf (M.take (i + 1)) ++ List.replicate (M.length - (i + 1)) 0 = rowQ M i val) ∧ Hid (val = (cntN (1 + kk) M (i : Int) : Int)) := ⟨addIns (numsOf M) 0 xi, hrw', HNX.out _ rfl, HCT.out⟩
                  obtain ⟨wt, hwt⟩ : ∃ wt : World, wt = wr := ⟨_, rfl⟩
                  subst hwt
                  clear hrw hbq hbx hrw'
                  go_wp2_with fail
                  have hmm := HX4.out.below (HM8.out.trans (HBT.out.mono HM8.out.size)) HX4.out.lt
                  obtain ⟨x0, x1, _, _⟩ := hmm.cells
                  have CN : Hid (wt.drew.cell? ⟨w.heap.size, 0, none⟩ = some (.int .i64 (1 + (kk : Int)))) := x0
                  have CL : Hid (wt.drew.cell? ⟨w.heap.size, 1, none⟩ = some (.slice (some ⟨b5, o5, none⟩) M.length c5)) := x1
                  have hwi : IntKind.i64.wrap ((i : Int) + 1) = (i : Int) + 1 := by rw [IntKind.wrap_i64]; omega
                  have zs1 : (0 : Int) ≤ (i : Int) + 1 := by omega
                  have zs2 : (i : Int) + 1 ≤ (c5 : Int) := by omega
                  have zs3 : i + 1 ≤ c5 := by omega
                  clear hmm x0 x1
                  refine Go.Proofs.YtpdbfbjfodckgaaDoor.wp_region_L 10 9 (fun w' => w'.cell? ⟨w.heap.size, 0, none⟩ = some (.int .i64 (1 + (kk : Int))) ∧ w'.cell? ⟨w.heap.size, 1, none⟩ = some (.slice (some ⟨b5, o5, none⟩) M.length c5)) (by kernel_rfl) rfl ⟨CN.out, CL.out⟩ (fun _ => ?_)
                  refine wpAnyL_pure (i := 0) (v := .pointer (some ⟨w.heap.size, 0, none⟩)) (by simp only [List.getElem?_toArray, List.getElem?_cons_zero] <;> rfl) (by kernel_rfl) (by kernel_rfl) (by kernel_rfl) (by exact fun _ _ _ h => h) (by decide) (.inr ⟨CN.out, CL.out⟩) (Or.inl ⟨by rfl, fun w _ => (by simp [execOp, go_sem, Act.eval])⟩) (fun _ => ?_)
                  simp only [Act.put, List.setIfInBounds_toArray, List.set_cons_zero, List.set_cons_succ]
                  refine wpAnyL_load2 (i := 1) (v := .int .i64 (1 + (kk : Int))) (by simp only [List.getElem?_toArray, List.getElem?_cons_zero, List.getElem?_cons_succ] <;> rfl) (by kernel_rfl) (by kernel_rfl) (by kernel_rfl) (by exact fun _ _ _ h => h) (by decide) (Waits.one rfl ⟨⟨1, .phase⟩, by simp, rfl, rfl⟩) (by kernel_rfl) (by kernel_rfl) (.inr ⟨CN.out, CL.out⟩) (Or.inl ⟨by rfl, fun w hw => (by obtain ⟨x0, _⟩ := hw; simp [execOp, go_sem, Act.eval, x0])⟩) (fun _ => ?_)
                  simp only [Act.put, List.setIfInBounds_toArray, List.set_cons_zero, List.set_cons_succ]
                  refine wpAnyL_pure (i := 2) (v := .pointer (some ⟨w.heap.size, 1, none⟩)) (by simp only [List.getElem?_toArray, List.getElem?_cons_zero, List.getElem?_cons_succ] <;> rfl) (by kernel_rfl) (by kernel_rfl) (by kernel_rfl) (by exact fun _ _ _ h => h) (by decide) (.inr ⟨CN.out, CL.out⟩) (Or.inl ⟨by rfl, fun w _ => (by simp [execOp, go_sem, Act.eval])⟩) (fun _ => ?_)
                  simp only [Act.put, List.setIfInBounds_toArray, List.set_cons_zero, List.set_cons_succ]
                  refine wpAnyL_load2 (i := 3) (v := .slice (some ⟨b5, o5, none⟩) M.length c5) (by simp only [List.getElem?_toArray, List.getElem?_cons_zero, List.getElem?_cons_succ] <;> rfl) (by kernel_rfl) (by kernel_rfl) (by kernel_rfl) (by exact fun _ _ _ h => h) (by decide) (Waits.one rfl ⟨⟨3, .phase⟩, by simp, rfl, rfl⟩) (by kernel_rfl) (by kernel_rfl) (.inr ⟨CN.out, CL.out⟩) (Or.inl ⟨by rfl, fun w hw => (by obtain ⟨_, x1⟩ := hw; simp [execOp, go_sem, Act.eval, x1])⟩) (fun _ => ?_)
                  simp only [Act.put, List.setIfInBounds_toArray, List.set_cons_zero, List.set_cons_succ]
                  refine wpAnyL_pure (i := 4) (v := .int .i64 (i : Int)) (by simp only [List.getElem?_toArray, List.getElem?_cons_zero, List.getElem?_cons_succ] <;> rfl) (by kernel_rfl) (by kernel_rfl) (by kernel_rfl) (by exact fun _ _ _ h => h) (by decide) (.inr ⟨CN.out, CL.out⟩) (Or.inl ⟨by rfl, fun w _ => (by simp [execOp, go_sem, Act.eval])⟩) (fun _ => ?_)
                  simp only [Act.put, List.setIfInBounds_toArray, List.set_cons_zero, List.set_cons_succ]
                  refine wpAnyL_pure (i := 5) (v := .int .i64 ((i : Int) + 1)) (by simp only [List.getElem?_toArray, List.getElem?_cons_zero, List.getElem?_cons_succ] <;> rfl) (by kernel_rfl) (by kernel_rfl) (by kernel_rfl) (by exact fun _ _ _ h => h) (by decide) (.inr ⟨CN.out, CL.out⟩) (Or.inl ⟨by rfl, fun w _ => (by simp [execOp, go_sem, Act.eval, hwi])⟩) (fun _ => ?_)
                  simp only [Act.put, List.setIfInBounds_toArray, List.set_cons_zero, List.set_cons_succ]
                  refine wpAnyL_pure (i := 6) (v := .slice (some ⟨b5, o5, none⟩) (i + 1) c5) (by simp only [List.getElem?_toArray, List.getElem?_cons_zero, List.getElem?_cons_succ] <;> rfl) (by kernel_rfl) (by kernel_rfl) (by kernel_rfl) (by exact fun _ _ _ h => h) (by decide) (.inr ⟨CN.out, CL.out⟩) (Or.inl ⟨by rfl, fun w _ => (by simp [execOp, go_sem, Act.eval, zs1, zs2])⟩) (fun _ => ?_)
                  simp only [Act.put, List.setIfInBounds_toArray, List.set_cons_zero, List.set_cons_succ]
                  refine wpAnyL_pure (i := 7) (v := .agg #[.int .i64 (1 + (kk : Int)), .slice (some ⟨b5, o5, none⟩) (i + 1) c5]) (by simp only [List.getElem?_toArray, List.getElem?_cons_zero, List.getElem?_cons_succ] <;> rfl) (by kernel_rfl) (by kernel_rfl) (by kernel_rfl) (by exact fun _ _ _ h => h) (by decide) (.inr ⟨CN.out, CL.out⟩) (Or.inl ⟨by rfl, fun w _ => (by simp [execOp, go_sem, Act.eval])⟩) (fun _ => ?_)
                  simp only [Act.put, List.setIfInBounds_toArray, List.set_cons_zero, List.set_cons_succ]
                  have halp : Below wt.drew.heap.size wt.drew (wt.drew.alloc (.cells #[.int .i64 0, .slice none 0 0] 24)) := (Below.refl _ wt.drew).alloc (Nat.le_refl _) _
                  have hpb : Box2 (wt.drew.alloc (.cells #[.int .i64 0, .slice none 0 0] 24)) wt.heap.size 24 (.int .i64 0) (.slice none 0 0) := Box2.new wt.drew 24 (.int .i64 0) (.slice none 0 0)
                  have hp_0 := hid ((halp.cell (cell_lt CN.out)).trans CN.out)
                  have hp_1 := hid ((halp.cell (cell_lt CL.out)).trans CL.out)
                  refine wpAnyL_one (i := 8) (by kernel_rfl) (by simp only [List.getElem?_toArray, List.getElem?_cons_zero, List.getElem?_cons_succ] <;> rfl) (by rfl) ?_
                  refine opwp_value (v := .pointer (some ⟨wt.heap.size, 0, none⟩)) (w' := (wt.drew.alloc (.cells #[.int .i64 0, .slice none 0 0] 24))) (by simp [execOp, go_sem]) ⟨.inr ⟨hp_0.out, hp_1.out⟩, ?_⟩
                  simp only [Act.put, List.setIfInBounds_toArray, List.set_cons_zero, List.set_cons_succ]
                  refine wpAnyL_one (i := 9) (by kernel_rfl) (by simp only [List.getElem?_toArray, List.getElem?_cons_zero, List.getElem?_cons_succ] <;> rfl) (by rfl) ?_
                  refine opwp_skip (w' := (((wt.drew.alloc (.cells #[.int .i64 0, .slice none 0 0] 24)).setCell ⟨wt.heap.size, 0, none⟩ (.int .i64 (1 + (kk : Int)))).setCell ⟨wt.heap.size, 1, none⟩ (.slice (some ⟨b5, o5, none⟩) (i + 1) c5))) (by simp [execOp, go_sem, Act.eval]) ⟨.inl (by kernel_rfl), ?_⟩
                  simp only [Act.put]
                  refine wpAnyL_done (by kernel_rfl) ?_ _
                  have hb10 : Below wt.heap.size wt (((wt.drew.alloc (.cells #[.int .i64 0, .slice none 0 0] 24)).setCell ⟨wt.heap.size, 0, none⟩ (.int .i64 (1 + (kk : Int)))).setCell ⟨wt.heap.size, 1, none⟩ (.slice (some ⟨b5, o5, none⟩) (i + 1) c5)) := below_01 ((Below.refl _ wt).drew.trans halp) (Nat.le_refl _) _ _
                  have HP10 := hid (hpb.set01 (.int .i64 (1 + (kk : Int))) (.slice (some ⟨b5, o5, none⟩) (i + 1) c5))
                  have HB10 := hid (HBT.out.trans (hb10.mono HBT.out.size))
                  have HR10 := hid (HRT.out.below hb10)
                  clear halp hpb hb10 CN CL hwi hp_0 hp_1
                  generalize ((wt.drew.alloc (.cells #[.int .i64 0, .slice none 0 0] 24)).setCell ⟨wt.heap.size, 0, none⟩ (.int .i64 (1 + (kk : Int)))).setCell ⟨wt.heap.size, 1, none⟩ (.slice (some ⟨b5, o5, none⟩) (i + 1) c5) = w10 at *
                  obtain ⟨x0, x1, _, _⟩ := (HX4.out.below (HM8.out.trans (HB10.out.mono HM8.out.size)) HX4.out.lt).cells
                  go_wp2_with fail
                  rw [hsh]
                  clear x0 x1
                  go_loopw [14, 130] (fun y z wq => ∃ (k : Nat), k ≤ N ∧ z = .int .u64 k ∧ y = .int .i64 (cntK (sOf (vsOf M) (i : Int)) M (i : Int) k : Nat) ∧ Hid (Below w10.heap.size w10 wq)) (fun _ z _ => N - (intOf z).toNat)
                  case atStart => exact ⟨0, Nat.zero_le _, rfl, rfl, Below.refl _ _⟩
                  case round =>
                    obtain ⟨k, hk, rfl, rfl, hbq⟩ := hrel
                    have HB8 := hid (HB10.out.trans (hbq.out.mono HB10.out.size))
                    have HBQ := hid hbq.out
                    clear hbq
                    have hcl := cntK_le (sOf (vsOf M) (i : Int)) M (i : Int) k
                    by_cases hkl : k < N
                    · have zk : (k : Int) < (N : Int) := by omega
                      have HCS := hid (cntK_succ (sOf (vsOf M) (i : Int)) M (i : Int) k)
                      obtain ⟨t, ht, y0, y1, _, _⟩ := (HRV.out.below HB8.out HRV.out.lt).getS i (by rw [vsOf_length]; exact hil)
                      rw [ht] at HCS hcl ⊢
                      obtain ⟨x, hx, hsub⟩ := sub_word (k := k) (by omega) t
                      have lgv := cell_lt y0
                      have HNP := hid (nodes_take (c' := c5) (HNA.out.below (HM8.out.trans (HB8.out.mono HM8.out.size))) hil)
                      have HEV := hid (Eval_k (1 + (kk : Int)) (M.take (i + 1)) _ k wr HNP.out (valid_take HS2.out hil) (by omega))
                      rw [eval_take hil] at HEV
                      have hp := HP10.out.below HBQ.out HP10.out.lt
                      obtain ⟨z0, z1, _, _⟩ := hp.cells
                      have lpp := hp.lt
                      clear ht hp
                      generalize cntK t M (i : Int) k = cc at HCS hcl ⊢
                      cases hsb : sub (setW k) t
                      · rw [hsb] at hsub HCS
                        have HC2 := hid (HCS.out.trans (by rw [Bool.false_and, if_neg (by simp), Nat.add_zero]))
                        go_wp2_with fail
                        go_roundw
                        case rel => exact ⟨k + 1, by omega, by go_num, by rw [HC2.out], HBQ.out⟩
                        case measure => simp [intOf]; omega
                      · rw [hsb] at hsub HCS
                        have hx0 : x = 0 := by simpa using hsub
                        subst hx0
                        generalize bOf (bsOf (has (setW k)) M) (i : Int) = ev at HEV HCS
                        go_wp2_with fail
                        refine HEV.out.mono ?_
                        rintro e wz ⟨rfl, hbz⟩
                        have HBZ := hid (HBQ.out.trans (hbz.mono HBQ.out.size))
                        clear hbz hx hsub y0 y1 z0 z1
                        cases ev
                        · have HC2 := hid (HCS.out.trans (by rw [Bool.true_and, if_neg (by simp), Nat.add_zero]))
                          go_wp2_with fail
                          go_roundw
                          case rel => exact ⟨k + 1, by omega, by go_num, by rw [HC2.out], HBZ.out⟩
                          case measure => simp [intOf]; omega
                        · have HC2 := hid (HCS.out.trans (by rw [Bool.true_and, if_pos rfl]))
                          go_wp2_with fail
                          go_roundw
                          case rel => exact ⟨k + 1, by omega, by go_num, by rw [HC2.out]; go_num, HBZ.out⟩
                          case measure => simp [intOf]; omega
                    · obtain rfl : k = N := by omega
                      have hck : (cntK (sOf (vsOf M) (i : Int)) M (i : Int) k : Int) = val := by
                        rw [HNE.out, cntK_all M (i : Int) (by omega), HVL.out]
                      generalize cntK (sOf (vsOf M) (i : Int)) M (i : Int) k = cc at hck hcl ⊢
                      have hrz := HR10.out.below HBQ.out
                      obtain ⟨g, cg, eg, _, hgl, hcg⟩ := hrz.cells (by rw [rowQ_length _ hil]; omega)
                      injection eg with eg1 eg2 eg3
                      injection eg1 with eg1
                      injection eg1 with eg1 _ _
                      clear eg2 eg3
                      subst eg1
                      have hcell := (hcg i (by rw [rowQ_length _ hil]; exact hil)).1
                      rw [rowQ_at _ hil] at hcell
                      rw [← hck] at hcell
                      have HRZ := hid hrz
                      have dcc : ((cc : Int) != (cc : Int)) = false := by simp
                      clear hcg hrz hck
                      go_wp2_with fail
                      go_roundw
                      case rel => exact ⟨i + 1, by omega, by go_num, (by rw [HNXT.out]; exact HRZ.out), HB8.out⟩
                      case measure => simp [intOf]; omega
          · obtain rfl : i = M.length := by omega
            have HBW := hid (HM8.out.trans (hbr.out.mono HM8.out.size))
            clear hrow hbr
            go_wp2_with fail
            refine (CWK.out _ HBW.out).mono ?_
            rintro e wz ⟨rfl, hbz⟩
            have HMZ := hid (HBW.out.trans (hbz.mono HBW.out.size))
            clear hbz
            go_wp2_with fail
            go_ret
            exact ⟨rfl, HB4.out.trans (HMZ.out.mono HB4.out.size)⟩
end Go.Proofs.YtpdbfbjfodckgaaDoor
