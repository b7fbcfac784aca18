/- Walks of lit.Holds and node.Eval: the value of a net in a set. -/
import Derived.Test.YtpdbfbjfodckgaaDoorHPush
import Derived.Test.YtpdbfbjfodckgaaDoorHInv
import Derived.Test.YtpdbfbjfodckgaaDoorHOpp
import Derived.Test.YtpdbfbjfodckgaaDoorHDet
import Derived.Test.YtpdbfbjfodckgaaDoorPure
import Derived.Test.YtpdbfbjfodckgaaDoorNMem
import Derived.BigQuiet
namespace Go.Proofs.YtpdbfbjfodckgaaDoor
open Go.RowKit

theorem Has_b (s : VS) (v : Int) (w : World) : Calls Tryd.prog 78 #[encS s, .int .i64 v] w fun e w' => e = .returned (.bool (has s v)) ∧ Below w.heap.size w w' :=
  (Has_c s v w).mono fun _ _ h => h
set_option maxHeartbeats 1000000 in
theorem Holds_c (s : VS) (l : Int) (w : World) (h1 : 1 ≤ litVar l) :
    Calls Tryd.prog 66 #[encS s, .int .i64 l] w fun e w' => e = .returned (.bool (litB (has s) l)) ∧ Below w.heap.size w w' := by
  have hB : Below w.heap.size w (w.alloc (.cells #[.int .u64 ((lw s).toNat : Int), .int .u64 ((hw s).toNat : Int)] 42)) := (Below.refl _ w).alloc (Nat.le_refl _) _
  have HB := hid hB
  clear hB
  obtain ⟨s0, s1, _, _⟩ := (SetVar.new w s 42).cells
  have q1 := fun w' => litVar_b l w'
  have q2 := fun w' => Has_b s (litVar l) w'
  have d1 : (litVar l != 0) = true := by simp; omega
  have d0 : ¬ litVar l = 0 := by omega
  by_cases hl : l < 0
  · have HL := hid (show litB (has s) l = !has s (litVar l) from by unfold litB; rw [if_pos hl])
    have d2 : decide (0 < l) = false := decide_eq_false (by omega)
    generalize litVar l = v at *
    go_enter Tryd.func66, Tryd.ntmps66
    go_wp2_with fail
    refine wp_region_pure (by kernel_rfl) (by kernel_rfl) ?_
    repeat (go_big_quiet_step ((first | (go_at_call 56; exact Calls.ext_of (q1 _)) | (go_at_call 78; exact Calls.ext_of (q2 _)))))
    refine wpQuiet_nil ?_
    intro w3 hb3
    go_wp2_with fail
    go_ret
    exact ⟨by rw [HL.out]; rfl, HB.out.trans (hb3.mono HB.out.size)⟩
  · have HL := hid (show litB (has s) l = has s (litVar l) from by unfold litB; rw [if_neg hl])
    have d2 : decide (0 < l) = true := decide_eq_true (by
      apply Classical.byContradiction; intro h
      have : l = 0 := by omega
      subst this
      exact absurd h1 (by decide))
    generalize litVar l = v at *
    go_enter Tryd.func66, Tryd.ntmps66
    go_wp2_with fail
    refine wp_region_pure (by kernel_rfl) (by kernel_rfl) ?_
    repeat (go_big_quiet_step ((first | (go_at_call 56; exact Calls.ext_of (q1 _)) | (go_at_call 78; exact Calls.ext_of (q2 _)))))
    refine wpQuiet_nil ?_
    intro w3 hb3
    go_wp2_with fail
    go_ret
    exact ⟨by rw [HL.out]; rfl, HB.out.trans (hb3.mono HB.out.size)⟩
/-- The variable pb holds the row g of booleans M. -/
structure IsVar (w : World) (pb g m : Nat) (M : List Bool) : Prop where
  box : w.heap[pb]? = some (.cells #[.slice (some ⟨g, 0, none⟩) m m] 79 (0, 0))
  row : BRow w g M
  len : M.length = m
  ne : pb ≠ g
theorem IsVar.ptr {w : World} {pb g m : Nat} {M : List Bool} (h : IsVar w pb g m M) : w.cell? ⟨pb, 0, none⟩ = some (.slice (some ⟨g, 0, none⟩) m m) := by
  have := h.box
  simp [World.cell?, this]
theorem IsVar.below {w w' : World} {pb g m : Nat} {M : List Bool} (h : IsVar w pb g m M) (hb : Below w.heap.size w w') : IsVar w' pb g m M :=
  ⟨(hb.block pb (Array.getElem?_eq_some_iff.1 h.box).1).trans h.box, h.row.below hb h.row.lt, h.len, h.ne⟩
theorem IsVar.store {w : World} {pb g m : Nat} {M : List Bool} (h : IsVar w pb g m M) (i : Nat) (hi : i < m) (x : Bool) : IsVar (w.setCell ⟨g, i, none⟩ (.bool x)) pb g m (M.set i x) :=
  ⟨(Below.heap_setCell _ _ _ _ h.ne).trans h.box, h.row.store i (by rw [h.len]; exact hi) x, by rw [List.length_set]; exact h.len, h.ne⟩
theorem any_take (p : Int → Bool) (l : List Int) (k : Nat) (h : k < l.length) : (l.take (k + 1)).any p = ((l.take k).any p || p l[k]) := by
  rw [List.take_succ_eq_append_getElem h, List.any_append]; simp
theorem any_true (p : Int → Bool) (l : List Int) (k : Nat) (h : k < l.length) (hb : p l[k] = true) : l.any p = true := by
  rw [List.any_eq_true]
  exact ⟨l[k], List.getElem_mem h, hb⟩
/-- The predicate of closure 1. -/
def pE1 (M : List Bool) (x : Int) : Bool := !bOf M x
theorem eval1_c (x : Int) (M : List Bool) (pb g m : Nat) (w : World) (hV : IsVar w pb g m M) (h0 : 0 ≤ x) (h1 : x < (m : Int)) :
    Calls Tryd.prog 68 #[.int .i64 x, .pointer (some ⟨pb, 0, none⟩)] w fun e w' => e = .returned (.bool (pE1 M x)) ∧ w = w' := by
  obtain ⟨k, rfl⟩ : ∃ k : Nat, x = (k : Int) := ⟨x.toNat, by omega⟩
  obtain ⟨t, ht, y0, _⟩ := hV.row.getB k (by rw [hV.len]; omega)
  have y1 := hV.ptr
  have z1 : (0 : Int) ≤ (k : Int) ∧ (k : Int) < (m : Int) := by omega
  have HP := hid (show pE1 M (k : Int) = !t from by unfold pE1; rw [ht])
  clear ht hV h0 h1
  go_enter Tryd.func68, Tryd.ntmps68
  go_wp2
  go_ret
  exact ⟨by rw [HP.out]; rfl, rfl⟩
set_option maxRecDepth 100000 in
set_option maxHeartbeats 1000000 in
theorem IndexFuncE1_c (v : Value) (l : List Int) (M : List Bool) (pb g m : Nat) (w : World) (hI : IntsAt w v l) (hV : IsVar w pb g m M) (hl : l.length ≤ 140737488355328) (hr : ∀ x ∈ l, 0 ≤ x ∧ x < (m : Int)) :
    Calls Tryd.prog 79 #[v, .func (.func 68) #[] #[.pointer (some ⟨pb, 0, none⟩)]] w fun e w' => ∃ r, e = .returned (.int .i64 r) ∧ decide (0 ≤ r) = l.any (pE1 M) ∧ w = w' := by
  obtain ⟨p, c, rfl, hI⟩ := hI
  have HI := hid hI
  have HM := hid hV
  have HR := hid hr
  clear hI hV hr
  go_enter Tryd.func79, Tryd.ntmps79
  go_wp2
  go_loop [8] (fun i => ∃ k : Nat, k ≤ l.length ∧ i = .int .i64 k ∧ Hid ((l.take k).any (pE1 M) = false)) (fun i => l.length - (intOf i).toNat)
  case atStart => exact ⟨0, Nat.zero_le _, rfl, rfl⟩
  case round =>
    obtain ⟨k, hk, rfl, hb⟩ := hrel
    by_cases hlt : k < l.length
    · obtain ⟨b, off, rfl, hI⟩ := HI.out.resolve_left (by intro e; rw [e] at hlt; simp at hlt)
      have hc1 := hI k hlt
      rw [List.getElem?_eq_getElem hlt, Option.getD_some] at hc1
      have HT := hid (any_take (pE1 M) l k hlt)
      have HF := hid (any_true (pE1 M) l k hlt)
      have HRX := hid (HR.out _ (List.getElem_mem hlt))
      clear hI
      generalize l[k] = x at *
      cases hx : pE1 M x
      · go_wp2_with (go_at_call 68; refine (eval1_c x M pb g m _ HM.out HRX.out.1 HRX.out.2).mono ?_; rintro e w1 ⟨rfl, rfl⟩; rw [hx])
        go_round
        case rel => exact ⟨k + 1, by omega, by go_num, by show (l.take (k + 1)).any _ = false; rw [HT.out, hb.out, hx]; rfl⟩
        case measure => simp [intOf]; omega
      · go_wp2_with (go_at_call 68; refine (eval1_c x M pb g m _ HM.out HRX.out.1 HRX.out.2).mono ?_; rintro e w1 ⟨rfl, rfl⟩; rw [hx])
        go_ret
        exact ⟨_, rfl, by rw [HF.out hx]; simp, rfl⟩
    · obtain rfl : k = l.length := by omega
      go_wp2
      go_ret
      exact ⟨_, rfl, by have := hb.out; rw [List.take_length] at this; rw [this]; rfl, rfl⟩
theorem ContainsFuncE1_c (v : Value) (l : List Int) (M : List Bool) (pb g m : Nat) (w : World) (hI : IntsAt w v l) (hV : IsVar w pb g m M) (hl : l.length ≤ 140737488355328) (hr : ∀ x ∈ l, 0 ≤ x ∧ x < (m : Int)) :
    Calls Tryd.prog 67 #[v, .func (.func 68) #[] #[.pointer (some ⟨pb, 0, none⟩)]] w fun e w' => e = .returned (.bool (l.any (pE1 M))) ∧ Below w.heap.size w w' := by
  go_enter Tryd.func67, Tryd.ntmps67
  go_wp2_with (go_at_call 79; refine (IndexFuncE1_c v l M pb g m _ hI hV hl hr).mono ?_; rintro e w1 ⟨r, rfl, hr, rfl⟩)
  go_ret
  exact ⟨rfl, Below.refl _ _⟩
/-- The predicate of closure 2. -/
def pE2 (M : List Bool) (x : Int) : Bool := bOf M x
theorem eval2_c (x : Int) (M : List Bool) (pb g m : Nat) (w : World) (hV : IsVar w pb g m M) (h0 : 0 ≤ x) (h1 : x < (m : Int)) :
    Calls Tryd.prog 69 #[.int .i64 x, .pointer (some ⟨pb, 0, none⟩)] w fun e w' => e = .returned (.bool (pE2 M x)) ∧ w = w' := by
  obtain ⟨k, rfl⟩ : ∃ k : Nat, x = (k : Int) := ⟨x.toNat, by omega⟩
  obtain ⟨t, ht, y0, _⟩ := hV.row.getB k (by rw [hV.len]; omega)
  have y1 := hV.ptr
  have z1 : (0 : Int) ≤ (k : Int) ∧ (k : Int) < (m : Int) := by omega
  have HP := hid (show pE2 M (k : Int) = t from by unfold pE2; rw [ht])
  clear ht hV h0 h1
  go_enter Tryd.func69, Tryd.ntmps69
  go_wp2
  go_ret
  exact ⟨by rw [HP.out]; rfl, rfl⟩
set_option maxRecDepth 100000 in
set_option maxHeartbeats 1000000 in
theorem IndexFuncE2_c (v : Value) (l : List Int) (M : List Bool) (pb g m : Nat) (w : World) (hI : IntsAt w v l) (hV : IsVar w pb g m M) (hl : l.length ≤ 140737488355328) (hr : ∀ x ∈ l, 0 ≤ x ∧ x < (m : Int)) :
    Calls Tryd.prog 79 #[v, .func (.func 69) #[] #[.pointer (some ⟨pb, 0, none⟩)]] w fun e w' => ∃ r, e = .returned (.int .i64 r) ∧ decide (0 ≤ r) = l.any (pE2 M) ∧ w = w' := by
  obtain ⟨p, c, rfl, hI⟩ := hI
  have HI := hid hI
  have HM := hid hV
  have HR := hid hr
  clear hI hV hr
  go_enter Tryd.func79, Tryd.ntmps79
  go_wp2
  go_loop [8] (fun i => ∃ k : Nat, k ≤ l.length ∧ i = .int .i64 k ∧ Hid ((l.take k).any (pE2 M) = false)) (fun i => l.length - (intOf i).toNat)
  case atStart => exact ⟨0, Nat.zero_le _, rfl, rfl⟩
  case round =>
    obtain ⟨k, hk, rfl, hb⟩ := hrel
    by_cases hlt : k < l.length
    · obtain ⟨b, off, rfl, hI⟩ := HI.out.resolve_left (by intro e; rw [e] at hlt; simp at hlt)
      have hc1 := hI k hlt
      rw [List.getElem?_eq_getElem hlt, Option.getD_some] at hc1
      have HT := hid (any_take (pE2 M) l k hlt)
      have HF := hid (any_true (pE2 M) l k hlt)
      have HRX := hid (HR.out _ (List.getElem_mem hlt))
      clear hI
      generalize l[k] = x at *
      cases hx : pE2 M x
      · go_wp2_with (go_at_call 69; refine (eval2_c x M pb g m _ HM.out HRX.out.1 HRX.out.2).mono ?_; rintro e w1 ⟨rfl, rfl⟩; rw [hx])
        go_round
        case rel => exact ⟨k + 1, by omega, by go_num, by show (l.take (k + 1)).any _ = false; rw [HT.out, hb.out, hx]; rfl⟩
        case measure => simp [intOf]; omega
      · go_wp2_with (go_at_call 69; refine (eval2_c x M pb g m _ HM.out HRX.out.1 HRX.out.2).mono ?_; rintro e w1 ⟨rfl, rfl⟩; rw [hx])
        go_ret
        exact ⟨_, rfl, by rw [HF.out hx]; simp, rfl⟩
    · obtain rfl : k = l.length := by omega
      go_wp2
      go_ret
      exact ⟨_, rfl, by have := hb.out; rw [List.take_length] at this; rw [this]; rfl, rfl⟩
theorem ContainsFuncE2_c (v : Value) (l : List Int) (M : List Bool) (pb g m : Nat) (w : World) (hI : IntsAt w v l) (hV : IsVar w pb g m M) (hl : l.length ≤ 140737488355328) (hr : ∀ x ∈ l, 0 ≤ x ∧ x < (m : Int)) :
    Calls Tryd.prog 67 #[v, .func (.func 69) #[] #[.pointer (some ⟨pb, 0, none⟩)]] w fun e w' => e = .returned (.bool (l.any (pE2 M))) ∧ Below w.heap.size w w' := by
  go_enter Tryd.func67, Tryd.ntmps67
  go_wp2_with (go_at_call 79; refine (IndexFuncE2_c v l M pb g m _ hI hV hl hr).mono ?_; rintro e w1 ⟨r, rfl, hr, rfl⟩)
  go_ret
  exact ⟨rfl, Below.refl _ _⟩
theorem all_pE (M N : List Bool) (l : List Int) (h : ∀ x ∈ l, bOf M x = bOf N x) : (!l.any (pE1 M)) = l.all (bOf N) := by
  rw [Bool.eq_iff_iff, Bool.not_eq_true', List.any_eq_false, List.all_eq_true]
  constructor
  · intro g x hx
    have := g x hx
    unfold pE1 at this
    rw [← h x hx]; simpa using this
  · intro g x hx
    unfold pE1
    rw [h x hx, g x hx]; simp
theorem any_pE (M N : List Bool) (l : List Int) (h : ∀ x ∈ l, bOf M x = bOf N x) : l.any (pE2 M) = l.any (bOf N) := by
  rw [Bool.eq_iff_iff, List.any_eq_true, List.any_eq_true]
  exact ⟨fun ⟨x, hx, g⟩ => ⟨x, hx, by rw [← h x hx]; exact g⟩, fun ⟨x, hx, g⟩ => ⟨x, hx, by show bOf M x = true; rw [h x hx]; exact g⟩⟩
set_option maxRecDepth 100000 in
set_option maxHeartbeats 8000000 in
theorem Eval_c (n : Int) (L : List NodeT) (v : Value) (s : VS) (w : World) (hN : NodesAt w v L) (hv : validNet ⟨n, L⟩ = true) :
    Calls Tryd.prog 36 #[.agg #[.int .i64 n, v], encS s] w (DecPost (bOf (bsOf (has s) L) ((L.length : Int) - 1)) w) := by
  obtain ⟨⟨r1, r2, r3, r4⟩, hft⟩ := (validNet_iff _).1 hv
  simp only at r1 r2 r3 r4 hft
  have hb1 : Below w.heap.size w (w.alloc (.cells #[.int .i64 n, v] 24)) := (Below.refl _ w).alloc (Nat.le_refl _) _
  have hb12 : Below (w.alloc (.cells #[.int .i64 n, v] 24)).heap.size (w.alloc (.cells #[.int .i64 n, v] 24)) ((w.alloc (.cells #[.int .i64 n, v] 24)).alloc (.cells #[.int .u64 ((lw s).toNat : Int), .int .u64 ((hw s).toNat : Int)] 42)) := (Below.refl _ _).alloc (Nat.le_refl _) _
  have hCK := Check_c n L v _ ((hN.below hb1).below hb12)
  rw [checkNo_t hv] at hCK
  have HCK := hid hCK
  have hx := (NetVar.new w n v 24).below hb12
  have hs := SetVar.new (w.alloc (.cells #[.int .i64 n, v] 24)) s 42
  rw [World.size_alloc] at hs
  obtain ⟨p, c, rfl, h⟩ := hN
  obtain ⟨b, off, rfl, hN⟩ := h.resolve_left (by intro e; rw [e] at r3; simp at r3)
  have HN := hid hN
  have HFT := hid hft
  have HVN := hid hv
  have HX := hid hx
  have HS := hid hs
  have HB1 := hid (hb1.trans (hb12.mono hb1.size))
  obtain ⟨x0, x1⟩ := hx
  clear hCK hN h hv hft hb1 hb12 hs
  go_enter Tryd.func36, Tryd.ntmps36
  go_wp2_with fail
  refine HCK.out.mono ?_
  rintro e w2 ⟨rfl, hb2⟩
  clear x0 x1
  obtain ⟨x0, x1⟩ := HX.out.below hb2
  have HX2 := hid (HX.out.below hb2)
  have HS2 := hid (HS.out.below hb2 HS.out.lt)
  have HB2 := hid (HB1.out.trans (hb2.mono HB1.out.size))
  have lx : w.heap.size < w2.heap.size := cell_lt x0
  have hmk := fun w' => make_bools w' L.length (by omega) (L.length : Int) (L.length : Int) rfl rfl
  have hal : Below w2.heap.size w2 ((w2.alloc (.cells (madeCells #[.bool false] L.length) 4)).alloc (.cells #[.slice (some ⟨w2.heap.size, 0, none⟩) L.length L.length] 79)) := ((Below.refl _ w2).alloc (Nat.le_refl _) _).alloc (by simp) _
  have hbox : ((w2.alloc (.cells (madeCells #[.bool false] L.length) 4)).alloc (.cells #[.slice (some ⟨w2.heap.size, 0, none⟩) L.length L.length] 79)).heap[w2.heap.size + 1]? = some (.cells #[.slice (some ⟨w2.heap.size, 0, none⟩) L.length L.length] 79 (0, 0)) := by
    have := heap_alloc_new (w2.alloc (.cells (madeCells #[.bool false] L.length) 4)) (.cells #[.slice (some ⟨w2.heap.size, 0, none⟩) L.length L.length] 79)
    rw [World.size_alloc] at this
    exact this
  have HV0 := hid (show IsVar ((w2.alloc (.cells (madeCells #[.bool false] L.length) 4)).alloc (.cells #[.slice (some ⟨w2.heap.size, 0, none⟩) L.length L.length] 79)) (w2.heap.size + 1) w2.heap.size L.length (bsOf (has s) (L.take 0) ++ List.replicate (L.length - 0) false) from
    ⟨hbox, (BRow.made w2 L.length).alloc _, by show (List.replicate L.length false).length = _; simp, by omega⟩)
  have HAL := hid hal
  clear hal hbox hb2 HCK HX HS HB1
  go_wp2_with fail
  generalize (w2.alloc (.cells (madeCells #[.bool false] L.length) 4)).alloc (.cells #[.slice (some ⟨w2.heap.size, 0, none⟩) L.length L.length] 79) = w3 at *
  obtain ⟨g, hg⟩ : ∃ g, g = w2.heap.size := ⟨_, rfl⟩
  rw [← hg] at HV0 ⊢
  obtain ⟨pb, hpb⟩ : ∃ pb, pb = g + 1 := ⟨_, rfl⟩
  rw [← hpb] at HV0 ⊢
  have HG := hid hg
  clear hmk x0 x1 hg hpb
  go_loopw [18] (fun z wr => ∃ (k : Nat), k ≤ L.length ∧ z = .int .i64 k ∧ Hid (IsVar wr pb g L.length (bsOf (has s) (L.take k) ++ List.replicate (L.length - k) false)) ∧ Hid (Below w2.heap.size w2 wr)) (fun z _ => L.length - (intOf z).toNat)
  case atStart => exact ⟨0, Nat.zero_le _, rfl, HV0.out, HAL.out⟩
  case round =>
    clear HV0 HAL
    obtain ⟨k, hk, rfl, hiv, hbr⟩ := hrel
    by_cases hkl : k < L.length
    · obtain ⟨u, hu⟩ := HN.out k hkl
      have hur := hu.below (HB2.out.trans (hbr.out.mono HB2.out.size))
      have d0 := hur.kind
      have d1 := hur.lit
      have d2 := hur.ins
      have HU := hid hur
      have HIN := hid (ins_lt HFT.out hkl)
      have HKD := hid (valid_kinds HVN.out hkl)
      have hle := hur.len
      have hiv2 := hiv.out
      rw [rowB_start hkl] at hiv2
      have HRV := hid hiv2
      have HNX := hid (fun s' hs' => rowB_next (A := has s) hkl (s := s') hs')
      have zk : (0 : Int) ≤ (k : Int) ∧ (k : Int) < (L.length : Int) := by omega
      have hlg := hiv2.row.lt
      have lpb : pb < wr.heap.size := cell_lt hiv2.ptr
      have HLW := hid (show w2.heap.size ≤ g from by rw [HG.out]; exact Nat.le_refl _)
      clear hu hur hiv hiv2
      generalize hxx : L[k] = x at *
      obtain ⟨xk, xl, xi⟩ := x
      obtain ⟨p2, c2, e2, hdrop⟩ := HU.out.ints
      subst e2
      clear hdrop hxx
      simp only at HIN HKD hle HNX
      have HBR := hid hbr.out
      have hal : Below wr.heap.size wr (wr.alloc (.cells #[.int .i64 xk, .int .i64 xl, .slice p2 xi.length c2] 39)) := (Below.refl _ wr).alloc (Nat.le_refl _) _
      have hr5 := HRV.out.below hal
      have HB5 := hid (HBR.out.trans (hal.mono HBR.out.size))
      have HBX := hid (Box3.new wr 39 (.int .i64 xk) (.int .i64 xl) (.slice p2 xi.length c2))
      have HR5 := hid hr5
      have HI5 := hid (HU.out.ints.below hal)
      obtain ⟨n0, n1, n2⟩ := HBX.out.cells
      clear hbr hr5
      rcases (show xk = 0 ∨ xk = 1 ∨ xk = 2 ∨ xk = 3 ∨ xk = 4 by have := HKD.out.1; omega) with rfl | rfl | rfl | rfl | rfl
      · have HN2 := hid (show IsVar _ pb g L.length (bsOf (has s) (L.take (k + 1)) ++ List.replicate (L.length - (k + 1)) false) from by rw [HNX.out false rfl]; exact HR5.out)
        clear hal
        go_wp2_with fail
        go_roundw
        case rel => exact ⟨k + 1, by omega, by go_num, HN2.out, HB5.out⟩
        case measure => simp [intOf]; omega
      · have y0 := HRV.out.ptr
        obtain ⟨t, ht, y1, y2⟩ := HRV.out.row.getB k (by rw [rowB_length _ hkl]; exact hkl)
        have h7 := HRV.out.store k hkl true
        rw [rowB_set _ _ hkl, ← HNX.out true rfl] at h7
        have hszk : (wr.setCell ⟨g, k, none⟩ (.bool true)).heap.size = wr.heap.size := by simp [World.setCell]
        have hb7 := HBR.out.setCell (p := ⟨g, k, none⟩) HLW.out (.bool true)
        have HN2 := hid (h7.below ((Below.refl _ _).alloc (Nat.le_refl _) (.cells #[.int .i64 1, .int .i64 xl, .slice p2 xi.length c2] 39)))
        have HB7 := hid (hb7.alloc (by rw [hszk]; exact HBR.out.size) (.cells #[.int .i64 1, .int .i64 xl, .slice p2 xi.length c2] 39))
        clear h7 hal ht hszk hb7
        go_wp2_with fail
        go_roundw
        case rel => exact ⟨k + 1, by omega, by go_num, HN2.out, HB7.out⟩
        case measure => simp [intOf]; omega
      · have hl1 := HKD.out.2.2 rfl
        go_wp2_with fail
        clear n0 n1 n2 d0 d1 d2
        obtain ⟨xb, hxb⟩ : ∃ xb, xb = wr.heap.size := ⟨_, rfl⟩
        have hsv := HS2.out.below HB5.out (by have := HS2.out.lt; omega)
        generalize wr.alloc (.cells #[.int .i64 2, .int .i64 xl, .slice p2 xi.length c2] 39) = w5 at *
        rw [← hxb] at HBX ⊢
        clear hxb
        have PV : Hid (w5.drew.cell? ⟨pb, 0, none⟩ = some (.slice (some ⟨g, 0, none⟩) L.length L.length)) := HR5.out.ptr
        have SVd : Hid (SetVar w5.drew (w.heap.size + 1) s) := hsv
        have BL : Hid (w5.drew.cell? ⟨xb, 1, none⟩ = some (.int .i64 xl)) := HBX.out.cells.2.1
        clear hal hsv
        refine Go.Proofs.YtpdbfbjfodckgaaDoor.wp_region_L 8 7 (fun w' => w'.cell? ⟨pb, 0, none⟩ = some (.slice (some ⟨g, 0, none⟩) L.length L.length) ∧ SetVar w' (w.heap.size + 1) (s) ∧ w'.cell? ⟨xb, 1, none⟩ = some (.int .i64 xl)) (by kernel_rfl) rfl ⟨PV.out, SVd.out, BL.out⟩ (fun _ => ?_)
        refine wpAnyL_load2 (i := 0) (v := .slice (some ⟨g, 0, none⟩) L.length L.length) (by simp only [List.getElem?_toArray, List.getElem?_cons_zero] <;> rfl) (by kernel_rfl) (by kernel_rfl) (by kernel_rfl) (by exact fun _ _ _ h => h) (by decide) (Waits.one rfl ⟨⟨0, .phase⟩, by simp, rfl, rfl⟩) (by kernel_rfl) (by kernel_rfl) (.inr ⟨PV.out, SVd.out, BL.out⟩) (Or.inl ⟨by rfl, fun w hw => (by obtain ⟨x0, _, _⟩ := hw; simp [execOp, go_sem, Act.eval, x0])⟩) (fun _ => ?_)
        simp only [Act.put, List.setIfInBounds_toArray, List.set_cons_zero, List.set_cons_succ]
        refine wpAnyL_pure (i := 1) (v := .int .i64 (k : Int)) (by simp only [List.getElem?_toArray, List.getElem?_cons_zero, List.getElem?_cons_succ] <;> rfl) (by kernel_rfl) (by kernel_rfl) (by kernel_rfl) (by exact fun _ _ _ h => h) (by decide) (.inr ⟨PV.out, SVd.out, BL.out⟩) (Or.inl ⟨by rfl, fun w _ => (by simp [execOp, go_sem, Act.eval])⟩) (fun _ => ?_)
        simp only [Act.put, List.setIfInBounds_toArray, List.set_cons_zero, List.set_cons_succ]
        refine wpAnyL_load2 (i := 2) (v := encS s) (by simp only [List.getElem?_toArray, List.getElem?_cons_zero, List.getElem?_cons_succ] <;> rfl) (by kernel_rfl) (by kernel_rfl) (by kernel_rfl) (by exact fun _ _ _ h => h) (by decide) (Waits.one rfl ⟨⟨2, .phase⟩, by simp, rfl, rfl⟩) (by kernel_rfl) (by kernel_rfl) (.inr ⟨PV.out, SVd.out, BL.out⟩) (Or.inl ⟨by rfl, fun w hw => (by obtain ⟨_, x1, _⟩ := hw; simp [execOp, go_sem, Act.eval, x1.cells.1, x1.cells.2.1])⟩) (fun _ => ?_)
        simp only [Act.put, List.setIfInBounds_toArray, List.set_cons_zero, List.set_cons_succ]
        refine wpAnyL_pure (i := 3) (v := .pointer (some ⟨xb, 1, none⟩)) (by simp only [List.getElem?_toArray, List.getElem?_cons_zero, List.getElem?_cons_succ] <;> rfl) (by kernel_rfl) (by kernel_rfl) (by kernel_rfl) (by exact fun _ _ _ h => h) (by decide) (.inr ⟨PV.out, SVd.out, BL.out⟩) (Or.inl ⟨by rfl, fun w _ => (by simp [execOp, go_sem, Act.eval])⟩) (fun _ => ?_)
        simp only [Act.put, List.setIfInBounds_toArray, List.set_cons_zero, List.set_cons_succ]
        refine wpAnyL_load2 (i := 4) (v := .int .i64 xl) (by simp only [List.getElem?_toArray, List.getElem?_cons_zero, List.getElem?_cons_succ] <;> rfl) (by kernel_rfl) (by kernel_rfl) (by kernel_rfl) (by exact fun _ _ _ h => h) (by decide) (Waits.one rfl ⟨⟨4, .phase⟩, by simp, rfl, rfl⟩) (by kernel_rfl) (by kernel_rfl) (.inr ⟨PV.out, SVd.out, BL.out⟩) (Or.inl ⟨by rfl, fun w hw => (by obtain ⟨_, _, x2⟩ := hw; simp [execOp, go_sem, Act.eval, x2])⟩) (fun _ => ?_)
        simp only [Act.put, List.setIfInBounds_toArray, List.set_cons_zero, List.set_cons_succ]
        refine wpAnyL_one (i := 5) (by kernel_rfl) (by simp only [List.getElem?_toArray, List.getElem?_cons_zero, List.getElem?_cons_succ] <;> rfl) (by rfl) ?_
        refine opwp_call (f := 66) (args := #[encS s, .int .i64 xl]) (w' := w5.drew) (by simp [go_sem, Act.eval]) ?_
        refine (Holds_c s xl _ hl1).mono ?_
        rintro e w6 ⟨rfl, hb6⟩
        have hca1_0 := hid ((hb6.cell (cell_lt PV.out)).trans PV.out)
        have hca1_1 := hid (SVd.out.below hb6 SVd.out.lt)
        have hca1_2 := hid ((hb6.cell (cell_lt BL.out)).trans BL.out)
        refine .inl ⟨_, rfl, .inr ⟨hca1_0.out, hca1_1.out, hca1_2.out⟩, ?_⟩
        simp only [Act.put, List.setIfInBounds_toArray, List.set_cons_zero, List.set_cons_succ]
        refine wpAnyL_pure (i := 6) (v := .pointer (some ⟨g, k, none⟩)) (by simp only [List.getElem?_toArray, List.getElem?_cons_zero, List.getElem?_cons_succ] <;> rfl) (by kernel_rfl) (by kernel_rfl) (by kernel_rfl) (by exact fun _ _ _ h => h) (by decide) (.inr ⟨hca1_0.out, hca1_1.out, hca1_2.out⟩) (Or.inl ⟨by rfl, fun w _ => (by simp [execOp, go_sem, Act.eval, zk])⟩) (fun _ => ?_)
        simp only [Act.put, List.setIfInBounds_toArray, List.set_cons_zero, List.set_cons_succ]
        have hb57 := (Below.refl w5.heap.size w5).drew.trans hb6
        have iv7 := HR5.out.below hb57
        obtain ⟨t, ht, y1, y2⟩ := iv7.row.getB k (by rw [rowB_length _ hkl]; exact hkl)
        refine wpAnyL_one (i := 7) (by kernel_rfl) (by simp only [List.getElem?_toArray, List.getElem?_cons_zero, List.getElem?_cons_succ] <;> rfl) (by rfl) ?_
        refine opwp_skip (w' := (w6.setCell ⟨g, k, none⟩ (.bool (litB (has s) xl)))) (by simp [execOp, go_sem, Act.eval, y1, y2]) ⟨.inl (by kernel_rfl), ?_⟩
        simp only [Act.put]
        refine wpAnyL_done (by kernel_rfl) ?_ _
        have h8 := iv7.store k hkl (litB (has s) xl)
        rw [rowB_set _ _ hkl, ← HNX.out (litB (has s) xl) rfl] at h8
        have HN2 := hid h8
        have HB7 := hid ((HB5.out.trans (hb57.mono HB5.out.size)).setCell (p := ⟨g, k, none⟩) HLW.out (.bool (litB (has s) xl)))
        clear h8 iv7 hb57 hb6 ht y1 y2 PV SVd BL
        go_wp2_with fail
        go_roundw
        case rel => exact ⟨k + 1, by omega, by go_num, HN2.out, HB7.out⟩
        case measure => simp [intOf]; omega
      · go_wp2_with fail
        clear n0 n1 n2 d0 d1 d2
        obtain ⟨xb, hxb⟩ : ∃ xb, xb = wr.heap.size := ⟨_, rfl⟩
        generalize wr.alloc (.cells #[.int .i64 3, .int .i64 xl, .slice p2 xi.length c2] 39) = w5 at *
        rw [← hxb] at HBX ⊢
        clear hxb
        have HINR := hid (show ∀ x ∈ xi, 0 ≤ x ∧ x < (L.length : Int) from fun x hx => by have := HIN.out x hx; omega)
        have PV : Hid (w5.drew.cell? ⟨pb, 0, none⟩ = some (.slice (some ⟨g, 0, none⟩) L.length L.length)) := HR5.out.ptr
        have BL : Hid (w5.drew.cell? ⟨xb, 2, none⟩ = some (.slice p2 xi.length c2)) := HBX.out.cells.2.2
        clear hal
        refine Go.Proofs.YtpdbfbjfodckgaaDoor.wp_region_L 9 8 (fun w' => w'.cell? ⟨pb, 0, none⟩ = some (.slice (some ⟨g, 0, none⟩) L.length L.length) ∧ w'.cell? ⟨xb, 2, none⟩ = some (.slice p2 xi.length c2)) (by kernel_rfl) rfl ⟨PV.out, BL.out⟩ (fun _ => ?_)
        refine wpAnyL_load2 (i := 0) (v := .slice (some ⟨g, 0, none⟩) L.length L.length) (by simp only [List.getElem?_toArray, List.getElem?_cons_zero] <;> rfl) (by kernel_rfl) (by kernel_rfl) (by kernel_rfl) (by exact fun _ _ _ h => h) (by decide) (Waits.one rfl ⟨⟨0, .phase⟩, by simp, rfl, rfl⟩) (by kernel_rfl) (by kernel_rfl) (.inr ⟨PV.out, BL.out⟩) (Or.inl ⟨by rfl, fun w hw => (by obtain ⟨x0, _⟩ := hw; simp [execOp, go_sem, Act.eval, x0])⟩) (fun _ => ?_)
        simp only [Act.put, List.setIfInBounds_toArray, List.set_cons_zero, List.set_cons_succ]
        refine wpAnyL_pure (i := 1) (v := .int .i64 (k : Int)) (by simp only [List.getElem?_toArray, List.getElem?_cons_zero, List.getElem?_cons_succ] <;> rfl) (by kernel_rfl) (by kernel_rfl) (by kernel_rfl) (by exact fun _ _ _ h => h) (by decide) (.inr ⟨PV.out, BL.out⟩) (Or.inl ⟨by rfl, fun w _ => (by simp [execOp, go_sem, Act.eval])⟩) (fun _ => ?_)
        simp only [Act.put, List.setIfInBounds_toArray, List.set_cons_zero, List.set_cons_succ]
        refine wpAnyL_pure (i := 2) (v := .pointer (some ⟨xb, 2, none⟩)) (by simp only [List.getElem?_toArray, List.getElem?_cons_zero, List.getElem?_cons_succ] <;> rfl) (by kernel_rfl) (by kernel_rfl) (by kernel_rfl) (by exact fun _ _ _ h => h) (by decide) (.inr ⟨PV.out, BL.out⟩) (Or.inl ⟨by rfl, fun w _ => (by simp [execOp, go_sem, Act.eval])⟩) (fun _ => ?_)
        simp only [Act.put, List.setIfInBounds_toArray, List.set_cons_zero, List.set_cons_succ]
        refine wpAnyL_load2 (i := 3) (v := .slice p2 xi.length c2) (by simp only [List.getElem?_toArray, List.getElem?_cons_zero, List.getElem?_cons_succ] <;> rfl) (by kernel_rfl) (by kernel_rfl) (by kernel_rfl) (by exact fun _ _ _ h => h) (by decide) (Waits.one rfl ⟨⟨3, .phase⟩, by simp, rfl, rfl⟩) (by kernel_rfl) (by kernel_rfl) (.inr ⟨PV.out, BL.out⟩) (Or.inl ⟨by rfl, fun w hw => (by obtain ⟨_, x1⟩ := hw; simp [execOp, go_sem, Act.eval, x1])⟩) (fun _ => ?_)
        simp only [Act.put, List.setIfInBounds_toArray, List.set_cons_zero, List.set_cons_succ]
        refine wpAnyL_pure (i := 4) (v := .func (.func 68) #[] #[.pointer (some ⟨pb, 0, none⟩)]) (by simp only [List.getElem?_toArray, List.getElem?_cons_zero, List.getElem?_cons_succ] <;> rfl) (by kernel_rfl) (by kernel_rfl) (by kernel_rfl) (by exact fun _ _ _ h => h) (by decide) (.inr ⟨PV.out, BL.out⟩) (Or.inl ⟨by rfl, fun w _ => (by simp [execOp, go_sem, Act.eval])⟩) (fun _ => ?_)
        simp only [Act.put, List.setIfInBounds_toArray, List.set_cons_zero, List.set_cons_succ]
        refine wpAnyL_one (i := 5) (by kernel_rfl) (by simp only [List.getElem?_toArray, List.getElem?_cons_zero, List.getElem?_cons_succ] <;> rfl) (by rfl) ?_
        refine opwp_call (f := 67) (args := #[.slice p2 xi.length c2, .func (.func 68) #[] #[.pointer (some ⟨pb, 0, none⟩)]]) (w' := w5.drew) (by simp [go_sem, Act.eval]) ?_
        refine (ContainsFuncE1_c _ xi (rowB (has s) L k false) pb g L.length w5.drew HI5.out (HR5.out.below ((Below.refl _ w5).drew)) (by omega) HINR.out).mono ?_
        rintro e w6 ⟨rfl, hb6⟩
        have hcb1_0 := hid ((hb6.cell (cell_lt PV.out)).trans PV.out)
        have hcb1_1 := hid ((hb6.cell (cell_lt BL.out)).trans BL.out)
        refine .inl ⟨_, rfl, .inr ⟨hcb1_0.out, hcb1_1.out⟩, ?_⟩
        simp only [Act.put, List.setIfInBounds_toArray, List.set_cons_zero, List.set_cons_succ]
        refine wpAnyL_pure (i := 6) (v := .bool (!xi.any (pE1 (rowB (has s) L k false)))) (by simp only [List.getElem?_toArray, List.getElem?_cons_zero, List.getElem?_cons_succ] <;> rfl) (by kernel_rfl) (by kernel_rfl) (by kernel_rfl) (by exact fun _ _ _ h => h) (by decide) (.inr ⟨hcb1_0.out, hcb1_1.out⟩) (Or.inl ⟨by rfl, fun w _ => (by simp [execOp, go_sem, Act.eval])⟩) (fun _ => ?_)
        simp only [Act.put, List.setIfInBounds_toArray, List.set_cons_zero, List.set_cons_succ]
        refine wpAnyL_pure (i := 7) (v := .pointer (some ⟨g, k, none⟩)) (by simp only [List.getElem?_toArray, List.getElem?_cons_zero, List.getElem?_cons_succ] <;> rfl) (by kernel_rfl) (by kernel_rfl) (by kernel_rfl) (by exact fun _ _ _ h => h) (by decide) (.inr ⟨hcb1_0.out, hcb1_1.out⟩) (Or.inl ⟨by rfl, fun w _ => (by simp [execOp, go_sem, Act.eval, zk])⟩) (fun _ => ?_)
        simp only [Act.put, List.setIfInBounds_toArray, List.set_cons_zero, List.set_cons_succ]
        have hb57 := (Below.refl w5.heap.size w5).drew.trans hb6
        have iv7 := HR5.out.below hb57
        obtain ⟨t, ht, y1, y2⟩ := iv7.row.getB k (by rw [rowB_length _ hkl]; exact hkl)
        refine wpAnyL_one (i := 8) (by kernel_rfl) (by simp only [List.getElem?_toArray, List.getElem?_cons_zero, List.getElem?_cons_succ] <;> rfl) (by rfl) ?_
        refine opwp_skip (w' := (w6.setCell ⟨g, k, none⟩ (.bool (!xi.any (pE1 (rowB (has s) L k false)))))) (by simp [execOp, go_sem, Act.eval, y1, y2]) ⟨.inl (by kernel_rfl), ?_⟩
        simp only [Act.put]
        refine wpAnyL_done (by kernel_rfl) ?_ _
        have h8 := iv7.store k hkl (!xi.any (pE1 (rowB (has s) L k false)))
        rw [rowB_set _ _ hkl, all_pE _ (bsOf (has s) (L.take k)) xi (fun x hx => rowB_low _ hkl x (HIN.out x hx).2), ← HNX.out (xi.all (bOf (bsOf (has s) (L.take k)))) rfl] at h8
        have HN2 := hid h8
        have HB7 := hid ((HB5.out.trans (hb57.mono HB5.out.size)).setCell (p := ⟨g, k, none⟩) HLW.out (.bool (!xi.any (pE1 (rowB (has s) L k false)))))
        rw [all_pE _ (bsOf (has s) (L.take k)) xi (fun x hx => rowB_low _ hkl x (HIN.out x hx).2)] at HB7 ⊢
        clear h8 iv7 hb57 hb6 ht y1 y2 PV BL
        go_wp2_with fail
        go_roundw
        case rel => exact ⟨k + 1, by omega, by go_num, HN2.out, HB7.out⟩
        case measure => simp [intOf]; omega
      · go_wp2_with fail
        clear n0 n1 n2 d0 d1 d2
        obtain ⟨xb, hxb⟩ : ∃ xb, xb = wr.heap.size := ⟨_, rfl⟩
        generalize wr.alloc (.cells #[.int .i64 4, .int .i64 xl, .slice p2 xi.length c2] 39) = w5 at *
        rw [← hxb] at HBX ⊢
        clear hxb
        have HINR := hid (show ∀ x ∈ xi, 0 ≤ x ∧ x < (L.length : Int) from fun x hx => by have := HIN.out x hx; omega)
        have PV : Hid (w5.drew.cell? ⟨pb, 0, none⟩ = some (.slice (some ⟨g, 0, none⟩) L.length L.length)) := HR5.out.ptr
        have BL : Hid (w5.drew.cell? ⟨xb, 2, none⟩ = some (.slice p2 xi.length c2)) := HBX.out.cells.2.2
        clear hal
        refine Go.Proofs.YtpdbfbjfodckgaaDoor.wp_region_L 8 7 (fun w' => w'.cell? ⟨pb, 0, none⟩ = some (.slice (some ⟨g, 0, none⟩) L.length L.length) ∧ w'.cell? ⟨xb, 2, none⟩ = some (.slice p2 xi.length c2)) (by kernel_rfl) rfl ⟨PV.out, BL.out⟩ (fun _ => ?_)
        refine wpAnyL_load2 (i := 0) (v := .slice (some ⟨g, 0, none⟩) L.length L.length) (by simp only [List.getElem?_toArray, List.getElem?_cons_zero] <;> rfl) (by kernel_rfl) (by kernel_rfl) (by kernel_rfl) (by exact fun _ _ _ h => h) (by decide) (Waits.one rfl ⟨⟨0, .phase⟩, by simp, rfl, rfl⟩) (by kernel_rfl) (by kernel_rfl) (.inr ⟨PV.out, BL.out⟩) (Or.inl ⟨by rfl, fun w hw => (by obtain ⟨x0, _⟩ := hw; simp [execOp, go_sem, Act.eval, x0])⟩) (fun _ => ?_)
        simp only [Act.put, List.setIfInBounds_toArray, List.set_cons_zero, List.set_cons_succ]
        refine wpAnyL_pure (i := 1) (v := .int .i64 (k : Int)) (by simp only [List.getElem?_toArray, List.getElem?_cons_zero, List.getElem?_cons_succ] <;> rfl) (by kernel_rfl) (by kernel_rfl) (by kernel_rfl) (by exact fun _ _ _ h => h) (by decide) (.inr ⟨PV.out, BL.out⟩) (Or.inl ⟨by rfl, fun w _ => (by simp [execOp, go_sem, Act.eval])⟩) (fun _ => ?_)
        simp only [Act.put, List.setIfInBounds_toArray, List.set_cons_zero, List.set_cons_succ]
        refine wpAnyL_pure (i := 2) (v := .pointer (some ⟨xb, 2, none⟩)) (by simp only [List.getElem?_toArray, List.getElem?_cons_zero, List.getElem?_cons_succ] <;> rfl) (by kernel_rfl) (by kernel_rfl) (by kernel_rfl) (by exact fun _ _ _ h => h) (by decide) (.inr ⟨PV.out, BL.out⟩) (Or.inl ⟨by rfl, fun w _ => (by simp [execOp, go_sem, Act.eval])⟩) (fun _ => ?_)
        simp only [Act.put, List.setIfInBounds_toArray, List.set_cons_zero, List.set_cons_succ]
        refine wpAnyL_load2 (i := 3) (v := .slice p2 xi.length c2) (by simp only [List.getElem?_toArray, List.getElem?_cons_zero, List.getElem?_cons_succ] <;> rfl) (by kernel_rfl) (by kernel_rfl) (by kernel_rfl) (by exact fun _ _ _ h => h) (by decide) (Waits.one rfl ⟨⟨3, .phase⟩, by simp, rfl, rfl⟩) (by kernel_rfl) (by kernel_rfl) (.inr ⟨PV.out, BL.out⟩) (Or.inl ⟨by rfl, fun w hw => (by obtain ⟨_, x1⟩ := hw; simp [execOp, go_sem, Act.eval, x1])⟩) (fun _ => ?_)
        simp only [Act.put, List.setIfInBounds_toArray, List.set_cons_zero, List.set_cons_succ]
        refine wpAnyL_pure (i := 4) (v := .func (.func 69) #[] #[.pointer (some ⟨pb, 0, none⟩)]) (by simp only [List.getElem?_toArray, List.getElem?_cons_zero, List.getElem?_cons_succ] <;> rfl) (by kernel_rfl) (by kernel_rfl) (by kernel_rfl) (by exact fun _ _ _ h => h) (by decide) (.inr ⟨PV.out, BL.out⟩) (Or.inl ⟨by rfl, fun w _ => (by simp [execOp, go_sem, Act.eval])⟩) (fun _ => ?_)
        simp only [Act.put, List.setIfInBounds_toArray, List.set_cons_zero, List.set_cons_succ]
        refine wpAnyL_one (i := 5) (by kernel_rfl) (by simp only [List.getElem?_toArray, List.getElem?_cons_zero, List.getElem?_cons_succ] <;> rfl) (by rfl) ?_
        refine opwp_call (f := 67) (args := #[.slice p2 xi.length c2, .func (.func 69) #[] #[.pointer (some ⟨pb, 0, none⟩)]]) (w' := w5.drew) (by simp [go_sem, Act.eval]) ?_
        refine (ContainsFuncE2_c _ xi (rowB (has s) L k false) pb g L.length w5.drew HI5.out (HR5.out.below ((Below.refl _ w5).drew)) (by omega) HINR.out).mono ?_
        rintro e w6 ⟨rfl, hb6⟩
        have hcc1_0 := hid ((hb6.cell (cell_lt PV.out)).trans PV.out)
        have hcc1_1 := hid ((hb6.cell (cell_lt BL.out)).trans BL.out)
        refine .inl ⟨_, rfl, .inr ⟨hcc1_0.out, hcc1_1.out⟩, ?_⟩
        simp only [Act.put, List.setIfInBounds_toArray, List.set_cons_zero, List.set_cons_succ]
        refine wpAnyL_pure (i := 6) (v := .pointer (some ⟨g, k, none⟩)) (by simp only [List.getElem?_toArray, List.getElem?_cons_zero, List.getElem?_cons_succ] <;> rfl) (by kernel_rfl) (by kernel_rfl) (by kernel_rfl) (by exact fun _ _ _ h => h) (by decide) (.inr ⟨hcc1_0.out, hcc1_1.out⟩) (Or.inl ⟨by rfl, fun w _ => (by simp [execOp, go_sem, Act.eval, zk])⟩) (fun _ => ?_)
        simp only [Act.put, List.setIfInBounds_toArray, List.set_cons_zero, List.set_cons_succ]
        have hb57 := (Below.refl w5.heap.size w5).drew.trans hb6
        have iv7 := HR5.out.below hb57
        obtain ⟨t, ht, y1, y2⟩ := iv7.row.getB k (by rw [rowB_length _ hkl]; exact hkl)
        refine wpAnyL_one (i := 7) (by kernel_rfl) (by simp only [List.getElem?_toArray, List.getElem?_cons_zero, List.getElem?_cons_succ] <;> rfl) (by rfl) ?_
        refine opwp_skip (w' := (w6.setCell ⟨g, k, none⟩ (.bool (xi.any (pE2 (rowB (has s) L k false)))))) (by simp [execOp, go_sem, Act.eval, y1, y2]) ⟨.inl (by kernel_rfl), ?_⟩
        simp only [Act.put]
        refine wpAnyL_done (by kernel_rfl) ?_ _
        have h8 := iv7.store k hkl (xi.any (pE2 (rowB (has s) L k false)))
        rw [rowB_set _ _ hkl, any_pE _ (bsOf (has s) (L.take k)) xi (fun x hx => rowB_low _ hkl x (HIN.out x hx).2), ← HNX.out (xi.any (bOf (bsOf (has s) (L.take k)))) rfl] at h8
        have HN2 := hid h8
        have HB7 := hid ((HB5.out.trans (hb57.mono HB5.out.size)).setCell (p := ⟨g, k, none⟩) HLW.out (.bool (xi.any (pE2 (rowB (has s) L k false)))))
        rw [any_pE _ (bsOf (has s) (L.take k)) xi (fun x hx => rowB_low _ hkl x (HIN.out x hx).2)] at HB7 ⊢
        clear h8 iv7 hb57 hb6 ht y1 y2 PV BL
        go_wp2_with fail
        go_roundw
        case rel => exact ⟨k + 1, by omega, by go_num, HN2.out, HB7.out⟩
        case measure => simp [intOf]; omega
    · obtain rfl : k = L.length := by omega
      have hr := hiv.out
      rw [Nat.sub_self, List.take_length, List.replicate_zero, List.append_nil] at hr
      have HBQ := hid (HB2.out.trans (hbr.out.mono HB2.out.size))
      obtain ⟨q, hq⟩ : ∃ q : Nat, (L.length : Int) - 1 = (q : Int) := ⟨L.length - 1, by omega⟩
      obtain ⟨t, ht, y1, _⟩ := hr.row.getB q (by rw [bsOf_length]; omega)
      have y0 := hr.ptr
      have zq : (0 : Int) ≤ (q : Int) ∧ (q : Int) < (L.length : Int) := by omega
      have HT := hid (show bOf (bsOf (has s) L) ((L.length : Int) - 1) = t from by rw [hq]; exact ht)
      clear ht hr hiv hbr
      go_wp2_with fail
      go_ret
      exact ⟨by rw [HT.out]; rfl, HBQ.out⟩
end Go.Proofs.YtpdbfbjfodckgaaDoor
