/- Walks of the references censusref05.Holds, censusref21.Values, Occur and Deterministic. -/
import Derived.Test.YtpdbfbjfodckgaaDoorHRefS
import Derived.Test.YtpdbfbjfodckgaaDoorHOccP
import Derived.Test.YtpdbfbjfodckgaaDoorHDet
namespace Go.Proofs.YtpdbfbjfodckgaaDoor
open Go.RowKit

set_option maxHeartbeats 400000 in
theorem holds5_c (s : VS) (l : Int) (w : World) (h1 : 1 ≤ litVar l) :
    Calls Tryd.prog 77 #[encS s, .int .i64 l] w fun e w' => e = .returned (.bool (litB (has s) l)) ∧ Below w.heap.size w w' := by
  have hB : Below w.heap.size w (w.alloc (.cells #[.int .u64 ((lw s).toNat : Int), .int .u64 ((hw s).toNat : Int)] 42)) := (Below.refl _ w).alloc (Nat.le_refl _) _
  have HV := hid (SetVar.new w s 42)
  have HB := hid hB
  clear hB
  obtain ⟨s0, s1, _, _⟩ := HV.out.cells
  obtain ⟨hm, m1, m2⟩ := max_abs h1
  by_cases hl : l < 0
  · have hwn := wrap_neg m1 m2
    have HL := hid (show litB (has s) l = !has s (-l) from by unfold litB; rw [if_pos hl, ← hm]; congr 2; omega)
    clear hm
    go_enter Tryd.func77, Tryd.ntmps77
    go_wp2_with fail
    refine (has5_c s (-l) _).mono ?_
    rintro e w2 ⟨rfl, hb2⟩
    clear hwn
    go_wp2_with fail
    go_ret
    exact ⟨by rw [HL.out]; rfl, HB.out.trans (hb2.mono HB.out.size)⟩
  · have HL := hid (show litB (has s) l = has s l from by unfold litB; rw [if_neg hl, ← hm]; congr 1; omega)
    clear hm
    go_enter Tryd.func77, Tryd.ntmps77
    go_wp2_with fail
    refine (has5_c s l _).mono ?_
    rintro e w2 ⟨rfl, hb2⟩
    go_wp2_with fail
    go_ret
    exact ⟨by rw [HL.out]; rfl, HB.out.trans (hb2.mono HB.out.size)⟩
/-- The block g holds the booleans M. -/
def BRow (w : World) (g : Nat) (M : List Bool) : Prop := ∃ cur T, w.heap[g]? = some (.cells cur T (0, 0)) ∧ M.length ≤ cur.size ∧ ∀ i (h : i < M.length), cur[i]? = some (.bool M[i])
theorem BRow.lt {w : World} {g : Nat} {M : List Bool} (h : BRow w g M) : g < w.heap.size := by
  obtain ⟨cur, T, h, _⟩ := h; exact (Array.getElem?_eq_some_iff.1 h).1
theorem BRow.at {w : World} {g : Nat} {M : List Bool} (h : BRow w g M) (i : Nat) (hi : i < M.length) : w.cell? ⟨g, i, none⟩ = some (.bool M[i]) ∧ w.frozen? ⟨g, i, none⟩ = false := by
  obtain ⟨cur, T, h1, h2, h3⟩ := h
  simp [World.cell?, World.frozen?, h1, h3 i hi]
theorem BRow.getB {w : World} {g : Nat} {M : List Bool} (h : BRow w g M) (i : Nat) (hi : i < M.length) : ∃ t, bOf M (i : Int) = t ∧ w.cell? ⟨g, i, none⟩ = some (.bool t) ∧ w.frozen? ⟨g, i, none⟩ = false :=
  ⟨M[i], bOf_nat M i hi, (h.at i hi).1, (h.at i hi).2⟩
theorem BRow.same {w w' : World} {g : Nat} {M : List Bool} (h : BRow w g M) (e : w'.heap[g]? = w.heap[g]?) : BRow w' g M := by
  obtain ⟨cur, T, h1, h2⟩ := h; exact ⟨cur, T, e.trans h1, h2⟩
theorem BRow.below {w w' : World} {g B : Nat} {M : List Bool} (h : BRow w g M) (hb : Below B w w') (hB : g < B) : BRow w' g M := h.same (hb.block g hB)
theorem BRow.alloc {w : World} {g : Nat} {M : List Bool} (h : BRow w g M) (o : Obj) : BRow (w.alloc o) g M := h.same (Below.heap_alloc _ _ _ h.lt)
theorem BRow.store {w : World} {g : Nat} {M : List Bool} (h : BRow w g M) (i : Nat) (_hi : i < M.length) (x : Bool) : BRow (w.setCell ⟨g, i, none⟩ (.bool x)) g (M.set i x) := by
  obtain ⟨cur, T, h1, h2, h3⟩ := h
  refine ⟨cur.setIfInBounds i (.bool x), T, by simp [World.setCell, Array.getElem?_modify, h1], by simpa using h2, fun k hk => ?_⟩
  rw [List.length_set] at hk
  rw [Array.getElem?_setIfInBounds, List.getElem_set]
  by_cases e : i = k
  · subst e
    rw [if_pos rfl, if_pos (by omega), if_pos rfl]
  · rw [if_neg e, if_neg e, h3 k hk]
theorem info_bool : (Tryd.prog.info? 4).map (fun i => (i.zero, i.size, i.bytes)) = some (some (.bool false), 1, 1) := by kernel_rfl
theorem make_bools (w : World) (n : Nat) (hn : n ≤ 65536) (x y : Int) (hx : x = (n : Int)) (hy : y = (n : Int)) :
    (Instr.makeSlice 79 (.int .i64 x) (.int .i64 y)).run Tryd.prog w = .ok (.slice (some ⟨w.heap.size, 0, none⟩) n n) (w.alloc (.cells (madeCells (Value.bool false).cells n) 4)) := by
  subst hx; subst hy
  obtain ⟨i0, hi, hz0, hz1, hz2⟩ := info_parts info_bool
  have := run_makeSlice (P := Tryd.prog) w 79 4 i0 (.bool false) Tryd.underlying79 hi hz0 .i64 .i64 (n : Int) (n : Int) (by omega) (Int.le_refl _) (by rw [hz1, Int.toNat_natCast]; omega) (by rw [hz2]; omega) (by omega)
  rw [hz1, Int.toNat_natCast, Nat.mul_one] at this
  exact this
theorem BRow.made (w : World) (n : Nat) : BRow (w.alloc (.cells (madeCells (Value.bool false).cells n) 4)) w.heap.size (List.replicate n false) :=
  ⟨_, _, heap_alloc_new w _, by simp [size_madeCells], fun i hi => by
    have h2 : i < n := by simpa using hi
    rw [List.getElem_replicate]
    simp [madeCells, h2, Value.cells, Nat.mod_one]⟩
/-- What stands in the row while the values are made: k nodes are through, the next one's value is s. -/
def rowB (A : Int → Bool) (L : List NodeT) (k : Nat) (s : Bool) : List Bool := bsOf A (L.take k) ++ s :: List.replicate (L.length - k - 1) false
section
variable {A : Int → Bool}
theorem rowB_length {L : List NodeT} {k : Nat} (s : Bool) (h : k < L.length) : (rowB A L k s).length = L.length := by
  unfold rowB
  rw [List.length_append, List.length_cons, List.length_replicate, show (bsOf A (L.take k)).length = k from by rw [bsOf_length, List.length_take]; omega]
  omega
theorem rowB_set {L : List NodeT} {k : Nat} (s t : Bool) (h : k < L.length) : (rowB A L k s).set k t = rowB A L k t := by
  unfold rowB
  have hl : (bsOf A (L.take k)).length = k := by rw [bsOf_length, List.length_take]; omega
  rw [List.set_append_right _ _ (by omega), hl, Nat.sub_self]; rfl
theorem rowB_at {L : List NodeT} {k : Nat} (s : Bool) (h : k < L.length) : bOf (rowB A L k s) (k : Int) = s := by
  rw [bOf_nat _ k (by rw [rowB_length s h]; exact h)]
  unfold rowB
  have hl : (bsOf A (L.take k)).length = k := by rw [bsOf_length, List.length_take]; omega
  rw [List.getElem_append_right (by omega)]
  simp [hl]
theorem rowB_low {L : List NodeT} {k : Nat} (s : Bool) (h : k < L.length) (i : Int) (hi : i < (k : Int)) : bOf (rowB A L k s) i = bOf (bsOf A (L.take k)) i := by
  have hl : (bsOf A (L.take k)).length = k := by rw [bsOf_length, List.length_take]; omega
  unfold bOf rowB
  by_cases h0 : 0 ≤ i
  · rw [if_pos h0, if_pos h0, List.getD_eq_getElem?_getD, List.getD_eq_getElem?_getD, List.getElem?_append_left (by omega)]
  · rw [if_neg h0, if_neg h0]
theorem rowB_next {L : List NodeT} {k : Nat} (h : k < L.length) {s : Bool} (hs : s = bNode A (bsOf A (L.take k)) L[k]) : bsOf A (L.take (k + 1)) ++ List.replicate (L.length - (k + 1)) false = rowB A L k s := by
  unfold rowB
  have : bsOf A (L.take (k + 1)) = bsOf A (L.take k) ++ [s] := by rw [hs]; exact scanF_take_succ (bNode A) L k h
  rw [this, List.append_assoc]
  congr 2
theorem rowB_start {L : List NodeT} {k : Nat} (h : k < L.length) : bsOf A (L.take k) ++ List.replicate (L.length - k) false = rowB A L k false := by
  unfold rowB
  congr 1
  obtain ⟨m, hm⟩ : ∃ m, L.length - k = m + 1 := ⟨L.length - k - 1, by omega⟩
  rw [hm, show m + 1 - 1 = m from rfl]; rfl
theorem all_snoc (M : List Bool) (l : List Int) (k : Nat) (h : k < l.length) : (l.take (k + 1)).all (bOf M) = ((l.take k).all (bOf M) && bOf M l[k]) := by
  rw [List.take_succ_eq_append_getElem h, List.all_append]; simp
theorem any_snoc (M : List Bool) (l : List Int) (k : Nat) (h : k < l.length) : (l.take (k + 1)).any (bOf M) = ((l.take k).any (bOf M) || bOf M l[k]) := by
  rw [List.take_succ_eq_append_getElem h, List.any_append]; simp
end
/-- What Values returns. -/
def ValsPost (s : VS) (L : List NodeT) (w : World) (e : Ending) (w' : World) : Prop := ∃ g, e = .returned (.slice (some ⟨g, 0, none⟩) L.length L.length) ∧ w.heap.size ≤ g ∧ BRow w' g (bsOf (has s) L) ∧ Below w.heap.size w w'
theorem valid_kinds {n : Int} {L : List NodeT} (hf : formedTo n L L.length) {k : Nat} (hk : k < L.length) : (0 ≤ L[k].kind ∧ L[k].kind ≤ 4) ∧ (L[k].kind < 3 → L[k].ins = []) ∧ (L[k].kind = 2 → 1 ≤ litVar L[k].lit) := by
  have hfk := hf k hk hk
  refine ⟨⟨?_, ?_⟩, fun h => ?_, fun h => (litVar_yes hfk h).1⟩
  · apply Classical.byContradiction; intro h
    rw [formed_low (.inl (by omega))] at hfk; cases hfk
  · apply Classical.byContradiction; intro h
    rw [formed_low (.inr (by omega))] at hfk; cases hfk
  · apply Classical.byContradiction; intro e
    rw [formed_ins h e] at hfk; cases hfk
set_option maxRecDepth 100000 in
set_option maxHeartbeats 8000000 in
theorem values21_c (n : Int) (L : List NodeT) (v : Value) (s : VS) (w : World) (hN : NodesAt w v L) (hv : validNet ⟨n, L⟩ = true) :
    Calls Tryd.prog 60 #[.agg #[.int .i64 n, v], encS s] w (ValsPost s L w) := by
  obtain ⟨⟨r1, r2, r3, r4⟩, hft⟩ := (validNet_iff _).1 hv
  simp only at r1 r2 r3 r4 hft
  obtain ⟨p, c, rfl, h⟩ := hN
  obtain ⟨b, off, rfl, hN⟩ := h.resolve_left (by intro e; rw [e] at r3; simp at r3)
  have HN := hid hN
  have HFT := hid hft
  have hb1 : Below w.heap.size w (w.alloc (.cells #[.int .i64 n, .slice (some ⟨b, off, none⟩) L.length c] 24)) := (Below.refl _ w).alloc (Nat.le_refl _) _
  have hb12 : Below (w.alloc (.cells #[.int .i64 n, .slice (some ⟨b, off, none⟩) L.length c] 24)).heap.size (w.alloc (.cells #[.int .i64 n, .slice (some ⟨b, off, none⟩) L.length c] 24)) ((w.alloc (.cells #[.int .i64 n, .slice (some ⟨b, off, none⟩) L.length c] 24)).alloc (.cells #[.int .u64 ((lw s).toNat : Int), .int .u64 ((hw s).toNat : Int)] 42)) := (Below.refl _ _).alloc (Nat.le_refl _) _
  have hx := (NetVar.new w n (.slice (some ⟨b, off, none⟩) L.length c) 24).below hb12
  have hs := SetVar.new (w.alloc (.cells #[.int .i64 n, .slice (some ⟨b, off, none⟩) L.length c] 24)) s 42
  have hsz : ((w.alloc (.cells #[.int .i64 n, .slice (some ⟨b, off, none⟩) L.length c] 24)).alloc (.cells #[.int .u64 ((lw s).toNat : Int), .int .u64 ((hw s).toNat : Int)] 42)).heap.size = w.heap.size + 1 + 1 := by rw [World.size_alloc, World.size_alloc]
  rw [World.size_alloc] at hs
  have hmk := fun w' => make_bools w' L.length (by omega) (L.length : Int) (L.length : Int) rfl rfl
  have hrow := BRow.made ((w.alloc (.cells #[.int .i64 n, .slice (some ⟨b, off, none⟩) L.length c] 24)).alloc (.cells #[.int .u64 ((lw s).toNat : Int), .int .u64 ((hw s).toNat : Int)] 42)) L.length
  rw [hsz] at hrow
  have hal : Below ((w.alloc (.cells #[.int .i64 n, .slice (some ⟨b, off, none⟩) L.length c] 24)).alloc (.cells #[.int .u64 ((lw s).toNat : Int), .int .u64 ((hw s).toNat : Int)] 42)).heap.size ((w.alloc (.cells #[.int .i64 n, .slice (some ⟨b, off, none⟩) L.length c] 24)).alloc (.cells #[.int .u64 ((lw s).toNat : Int), .int .u64 ((hw s).toNat : Int)] 42)) (((w.alloc (.cells #[.int .i64 n, .slice (some ⟨b, off, none⟩) L.length c] 24)).alloc (.cells #[.int .u64 ((lw s).toNat : Int), .int .u64 ((hw s).toNat : Int)] 42)).alloc (.cells (madeCells #[.bool false] L.length) 4)) := (Below.refl _ _).alloc (Nat.le_refl _) _
  have HSZ := hid hsz
  have HX := hid hx
  have HS := hid hs
  have HAL := hid hal
  have HR0 := hid (show BRow (((w.alloc (.cells #[.int .i64 n, .slice (some ⟨b, off, none⟩) L.length c] 24)).alloc (.cells #[.int .u64 ((lw s).toNat : Int), .int .u64 ((hw s).toNat : Int)] 42)).alloc (.cells (madeCells #[.bool false] L.length) 4)) (w.heap.size + 1 + 1) (bsOf (has s) (L.take 0) ++ List.replicate (L.length - 0) false) from hrow)
  have HB2 := hid (hb1.trans (hb12.mono hb1.size))
  obtain ⟨x0, x1⟩ := hx
  clear hN h hv hft hb1 hb12 hrow hal hs hsz
  go_enter Tryd.func60, Tryd.ntmps60
  go_wp2_with fail
  clear x0 x1 hmk
  generalize (w.alloc (.cells #[.int .i64 n, .slice (some ⟨b, off, none⟩) L.length c] 24)).alloc (.cells #[.int .u64 ((lw s).toNat : Int), .int .u64 ((hw s).toNat : Int)] 42) = w2 at *
  generalize w2.alloc (.cells (madeCells #[.bool false] L.length) 4) = w3 at *
  obtain ⟨g, hg⟩ : ∃ g, g = w.heap.size + 1 + 1 := ⟨_, rfl⟩
  rw [← hg] at HR0 HSZ ⊢
  have HG := hid hg
  clear hg
  go_loopw [6] (fun z wr => ∃ (k : Nat), k ≤ L.length ∧ z = .int .i64 k ∧ Hid (BRow wr g (bsOf (has s) (L.take k) ++ List.replicate (L.length - k) false)) ∧ Hid (Below w2.heap.size w2 wr)) (fun z _ => L.length - (intOf z).toNat)
  case atStart => exact ⟨0, Nat.zero_le _, rfl, HR0.out, HAL.out⟩
  case round =>
    clear HR0 HAL
    obtain ⟨k, hk, rfl, hrow, hbr⟩ := hrel
    obtain ⟨x0, x1⟩ := HX.out.below hbr.out
    by_cases hkl : k < L.length
    · obtain ⟨u, hu⟩ := HN.out k hkl
      have hu2 := hu.below HB2.out
      have hur := hu2.below hbr.out
      have d0 := hur.kind
      have d1 := hur.lit
      have d2 := hur.ins
      have HU := hid hu2
      have HIN := hid (ins_lt HFT.out hkl)
      have HKD := hid (valid_kinds HFT.out hkl)
      have hle := hur.len
      have HRV := hid (show BRow wr g (rowB (has s) L k false) from by rw [← rowB_start hkl]; exact hrow.out)
      have HNX := hid (fun s' hs' => rowB_next (A := has s) hkl (s := s') hs')
      have zk : (0 : Int) ≤ (k : Int) ∧ (k : Int) < (L.length : Int) := by omega
      have hlg := hrow.out.lt
      have HLW := hid (show w2.heap.size ≤ g from by rw [HSZ.out]; exact Nat.le_refl _)
      clear hu hu2 hur hrow
      generalize hxx : L[k] = x at *
      obtain ⟨xk, xl, xi⟩ := x
      obtain ⟨p2, c2, e2, hdrop⟩ := HU.out.ints
      subst e2
      clear hdrop hxx
      simp only at HIN HKD hle HNX
      have HBR := hid hbr.out
      have hal : Below wr.heap.size wr (wr.alloc (.cells #[.int .i64 xk, .int .i64 xl, .slice p2 xi.length c2] 39)) := (Below.refl _ wr).alloc (Nat.le_refl _) _
      have hr5 := HRV.out.below hal hlg
      obtain ⟨t, ht, y0, y1⟩ := HRV.out.getB k (by rw [rowB_length _ hkl]; exact hkl)
      have hszk : ∀ v, (wr.setCell ⟨g, k, none⟩ v).heap.size = wr.heap.size := fun v => by simp [World.setCell]
      have HSZK := hid hszk
      clear hszk
      have HB5 := hid (HBR.out.trans (hal.mono HBR.out.size))
      have HBX := hid (Box3.new wr 39 (.int .i64 xk) (.int .i64 xl) (.slice p2 xi.length c2))
      have HR5 := hid hr5
      clear hbr hal hr5 ht
      obtain ⟨n0, n1, n2⟩ := HBX.out.cells
      rcases (show xk = 0 ∨ xk = 1 ∨ xk = 2 ∨ xk = 3 ∨ xk = 4 by have := HKD.out.1; omega) with rfl | rfl | rfl | rfl | rfl
      · obtain rfl : xi = [] := HKD.out.2.1 (by decide)
        have HN2 := hid (show BRow (wr.alloc (.cells #[.int .i64 0, .int .i64 xl, .slice p2 ([] : List Int).length c2] 39)) g (bsOf (has s) (L.take (k + 1)) ++ List.replicate (L.length - (k + 1)) false) from by rw [HNX.out false rfl]; exact HR5.out)
        go_wp2_with fail
        go_rounds 1
        go_wp2_with fail
        go_roundw
        case rel => exact ⟨k + 1, by omega, by go_num, HN2.out, HB5.out⟩
        case measure => simp [intOf]; omega
      · obtain rfl : xi = [] := HKD.out.2.1 (by decide)
        have h7 := HRV.out.store k (by rw [rowB_length _ hkl]; exact hkl) true
        rw [rowB_set _ _ hkl, ← HNX.out true rfl] at h7
        have HN2 := hid (h7.alloc (.cells #[.int .i64 1, .int .i64 xl, .slice p2 ([] : List Int).length c2] 39))
        have HB7 := hid ((HBR.out.setCell (p := ⟨g, k, none⟩) HLW.out (.bool true)).alloc (by rw [HSZK.out]; exact HBR.out.size) (.cells #[.int .i64 1, .int .i64 xl, .slice p2 ([] : List Int).length c2] 39))
        clear h7
        go_wp2_with fail
        go_rounds 1
        go_wp2_with fail
        go_roundw
        case rel => exact ⟨k + 1, by omega, by go_num, HN2.out, HB7.out⟩
        case measure => simp [intOf]; omega
      · obtain rfl : xi = [] := HKD.out.2.1 (by decide)
        have hl1 := HKD.out.2.2 rfl
        have hs5 := HS.out.below HBR.out (by have := HS.out.lt; omega)
        obtain ⟨s0, s1, _, _⟩ := hs5.cells
        have lsw := hs5.lt
        clear hs5
        go_wp2_with fail
        refine (holds5_c s xl _ hl1).mono ?_
        rintro e w6 ⟨rfl, hb6⟩
        have hr6 := HR5.out.below hb6 (by have := HR5.out.lt; omega)
        have hbx6 := HBX.out.below hb6 HBX.out.lt
        obtain ⟨m0, m1, m2⟩ := hbx6.cells
        have hx6 := HX.out.below (HB5.out.trans (hb6.mono HB5.out.size))
        have hgl := hr6.lt
        obtain ⟨t', ht', q0, q1⟩ := hr6.getB k (by rw [rowB_length _ hkl]; exact hkl)
        have h7 := hr6.store k (by rw [rowB_length _ hkl]; exact hkl) (litB (has s) xl)
        rw [rowB_set _ _ hkl, ← HNX.out (litB (has s) xl) rfl] at h7
        have HN2 := hid h7
        have HB7 := hid ((HB5.out.trans (hb6.mono HB5.out.size)).setCell (p := ⟨g, k, none⟩) HLW.out (.bool (litB (has s) xl)))
        clear h7 hr6 hbx6 hx6 hb6 ht' s0 s1 n0 n1 n2 y0 y1
        go_wp2_with fail
        go_rounds 1
        go_wp2_with fail
        go_roundw
        case rel => exact ⟨k + 1, by omega, by go_num, HN2.out, HB7.out⟩
        case measure => simp [intOf]; omega
      · have h7 := HRV.out.store k (by rw [rowB_length _ hkl]; exact hkl) true
        rw [rowB_set _ _ hkl] at h7
        have HR7 := hid (show BRow ((wr.setCell ⟨g, k, none⟩ (.bool true)).alloc (.cells #[.int .i64 3, .int .i64 xl, .slice p2 xi.length c2] 39)) g (rowB (has s) L k ((xi.take 0).all (bOf (bsOf (has s) (L.take k))))) from h7.alloc _)
        have HB7 := hid ((HBR.out.setCell (p := ⟨g, k, none⟩) HLW.out (.bool true)).alloc (by rw [HSZK.out]; exact HBR.out.size) (.cells #[.int .i64 3, .int .i64 xl, .slice p2 xi.length c2] 39))
        have hx7 := Box3.new (wr.setCell ⟨g, k, none⟩ (.bool true)) 39 (.int .i64 3) (.int .i64 xl) (.slice p2 xi.length c2)
        rw [HSZK.out] at hx7
        have HX7 := hid hx7
        clear h7 hx7
        go_wp2_with fail
        clear n0 n1 n2 y0 y1 d0 d1 d2 x0 x1
        generalize (wr.setCell ⟨g, k, none⟩ (.bool true)).alloc (.cells #[.int .i64 3, .int .i64 xl, .slice p2 xi.length c2] 39) = w7 at *
        obtain ⟨xb, hxb⟩ : ∃ xb, xb = wr.heap.size := ⟨_, rfl⟩
        rw [← hxb] at HX7 ⊢
        have HXB := hid (show xb ≠ g by omega)
        have HLX := hid (show w2.heap.size ≤ xb from by rw [hxb]; exact HBR.out.size)
        clear hxb HBX HR5 HB5
        go_loopw [8] (fun z wq => ∃ (j : Nat), j ≤ xi.length ∧ z = .int .i64 j ∧ Hid (BRow wq g (rowB (has s) L k ((xi.take j).all (bOf (bsOf (has s) (L.take k)))))) ∧ Hid (Box3 wq xb 39 (.int .i64 3) (.int .i64 xl) (.slice p2 xi.length c2)) ∧ Hid (Below w2.heap.size w2 wq)) (fun z _ => xi.length - (intOf z).toNat)
        case atStart => exact ⟨0, Nat.zero_le _, rfl, HR7.out, HX7.out, HB7.out⟩
        case round =>
          clear HR7 HX7 HB7
          obtain ⟨j, hj, rfl, hrow, hbx, hbr⟩ := hrel
          obtain ⟨n0, n1, n2⟩ := hbx.out.cells
          have hgl := hrow.out.lt
          by_cases hjl : j < xi.length
          · obtain ⟨p3, c3, e3, h3⟩ := show IntsAt wr (.slice p2 xi.length c2) xi from (HU.out.below hbr.out).ints
            injection e3 with e1 e4 e2
            clear e4
            subst e1; subst e2
            obtain ⟨b2, o2, rfl, hc⟩ := h3.resolve_left (by intro e; rw [e] at hjl; simp at hjl)
            have hcj := hc j hjl
            rw [List.getElem?_eq_getElem hjl, Option.getD_some] at hcj
            have hin := HIN.out _ (List.getElem_mem hjl)
            have HOR := hid (all_snoc (bsOf (has s) (L.take k)) xi j hjl)
            obtain ⟨u, hu⟩ : ∃ u : Nat, xi[j] = (u : Int) := ⟨xi[j].toNat, by omega⟩
            rw [hu] at hcj hin HOR
            have zj : (0 : Int) ≤ (j : Int) ∧ (j : Int) < (xi.length : Int) := by omega
            have zu : (0 : Int) ≤ (u : Int) ∧ (u : Int) < (L.length : Int) := by omega
            have hul : u < L.length := by omega
            obtain ⟨s1, hs1⟩ : ∃ s1, s1 = (xi.take j).all (bOf (bsOf (has s) (L.take k))) := ⟨_, rfl⟩
            rw [← hs1] at hrow HOR
            obtain ⟨t, ht, y0, _⟩ := hrow.out.getB u (by rw [rowB_length _ hkl]; exact hul)
            obtain ⟨t', ht', z0, z1⟩ := hrow.out.getB k (by rw [rowB_length _ hkl]; exact hkl)
            rw [rowB_at _ hkl] at ht'
            subst ht'
            rw [rowB_low _ hkl _ (by omega)] at ht
            rw [ht] at HOR
            have h7 := hrow.out.store k (by rw [rowB_length _ hkl]; exact hkl) (s1 && t)
            rw [rowB_set _ _ hkl] at h7
            have HR7 := hid h7
            have HX7 := hid (hbx.out.other (a := ⟨g, k, none⟩) HXB.out (.bool (s1 && t)))
            have HB7 := hid (hbr.out.setCell (p := ⟨g, k, none⟩) HLW.out (.bool (s1 && t)))
            clear h7 h3 hc hin hu hs1 ht hrow hbr hbx
            cases s1
            · go_wp2_with fail
              go_roundw
              case rel => exact ⟨j + 1, by omega, by go_num, (by rw [HOR.out]; exact HR7.out), HX7.out, HB7.out⟩
              case measure => simp [intOf]; omega
            · go_wp2_with fail
              go_roundw
              case rel => exact ⟨j + 1, by omega, by go_num, (by rw [HOR.out]; exact HR7.out), HX7.out, HB7.out⟩
              case measure => simp [intOf]; omega
          · obtain rfl : j = xi.length := by omega
            rw [List.take_length] at hrow
            have HN2 := hid (show BRow wr g (bsOf (has s) (L.take (k + 1)) ++ List.replicate (L.length - (k + 1)) false) from by rw [HNX.out _ rfl]; exact hrow.out)
            have HBQ := hid hbr.out
            clear hrow hbr hbx
            go_wp2_with fail
            go_roundw
            case rel => exact ⟨k + 1, by omega, by go_num, HN2.out, HBQ.out⟩
            case measure => simp [intOf]; omega
      · have HR7 := hid (show BRow (wr.alloc (.cells #[.int .i64 4, .int .i64 xl, .slice p2 xi.length c2] 39)) g (rowB (has s) L k ((xi.take 0).any (bOf (bsOf (has s) (L.take k))))) from HR5.out)
        have HB7 := hid HB5.out
        have HX7 := hid HBX.out
        go_wp2_with fail
        clear n0 n1 n2 y0 y1 d0 d1 d2 x0 x1
        obtain ⟨xb, hxb⟩ : ∃ xb, xb = wr.heap.size := ⟨_, rfl⟩
        generalize wr.alloc (.cells #[.int .i64 4, .int .i64 xl, .slice p2 xi.length c2] 39) = w7 at *
        rw [← hxb] at HX7 ⊢
        have HXB := hid (show xb ≠ g by omega)
        have HLX := hid (show w2.heap.size ≤ xb from by rw [hxb]; exact HBR.out.size)
        clear hxb HBX HR5 HB5
        go_loopw [8] (fun z wq => ∃ (j : Nat), j ≤ xi.length ∧ z = .int .i64 j ∧ Hid (BRow wq g (rowB (has s) L k ((xi.take j).any (bOf (bsOf (has s) (L.take k)))))) ∧ Hid (Box3 wq xb 39 (.int .i64 4) (.int .i64 xl) (.slice p2 xi.length c2)) ∧ Hid (Below w2.heap.size w2 wq)) (fun z _ => xi.length - (intOf z).toNat)
        case atStart => exact ⟨0, Nat.zero_le _, rfl, HR7.out, HX7.out, HB7.out⟩
        case round =>
          clear HR7 HX7 HB7
          obtain ⟨j, hj, rfl, hrow, hbx, hbr⟩ := hrel
          obtain ⟨n0, n1, n2⟩ := hbx.out.cells
          have hgl := hrow.out.lt
          by_cases hjl : j < xi.length
          · obtain ⟨p3, c3, e3, h3⟩ := show IntsAt wr (.slice p2 xi.length c2) xi from (HU.out.below hbr.out).ints
            injection e3 with e1 e4 e2
            clear e4
            subst e1; subst e2
            obtain ⟨b2, o2, rfl, hc⟩ := h3.resolve_left (by intro e; rw [e] at hjl; simp at hjl)
            have hcj := hc j hjl
            rw [List.getElem?_eq_getElem hjl, Option.getD_some] at hcj
            have hin := HIN.out _ (List.getElem_mem hjl)
            have HOR := hid (any_snoc (bsOf (has s) (L.take k)) xi j hjl)
            obtain ⟨u, hu⟩ : ∃ u : Nat, xi[j] = (u : Int) := ⟨xi[j].toNat, by omega⟩
            rw [hu] at hcj hin HOR
            have zj : (0 : Int) ≤ (j : Int) ∧ (j : Int) < (xi.length : Int) := by omega
            have zu : (0 : Int) ≤ (u : Int) ∧ (u : Int) < (L.length : Int) := by omega
            have hul : u < L.length := by omega
            obtain ⟨s1, hs1⟩ : ∃ s1, s1 = (xi.take j).any (bOf (bsOf (has s) (L.take k))) := ⟨_, rfl⟩
            rw [← hs1] at hrow HOR
            obtain ⟨t, ht, y0, _⟩ := hrow.out.getB u (by rw [rowB_length _ hkl]; exact hul)
            obtain ⟨t', ht', z0, z1⟩ := hrow.out.getB k (by rw [rowB_length _ hkl]; exact hkl)
            rw [rowB_at _ hkl] at ht'
            subst ht'
            rw [rowB_low _ hkl _ (by omega)] at ht
            rw [ht] at HOR
            have h7 := hrow.out.store k (by rw [rowB_length _ hkl]; exact hkl) (s1 || t)
            rw [rowB_set _ _ hkl] at h7
            have HR7 := hid h7
            have HX7 := hid (hbx.out.other (a := ⟨g, k, none⟩) HXB.out (.bool (s1 || t)))
            have HB7 := hid (hbr.out.setCell (p := ⟨g, k, none⟩) HLW.out (.bool (s1 || t)))
            clear h7 h3 hc hin hu hs1 ht hrow hbr hbx
            cases s1
            · go_wp2_with fail
              go_roundw
              case rel => exact ⟨j + 1, by omega, by go_num, (by rw [HOR.out]; exact HR7.out), HX7.out, HB7.out⟩
              case measure => simp [intOf]; omega
            · go_wp2_with fail
              go_roundw
              case rel => exact ⟨j + 1, by omega, by go_num, (by rw [HOR.out]; exact HR7.out), HX7.out, HB7.out⟩
              case measure => simp [intOf]; omega
          · obtain rfl : j = xi.length := by omega
            rw [List.take_length] at hrow
            have HN2 := hid (show BRow wr g (bsOf (has s) (L.take (k + 1)) ++ List.replicate (L.length - (k + 1)) false) from by rw [HNX.out _ rfl]; exact hrow.out)
            have HBQ := hid hbr.out
            clear hrow hbr hbx
            go_wp2_with fail
            go_roundw
            case rel => exact ⟨k + 1, by omega, by go_num, HN2.out, HBQ.out⟩
            case measure => simp [intOf]; omega
    · obtain rfl : k = L.length := by omega
      have HR := hid (show BRow wr g (bsOf (has s) L) from by
        have := hrow.out
        rw [Nat.sub_self, List.take_length, List.replicate_zero, List.append_nil] at this; exact this)
      have HBQ := hid (HB2.out.trans (hbr.out.mono HB2.out.size))
      have HGE := hid (show w.heap.size ≤ g from by rw [HG.out]; omega)
      clear hrow hbr
      go_wp2_with fail
      go_ret
      exact ⟨_, rfl, HGE.out, HR.out, HBQ.out⟩
end Go.Proofs.YtpdbfbjfodckgaaDoor
namespace Go.Proofs.YtpdbfbjfodckgaaDoor
open Go.RowKit

def OccPost (L : List NodeT) (w : World) (e : Ending) (w' : World) : Prop := ∃ v, e = .returned v ∧ OwnInts w' w.heap.size v (mems (litsVS L)) ∧ Below w.heap.size w w'
set_option maxRecDepth 100000 in
set_option maxHeartbeats 8000000 in
theorem occur21_c (n : Int) (L : List NodeT) (v : Value) (w : World) (hN : NodesAt w v L) (hv : validNet ⟨n, L⟩ = true) :
    Calls Tryd.prog 24 #[.agg #[.int .i64 n, v]] w (OccPost L w) := by
  obtain ⟨⟨r1, r2, r3, r4⟩, hft⟩ := (validNet_iff _).1 hv
  simp only at r1 r2 r3 r4 hft
  have hb1 : Below w.heap.size w (w.alloc (.cells #[.int .i64 n, v] 24)) := (Below.refl _ w).alloc (Nat.le_refl _) _
  have hb12 : Below (w.alloc (.cells #[.int .i64 n, v] 24)).heap.size (w.alloc (.cells #[.int .i64 n, v] 24)) ((w.alloc (.cells #[.int .i64 n, v] 24)).alloc (.cells #[.int .u64 0, .int .u64 0] 42)) := (Below.refl _ _).alloc (Nat.le_refl _) _
  have hx := (NetVar.new w n v 24).below hb12
  have hs := SetVar.new (w.alloc (.cells #[.int .i64 n, v] 24)) 0 42
  rw [World.size_alloc] at hs
  have HV := hid (vars21_c n L v _ ((hN.below hb1).below hb12) hv)
  have HX := hid hx
  have HS := hid hs
  have HB2 := hid (hb1.trans (hb12.mono hb1.size))
  have HUL := hid (union_lits hv)
  have HLE := hid (lits_le hv)
  obtain ⟨x0, x1⟩ := hx
  obtain ⟨N, rfl⟩ : ∃ N : Nat, n = (N : Int) := ⟨n.toNat, by omega⟩
  have HOM := hid (occ_mems (s := litsVS L) (n := N) HLE.out (by omega))
  clear hN hv hft hb1 hb12 hs
  go_enter Tryd.func24, Tryd.ntmps24
  go_wp2_with fail
  refine HV.out.mono ?_
  rintro e w3 ⟨g, rfl, hg, hrow, hb3⟩
  have HS3 := hid (show SetVar w3 (w.heap.size + 1) (unionV ((vsOf L).take 0)) from HS.out.below hb3 HS.out.lt)
  have HX3 := hid (HX.out.below hb3)
  have HR3 := hid hrow
  have HB3 := hid (HB2.out.trans (hb3.mono HB2.out.size))
  have HGN := hid (show g ≠ w.heap.size + 1 from fun e => absurd HS.out.lt (Nat.not_lt.2 (e ▸ hg)))
  clear x0 x1 hrow hb3 hg HX HS HB2 HV
  go_wp2_with fail
  go_loopw [5] (fun z wr => ∃ (k : Nat), k ≤ L.length ∧ z = .int .i64 k ∧ Hid (SetVar wr (w.heap.size + 1) (unionV ((vsOf L).take k))) ∧ Hid (SetRow wr g (vsOf L)) ∧ Hid (NetVar wr w.heap.size N v) ∧ Hid (Below w.heap.size w wr)) (fun z _ => L.length - (intOf z).toNat)
  case atStart => exact ⟨0, Nat.zero_le _, rfl, HS3.out, HR3.out, HX3.out, HB3.out⟩
  case round =>
    clear HS3 HR3 HX3 HB3
    obtain ⟨k, hk, rfl, hsv, hrow, hnx, hbr⟩ := hrel
    by_cases hkl : k < L.length
    · have zk : (0 : Int) ≤ (k : Int) ∧ (k : Int) < (L.length : Int) := by omega
      have HUN := hid (unionV_take (vsOf L) k (by rw [vsOf_length]; exact hkl))
      obtain ⟨t, ht, y0, y1, _, _⟩ := hrow.out.getS k (by rw [vsOf_length]; exact hkl)
      rw [sOf_nat _ k (by rw [vsOf_length]; exact hkl)] at ht
      rw [ht] at HUN
      obtain ⟨s1, hs1⟩ : ∃ s1, s1 = unionV ((vsOf L).take k) := ⟨_, rfl⟩
      rw [← hs1] at hsv HUN
      have RT : Hid (wr.drew.cell? ⟨g, k * 2, none⟩ = some (.int .u64 ((lw t).toNat : Int)) ∧ wr.drew.cell? ⟨g, k * 2 + 1, none⟩ = some (.int .u64 ((hw t).toNat : Int))) := ⟨y0, y1⟩
      have SVd : Hid (SetVar wr.drew (w.heap.size + 1) s1) := hsv.out
      have HRW := hid hrow.out
      have HNX := hid hnx.out
      have HBR := hid hbr.out
      clear y0 y1 ht hs1 hsv hrow hnx hbr
      go_wp2_with fail
      refine Go.Proofs.YtpdbfbjfodckgaaDoor.wp_region_L 7 5 (fun w' => (w'.cell? ⟨g, k * 2, none⟩ = some (.int .u64 ((lw (t)).toNat : Int)) ∧ w'.cell? ⟨g, k * 2 + 1, none⟩ = some (.int .u64 ((hw (t)).toNat : Int))) ∧ SetVar w' (w.heap.size + 1) (s1)) (by kernel_rfl) rfl ⟨RT.out, SVd.out⟩ (fun _ => ?_)
      refine wpAnyL_load2 (i := 0) (v := encS s1) (by simp only [List.getElem?_toArray, List.getElem?_cons_zero] <;> rfl) (by kernel_rfl) (by kernel_rfl) (by kernel_rfl) (by exact fun _ _ _ h => h) (by decide) (Waits.one rfl ⟨⟨0, .data⟩, by simp, rfl, rfl⟩) (by kernel_rfl) (by kernel_rfl) (.inr ⟨RT.out, SVd.out⟩) (Or.inl ⟨by rfl, fun w hw => (by obtain ⟨_, x1⟩ := hw; simp [execOp, go_sem, Act.eval, x1.cells.1, x1.cells.2.1])⟩) (fun _ => ?_)
      simp only [Act.put, List.setIfInBounds_toArray, List.set_cons_zero, List.set_cons_succ]
      refine wpAnyL_pure (i := 1) (v := .slice (some ⟨g, 0, none⟩) L.length L.length) (by simp only [List.getElem?_toArray, List.getElem?_cons_zero, List.getElem?_cons_succ] <;> rfl) (by kernel_rfl) (by kernel_rfl) (by kernel_rfl) (by exact fun _ _ _ h => h) (by decide) (.inr ⟨RT.out, SVd.out⟩) (Or.inl ⟨by rfl, fun w _ => (by simp [execOp, go_sem, Act.eval])⟩) (fun _ => ?_)
      simp only [Act.put, List.setIfInBounds_toArray, List.set_cons_zero, List.set_cons_succ]
      refine wpAnyL_pure (i := 2) (v := .int .i64 (k : Int)) (by simp only [List.getElem?_toArray, List.getElem?_cons_zero, List.getElem?_cons_succ] <;> rfl) (by kernel_rfl) (by kernel_rfl) (by kernel_rfl) (by exact fun _ _ _ h => h) (by decide) (.inr ⟨RT.out, SVd.out⟩) (Or.inl ⟨by rfl, fun w _ => (by simp [execOp, go_sem, Act.eval])⟩) (fun _ => ?_)
      simp only [Act.put, List.setIfInBounds_toArray, List.set_cons_zero, List.set_cons_succ]
      refine wpAnyL_pure (i := 3) (v := .pointer (some ⟨g, k * 2, none⟩)) (by simp only [List.getElem?_toArray, List.getElem?_cons_zero, List.getElem?_cons_succ] <;> rfl) (by kernel_rfl) (by kernel_rfl) (by kernel_rfl) (by exact fun _ _ _ h => h) (by decide) (.inr ⟨RT.out, SVd.out⟩) (Or.inl ⟨by rfl, fun w _ => (by simp [execOp, go_sem, Act.eval, zk])⟩) (fun _ => ?_)
      simp only [Act.put, List.setIfInBounds_toArray, List.set_cons_zero, List.set_cons_succ]
      refine wpAnyL_load2 (i := 4) (v := encS (t)) (by simp only [List.getElem?_toArray, List.getElem?_cons_zero, List.getElem?_cons_succ] <;> rfl) (by kernel_rfl) (by kernel_rfl) (by kernel_rfl) (by exact fun _ _ _ h => h) (by decide) (Waits.one rfl ⟨⟨4, .data⟩, by simp, rfl, rfl⟩) (by kernel_rfl) (by kernel_rfl) (.inr ⟨RT.out, SVd.out⟩) (Or.inl ⟨by rfl, fun w hw => (by obtain ⟨⟨y0, z0⟩, _⟩ := hw; simp [execOp, go_sem, Act.eval, y0, z0])⟩) (fun _ => ?_)
      simp only [Act.put, List.setIfInBounds_toArray, List.set_cons_zero, List.set_cons_succ]
      refine wpAnyL_one (i := 5) (by kernel_rfl) (by simp only [List.getElem?_toArray, List.getElem?_cons_zero, List.getElem?_cons_succ] <;> rfl) (by rfl) ?_
      refine opwp_call (f := 53) (args := #[encS s1, encS (t)]) (w' := wr.drew) (by simp [go_sem, Act.eval]) ?_
      refine (union21_c s1 t wr.drew).mono ?_
      rintro e w7 ⟨rfl, hb7⟩
      refine .inl ⟨_, rfl, .inl (by kernel_rfl), ?_⟩
      simp only [Act.put, List.setIfInBounds_toArray, List.set_cons_zero, List.set_cons_succ]
      have sv7 := SVd.out.below hb7 SVd.out.lt
      obtain ⟨y0, y1, y2, y3⟩ := sv7.cells
      refine wpAnyL_one (i := 6) (by kernel_rfl) (by simp only [List.getElem?_toArray, List.getElem?_cons_zero, List.getElem?_cons_succ] <;> rfl) (by rfl) ?_
      refine opwp_skip (w' := ((w7.setCell ⟨w.heap.size + 1, 0, none⟩ (.int .u64 ((lw (s1 ||| t)).toNat : Int))).setCell ⟨w.heap.size + 1, 1, none⟩ (.int .u64 ((hw (s1 ||| t)).toNat : Int)))) (by simp [execOp, go_sem, Act.eval, y0, y1, y2, y3]) ⟨.inl (by kernel_rfl), ?_⟩
      simp only [Act.put]
      refine wpAnyL_done (by kernel_rfl) ?_ _
      have SV8 := hid (sv7.store (s1 ||| t))
      have hb8 := (Below.refl wr.heap.size wr).drew.trans hb7
      have HR8 := hid (((HRW.out.below hb8 HRW.out.lt).other (a := ⟨w.heap.size + 1, 0, none⟩) HGN.out (.int .u64 ((lw (s1 ||| t)).toNat : Int))).other (a := ⟨w.heap.size + 1, 1, none⟩) HGN.out (.int .u64 ((hw (s1 ||| t)).toNat : Int)))
      have HN8 := hid (show NetVar ((w7.setCell ⟨w.heap.size + 1, 0, none⟩ (.int .u64 ((lw (s1 ||| t)).toNat : Int))).setCell ⟨w.heap.size + 1, 1, none⟩ (.int .u64 ((hw (s1 ||| t)).toNat : Int))) w.heap.size N v from by
        have h0 := HNX.out.below hb8
        have h1 := (Below.refl (w.heap.size + 1) w7).setCell (p := ⟨w.heap.size + 1, 0, none⟩) (Nat.le_refl _) (.int .u64 ((lw (s1 ||| t)).toNat : Int))
        have h2 := h1.setCell (p := ⟨w.heap.size + 1, 1, none⟩) (Nat.le_refl _) (.int .u64 ((hw (s1 ||| t)).toNat : Int))
        exact ⟨(h2.cell (p := ⟨w.heap.size, 0, none⟩) (Nat.lt_succ_self _)).trans h0.n, (h2.cell (p := ⟨w.heap.size, 1, none⟩) (Nat.lt_succ_self _)).trans h0.l⟩)
      have HB8 := hid (below_01 (HBR.out.trans (hb8.mono HBR.out.size)) (Nat.le_succ _) (.int .u64 ((lw (s1 ||| t)).toNat : Int)) (.int .u64 ((hw (s1 ||| t)).toNat : Int)))
      clear sv7 y0 y1 y2 y3 hb7 hb8 RT SVd
      go_wp2_with fail
      go_roundw
      case rel => exact ⟨k + 1, by omega, by go_num, (by rw [HUN.out]; exact SV8.out), HR8.out, HN8.out, HB8.out⟩
      case measure => simp [intOf]; omega
    · obtain rfl : k = L.length := by omega
      have HSV := hid (show SetVar wr (w.heap.size + 1) (litsVS L) from by
        have := hsv.out
        rw [← vsOf_length L, List.take_length, HUL.out] at this; exact this)
      have HBR := hid hbr.out
      have HNX := hid hnx.out
      have HSB := hid hbr.out.size
      obtain ⟨ss, hss⟩ : ∃ ss, ss = litsVS L := ⟨_, rfl⟩
      rw [← hss] at HSV HOM
      have HSS := hid hss
      obtain ⟨wo, hwo⟩ : ∃ wo : World, wo = wr := ⟨_, rfl⟩
      subst hwo
      clear hsv hrow hnx hbr hss
      go_wp2_with fail
      go_loopw [6, 7] (fun y z wr => ∃ (k : Nat), k ≤ N ∧ z = .int .i64 ((k : Int) + 1) ∧ Hid (OwnInts wr wo.heap.size y (occ ss k)) ∧ Hid (Below wo.heap.size wo wr)) (fun _ z _ => N + 1 - (intOf z).toNat)
      case atStart => exact ⟨0, Nat.zero_le _, rfl, OwnInts.nil _ _, Below.refl _ _⟩
      case round =>
        obtain ⟨k, hk, rfl, hown, hbr⟩ := hrel
        obtain ⟨x0, x1⟩ := HNX.out.below hbr.out
        have hsv := HSV.out.below hbr.out HSV.out.lt
        obtain ⟨s0, s1, _, _⟩ := hsv.cells
        by_cases hlt : k < N
        · have zk : (k : Int) + 1 ≤ (N : Int) := by omega
          have hol := occ_length ss k
          have HOW := hid hown.out
          have HBR := hid hbr.out
          obtain ⟨pv, cv, ev, _⟩ := hown.out.ints
          generalize hlen : (occ ss k).length = m at *
          subst ev
          clear hown hbr hsv
          go_wp2_with fail
          refine (has5_c ss ((k : Int) + 1) _).mono ?_
          rintro e w2 ⟨rfl, hb2⟩
          have hB2 := HBR.out.trans (hb2.mono HBR.out.size)
          have HO2 := hid (HOW.out.below hb2)
          have HB2 := hid hB2
          clear hB2 hb2 s0 s1 x0 x1
          cases hh : has ss ((k : Int) + 1)
          · have HN := hid (occ_no hh)
            clear hh
            go_wp2_with fail
            go_roundw
            case rel => exact ⟨k + 1, by omega, by go_num, by rw [HN.out]; exact HO2.out, HB2.out⟩
            case measure => simp [intOf]; omega
          · have HN := hid (occ_yes hh)
            have HOA := hid (HO2.out.alloc (.cells #[.int .i64 ((k : Int) + 1)] 3))
            have HON := hid (one_int w2 ((k : Int) + 1) 3)
            have hsz : wo.heap.size ≤ (w2.alloc (.cells #[.int .i64 ((k : Int) + 1)] 3)).heap.size := by have := HB2.out.size; rw [World.size_alloc]; omega
            have HBA := hid (HB2.out.alloc HB2.out.size (.cells #[.int .i64 ((k : Int) + 1)] 3))
            subst hlen
            clear HO2 HB2 hh HOW HBR
            go_wp2_with (at_builtin; go_loud (refine wpList_append_I rfl _ _ rfl wo.heap.size _ _ rfl HOA.out _ [(k : Int) + 1] rfl HON.out (by show _ + 1 ≤ 16777216; omega) hsz ?_; intro v3 w3 hown3 hg3 _; obtain ⟨p4, c4, e4, _⟩ := hown3.ints; generalize (occ ss k ++ [(k : Int) + 1]).length = m4 at e4; subst e4))
            have HB3 := hid (below_app HBA.out (Nat.le_refl _) HOA.out hg3)
            have HO3 := hid hown3
            clear hown3 hg3 HOA HON HBA
            go_roundw
            case rel => exact ⟨k + 1, by omega, by go_num, by rw [HN.out]; exact HO3.out, HB3.out⟩
            case measure => simp [intOf]; omega
        · obtain rfl : k = N := by omega
          have ho := hown.out
          rw [HOM.out] at ho
          have HO := hid ho
          clear ho
          have HBB := hid (HBR.out.trans (hbr.out.mono HBR.out.size))
          clear hown hbr hsv s0 s1
          go_wp2_with fail
          go_ret
          exact ⟨_, rfl, by rw [← HSS.out]; exact own_lower HO.out HSB.out, HBB.out⟩

theorem two_pow_le {m : Nat} (h : m ≤ 16) : 2 ^ m ≤ 65536 := Nat.pow_le_pow_right (n := 2) (by decide) h
set_option maxRecDepth 100000 in
set_option maxHeartbeats 8000000 in
theorem deterministic21_c (n : Int) (L : List NodeT) (v : Value) (w : World) (hN : NodesAt w v L) :
    Calls Tryd.prog 26 #[.agg #[.int .i64 n, v]] w (DetPost ⟨n, L⟩ w) := by
  have hB1 : Below w.heap.size w (w.alloc (.cells #[.int .i64 n, v] 24)) := (Below.refl _ w).alloc (Nat.le_refl _) _
  have HCK := hid (valid21_c n L v _ (hN.below hB1))
  have HX := hid (NetVar.new w n v 24)
  have HNA := hid (hN.below hB1)
  have HB1 := hid hB1
  clear hB1
  cases hv : validNet ⟨n, L⟩ with
  | false =>
    have HNO := hid (show detNo ⟨n, L⟩ = 1 from by unfold detNo; rw [hv, if_neg (by simp)])
    rw [hv] at HCK
    obtain ⟨x0, x1⟩ := HX.out
    clear hv hN
    go_enter Tryd.func26, Tryd.ntmps26
    go_wp2_with fail
    refine HCK.out.mono ?_
    rintro e w2 ⟨rfl, hb2⟩
    go_wp2_with fail
    go_ret2
    exact ⟨by unfold detYes; rw [HNO.out]; rfl, HB1.out.trans (hb2.mono HB1.out.size)⟩
  | true =>
  obtain ⟨⟨r1, r2, r3, r4⟩, hft⟩ := (validNet_iff _).1 hv
  simp only at r1 r2 r3 r4 hft
  rw [hv] at HCK
  obtain ⟨p, c, rfl, h⟩ := hN
  obtain ⟨b, off, rfl, hN⟩ := h.resolve_left (by intro e; rw [e] at r3; simp at r3)
  have HOC := hid (fun w' (h : NodesAt w' (.slice (some ⟨b, off, none⟩) L.length c) L) => occur21_c n L _ w' h hv)
  have HVL := hid (fun s w' (h : NodesAt w' (.slice (some ⟨b, off, none⟩) L.length c) L) => values21_c n L _ s w' h hv)
  have HV := hid hv
  have HN := hid hN
  have HFT := hid hft
  obtain ⟨x0, x1⟩ := HX.out
  clear hN h hv hft
  go_enter Tryd.func26, Tryd.ntmps26
  go_wp2_with fail
  refine HCK.out.mono ?_
  rintro e w2 ⟨rfl, hb2⟩
  obtain ⟨y0, y1⟩ := HX.out.below hb2
  have HNA2 := hid (HNA.out.below hb2)
  have HX2 := hid (HX.out.below hb2)
  have HB2 := hid (HB1.out.trans (hb2.mono HB1.out.size))
  clear x0 x1 hb2 HCK HX HB1 HNA
  go_wp2_with fail
  refine (HOC.out _ HNA2.out).mono ?_
  rintro e w3 ⟨vl, rfl, hnl, hb3⟩
  have HX3 := hid (HX2.out.below hb3)
  have HNA3 := hid (HNA2.out.below hb3)
  have HB3 := hid (HB2.out.trans (hb3.mono HB2.out.size))
  have hnl' := hnl.ints
  obtain ⟨pl, cl, rfl, hdrop⟩ := hnl'
  have HIL := hid (show IntsAt w3 (.slice pl (mems (litsVS L)).length cl) (mems (litsVS L)) from hnl.ints)
  obtain ⟨l, hl⟩ : ∃ l, l = mems (litsVS L) := ⟨_, rfl⟩
  rw [← hl] at HIL ⊢
  have HLL := hid hl
  have hml := mems_length (litsVS L)
  rw [← hl] at hml
  have HRG := hid (show ∀ q ∈ l, 1 ≤ q ∧ q ≤ 128 from by rw [hl]; exact fun q hq => has_range ((mem_mems _ _).1 hq))
  obtain ⟨m, hm⟩ : ∃ m, m = l.length := ⟨_, rfl⟩
  have HML := hid hm
  rw [← hm] at hml ⊢
  clear hnl hdrop hb3 hm hl y0 y1 HX2 HNA2 HB2 HOC
  by_cases h16 : 16 < (m : Int)
  · have HNO := hid (show detNo ⟨n, L⟩ = 2 from by unfold detNo; rw [HV.out, if_pos rfl]; show (if 16 < (mems (litsVS L)).length then (2 : Int) else 0) = 2; rw [← HLL.out, ← HML.out, if_pos (by omega)])
    go_wp2_with fail
    go_ret2
    exact ⟨by unfold detYes; rw [HNO.out]; rfl, HB3.out⟩
  · have HNO := hid (show detNo ⟨n, L⟩ = 0 from by unfold detNo; rw [HV.out, if_pos rfl]; show (if 16 < (mems (litsVS L)).length then (2 : Int) else 0) = 0; rw [← HLL.out, ← HML.out, if_neg (by omega)])
    obtain ⟨N, hN⟩ : ∃ N, N = 2 ^ m := ⟨_, rfl⟩
    have hN2 : N ≤ 65536 := by rw [hN]; exact two_pow_le (by omega)
    have hsh : wrap64 (2 ^ m) = (N : Int) := by
      have e : (2 : Int) ^ m = (N : Int) := by rw [hN]; exact (Int.natCast_pow 2 _).symm
      rw [e]; exact IntWalk.wrap64_in _ (by omega)
    have HN2 := hid hN
    have HDT := hid (fun h => det_of_asg (n := n) (L := L) HV.out h)
    rw [← HLL.out, ← HML.out, ← HN2.out] at HDT
    clear hN
    go_wp2_with fail
    go_loopw [5] (fun z wr => ∃ (k : Nat), k ≤ N ∧ z = .int .i64 k ∧ Hid (∀ j, j < k → orOk (has (asg l j m)) L = true) ∧ Hid (Below w3.heap.size w3 wr)) (fun z _ => N - (intOf z).toNat)
    case atStart => exact ⟨0, Nat.zero_le _, rfl, fun j h => absurd h (Nat.not_lt_zero _), Below.refl _ _⟩
    case round =>
      obtain ⟨k, hk, rfl, hok, hbr⟩ := hrel
      by_cases hkl : k < N
      · have zk : (k : Int) < (N : Int) := by omega
        have hal : Below wr.heap.size wr (wr.alloc (.cells #[.int .u64 0, .int .u64 0] 42)) := (Below.refl _ wr).alloc (Nat.le_refl _) _
        have SV0 := hid (show SetVar (wr.alloc (.cells #[.int .u64 0, .int .u64 0] 42)) wr.heap.size (asg l k 0) from SetVar.new wr 0 42)
        have HBR := hid hbr.out
        have HAL := hid hal
        have HOK := hid hok.out
        clear hal hbr hok
        go_wp2_with fail
        obtain ⟨wo, hwo⟩ : ∃ wo : World, wo = wr := ⟨_, rfl⟩
        subst hwo
        go_loopw [7] (fun z wq => ∃ (i : Nat), i ≤ m ∧ z = .int .i64 i ∧ Hid (SetVar wq wo.heap.size (asg l k i)) ∧ Hid (Below wo.heap.size wo wq)) (fun z _ => m - (intOf z).toNat)
        case atStart => exact ⟨0, Nat.zero_le _, rfl, SV0.out, HAL.out⟩
        case round =>
          clear SV0 HAL
          obtain ⟨i, hi, rfl, hsv, hbq⟩ := hrel
          by_cases him : i < m
          · have zi : (0 : Int) ≤ (i : Int) ∧ (i : Int) < (m : Int) := by omega
            have hdm : ((k / 2 ^ i % 2 : Nat) : Int) = (k : Int) / 2 ^ i % 2 := by norm_cast
            have hq0 : 0 ≤ (k : Int) / 2 ^ i := Int.ediv_nonneg (by omega) (Int.pow_nonneg (by decide))
            have htm : Int.tmod ((k : Int) / 2 ^ i) 2 = (k : Int) / 2 ^ i % 2 := Int.tmod_eq_emod_of_nonneg hq0
            have htb := Nat.testBit_eq_decide_div_mod_eq (x := k) (i := i)
            have hil : i < l.length := by rw [← HML.out]; exact him
            by_cases hb : k / 2 ^ i % 2 = 1
            · have hbt : (k : Int) / 2 ^ i % 2 = 1 := by rw [← hdm, hb]; rfl
              rw [hbt] at htm
              have HTB := hid (asg_yes hil (show k.testBit i = true from by rw [htb, decide_eq_true hb]))
              obtain ⟨p3, c3, e3, h3⟩ := HIL.out.below (HBR.out.trans (hbq.out.mono HBR.out.size))
              rw [← HML.out] at e3
              injection e3 with e1 e0 e2
              clear e0
              subst e1; subst e2
              obtain ⟨b2, o2, rfl, hc⟩ := h3.resolve_left (by intro e; rw [e] at hil; simp at hil)
              have hci := hc i hil
              rw [List.getElem?_eq_getElem hil, Option.getD_some] at hci
              have hir := HRG.out _ (List.getElem_mem hil)
              obtain ⟨s1, hs1⟩ : ∃ s1, s1 = asg l k i := ⟨_, rfl⟩
              rw [← hs1] at hsv HTB
              generalize l[i] = q at *
              have RI : Hid (wr.drew.cell? ⟨b2, o2 + i, none⟩ = some (.int .i64 q)) := hci
              have SVd : Hid (SetVar wr.drew wo.heap.size s1) := hsv.out
              have HBQ := hid hbq.out
              clear hdm htb hb hc h3 hci hs1 hsv hbq hq0
              go_wp2_with fail
              refine Go.Proofs.YtpdbfbjfodckgaaDoor.wp_region_L 7 5 (fun w' => w'.cell? ⟨b2, o2 + i, none⟩ = some (.int .i64 q) ∧ SetVar w' (wo.heap.size) (s1)) (by kernel_rfl) rfl ⟨RI.out, SVd.out⟩ (fun _ => ?_)
              refine wpAnyL_load2 (i := 0) (v := encS s1) (by simp only [List.getElem?_toArray, List.getElem?_cons_zero] <;> rfl) (by kernel_rfl) (by kernel_rfl) (by kernel_rfl) (by exact fun _ _ _ h => h) (by decide) (Waits.one rfl ⟨⟨0, .data⟩, by simp, rfl, rfl⟩) (by kernel_rfl) (by kernel_rfl) (.inr ⟨RI.out, SVd.out⟩) (Or.inl ⟨by rfl, fun w hw => (by obtain ⟨_, x1⟩ := hw; simp [execOp, go_sem, Act.eval, x1.cells.1, x1.cells.2.1])⟩) (fun _ => ?_)
              simp only [Act.put, List.setIfInBounds_toArray, List.set_cons_zero, List.set_cons_succ]
              refine wpAnyL_pure (i := 1) (v := .slice (some ⟨b2, o2, none⟩) m cl) (by simp only [List.getElem?_toArray, List.getElem?_cons_zero, List.getElem?_cons_succ] <;> rfl) (by kernel_rfl) (by kernel_rfl) (by kernel_rfl) (by exact fun _ _ _ h => h) (by decide) (.inr ⟨RI.out, SVd.out⟩) (Or.inl ⟨by rfl, fun w _ => (by simp [execOp, go_sem, Act.eval])⟩) (fun _ => ?_)
              simp only [Act.put, List.setIfInBounds_toArray, List.set_cons_zero, List.set_cons_succ]
              refine wpAnyL_pure (i := 2) (v := .int .i64 (i : Int)) (by simp only [List.getElem?_toArray, List.getElem?_cons_zero, List.getElem?_cons_succ] <;> rfl) (by kernel_rfl) (by kernel_rfl) (by kernel_rfl) (by exact fun _ _ _ h => h) (by decide) (.inr ⟨RI.out, SVd.out⟩) (Or.inl ⟨by rfl, fun w _ => (by simp [execOp, go_sem, Act.eval])⟩) (fun _ => ?_)
              simp only [Act.put, List.setIfInBounds_toArray, List.set_cons_zero, List.set_cons_succ]
              refine wpAnyL_pure (i := 3) (v := .pointer (some ⟨b2, o2 + i, none⟩)) (by simp only [List.getElem?_toArray, List.getElem?_cons_zero, List.getElem?_cons_succ] <;> rfl) (by kernel_rfl) (by kernel_rfl) (by kernel_rfl) (by exact fun _ _ _ h => h) (by decide) (.inr ⟨RI.out, SVd.out⟩) (Or.inl ⟨by rfl, fun w _ => (by simp [execOp, go_sem, Act.eval, zi])⟩) (fun _ => ?_)
              simp only [Act.put, List.setIfInBounds_toArray, List.set_cons_zero, List.set_cons_succ]
              refine wpAnyL_load2 (i := 4) (v := .int .i64 q) (by simp only [List.getElem?_toArray, List.getElem?_cons_zero, List.getElem?_cons_succ] <;> rfl) (by kernel_rfl) (by kernel_rfl) (by kernel_rfl) (by exact fun _ _ _ h => h) (by decide) (Waits.one rfl ⟨⟨4, .data⟩, by simp, rfl, rfl⟩) (by kernel_rfl) (by kernel_rfl) (.inr ⟨RI.out, SVd.out⟩) (Or.inl ⟨by rfl, fun w hw => (by obtain ⟨x0, _⟩ := hw; simp [execOp, go_sem, Act.eval, x0])⟩) (fun _ => ?_)
              simp only [Act.put, List.setIfInBounds_toArray, List.set_cons_zero, List.set_cons_succ]
              refine wpAnyL_one (i := 5) (by kernel_rfl) (by simp only [List.getElem?_toArray, List.getElem?_cons_zero, List.getElem?_cons_succ] <;> rfl) (by rfl) ?_
              refine opwp_call (f := 59) (args := #[encS s1, .int .i64 q]) (w' := wr.drew) (by simp [go_sem, Act.eval]) ?_
              refine (with21_c s1 q wr.drew hir.1 hir.2).mono ?_
              rintro e w7 ⟨rfl, hb7⟩
              refine .inl ⟨_, rfl, .inl (by kernel_rfl), ?_⟩
              simp only [Act.put, List.setIfInBounds_toArray, List.set_cons_zero, List.set_cons_succ]
              have sv7 := SVd.out.below hb7 SVd.out.lt
              obtain ⟨y0, y1, y2, y3⟩ := sv7.cells
              refine wpAnyL_one (i := 6) (by kernel_rfl) (by simp only [List.getElem?_toArray, List.getElem?_cons_zero, List.getElem?_cons_succ] <;> rfl) (by rfl) ?_
              refine opwp_skip (w' := ((w7.setCell ⟨wo.heap.size, 0, none⟩ (.int .u64 ((lw (withV s1 q)).toNat : Int))).setCell ⟨wo.heap.size, 1, none⟩ (.int .u64 ((hw (withV s1 q)).toNat : Int)))) (by simp [execOp, go_sem, Act.eval, y0, y1, y2, y3]) ⟨.inl (by kernel_rfl), ?_⟩
              simp only [Act.put]
              refine wpAnyL_done (by kernel_rfl) ?_ _
              have SV8 := hid (sv7.store (withV s1 q))
              have HB8 := hid (below_01 (HBQ.out.trans (((Below.refl wr.heap.size wr).drew.trans hb7).mono HBQ.out.size)) (Nat.le_refl _) (.int .u64 ((lw (withV s1 q)).toNat : Int)) (.int .u64 ((hw (withV s1 q)).toNat : Int)))
              clear sv7 y0 y1 y2 y3 hb7 RI SVd htm hbt
              go_wp2_with fail
              go_roundw
              case rel => exact ⟨i + 1, by omega, by go_num, (by rw [HTB.out]; exact SV8.out), HB8.out⟩
              case measure => simp [intOf]; omega
            · have hbt : (k : Int) / 2 ^ i % 2 = 0 := by rw [← hdm]; omega
              rw [hbt] at htm
              have HTB := hid (asg_no (l := l) (show k.testBit i = false from by rw [htb, decide_eq_false hb]))
              have HSV := hid hsv.out
              have HBQ := hid hbq.out
              clear hdm htb hb hq0 hsv hbq
              go_wp2_with fail
              go_roundw
              case rel => exact ⟨i + 1, by omega, by go_num, (by rw [HTB.out]; exact HSV.out), HBQ.out⟩
              case measure => simp [intOf]; omega
          · obtain rfl : i = m := by omega
            have hbw := HBR.out.trans (hbq.out.mono HBR.out.size)
            obtain ⟨x0, x1⟩ := HX3.out.below hbw
            obtain ⟨s1, hs1⟩ : ∃ s1, s1 = asg l k i := ⟨_, rfl⟩
            have HA1 := hid hs1
            rw [← hs1] at hsv
            obtain ⟨s0, s2, _, _⟩ := hsv.out.cells
            have HNW := hid (HNA3.out.below hbw)
            have HBW := hid hbw
            clear hbw hsv hbq hs1
            go_wp2_with fail
            refine (HVL.out s1 _ HNW.out).mono ?_
            rintro e w5 ⟨g, rfl, hg, hrow, hb5⟩
            have HB5 := hid (HBW.out.trans (hb5.mono HBW.out.size))
            have HX5 := hid (HX3.out.below HB5.out)
            have HR5 := hid hrow
            have HSN := hid (fun k (hk : k < L.length) => (HN.out k hk).imp fun u hu => hu.below (HB3.out.trans (HB5.out.mono HB3.out.size)))
            clear x0 x1 s0 s2 hrow hg hb5 HNW
            go_wp2_with fail
            go_loopw [9] (fun z wq => ∃ (q : Nat), q ≤ L.length ∧ z = .int .i64 q ∧ Hid (∀ j (hj : j < L.length), j < q → (L[j].kind != 4 || decide (cntT (bsOf (has s1) L) L[j].ins ≤ 1)) = true) ∧ wq = w5) (fun z _ => L.length - (intOf z).toNat)
            case atStart => exact ⟨0, Nat.zero_le _, rfl, fun j _ h => absurd h (Nat.not_lt_zero _), rfl⟩
            case round =>
              obtain ⟨q, hq, rfl, hcn, rfl⟩ := hrel
              obtain ⟨x0, x1⟩ := HX5.out
              by_cases hql : q < L.length
              · obtain ⟨u, hu⟩ := HSN.out q hql
                have d0 := hu.kind
                have d1 := hu.lit
                have d2 := hu.ins
                have HU := hid hu
                have HIN := hid (ins_lt HFT.out hql)
                have hle := hu.len
                have zq : (0 : Int) ≤ (q : Int) ∧ (q : Int) < (L.length : Int) := by omega
                have HCN := hid (show (L[q].kind != 4 || decide (cntT (bsOf (has s1) L) L[q].ins ≤ 1)) = true → ∀ j (hj : j < L.length), j < q + 1 → (L[j].kind != 4 || decide (cntT (bsOf (has s1) L) L[j].ins ≤ 1)) = true from fun h j hj hlt => by
                  by_cases e : j = q
                  · subst e; exact h
                  · exact hcn.out j hj (by omega))
                have HBD := hid (show L[q].kind = 4 → 1 < cntT (bsOf (has s1) L) L[q].ins → detB L = false from fun h1 h2 => det_not HV.out (orOk_not (A := has s1) hql h1 h2))
                clear hu hcn
                generalize hxx : L[q] = x at *
                obtain ⟨xk, xl, xi⟩ := x
                obtain ⟨p2, c2, e2, hdrop⟩ := HU.out.ints
                subst e2
                clear hdrop hxx
                simp only at HIN HCN HBD hle
                by_cases k4 : xk = 4
                · subst k4
                  go_wp2_with fail
                  obtain ⟨wv, hwv⟩ : ∃ wv : World, wv = wr := ⟨_, rfl⟩
                  subst hwv
                  go_loopw [10, 11] (fun y z wq => ∃ (j : Nat), j ≤ xi.length ∧ z = .int .i64 j ∧ y = .int .i64 (cntT (bsOf (has s1) L) (xi.take j) : Nat) ∧ wq = wv) (fun _ z _ => xi.length - (intOf z).toNat)
                  case atStart => exact ⟨0, Nat.zero_le _, rfl, rfl, rfl⟩
                  case round =>
                    obtain ⟨j, hj, rfl, rfl, rfl⟩ := hrel
                    by_cases hjl : j < xi.length
                    · obtain ⟨p3, c3, e3, h3⟩ := show IntsAt wr (.slice p2 xi.length c2) xi from HU.out.ints
                      injection e3 with e1 e4 e2
                      clear e4
                      subst e1; subst e2
                      obtain ⟨b2, o2, rfl, hc⟩ := h3.resolve_left (by intro e; rw [e] at hjl; simp at hjl)
                      have hcj := hc j hjl
                      rw [List.getElem?_eq_getElem hjl, Option.getD_some] at hcj
                      have hin := HIN.out _ (List.getElem_mem hjl)
                      have HCS := hid (cntT_snoc (bsOf (has s1) L) xi j hjl)
                      obtain ⟨u, hu⟩ : ∃ u : Nat, xi[j] = (u : Int) := ⟨xi[j].toNat, by omega⟩
                      rw [hu] at hcj hin HCS
                      have zj : (0 : Int) ≤ (j : Int) ∧ (j : Int) < (xi.length : Int) := by omega
                      have zjn : (j : Int) < (xi.length : Int) := by omega
                      have zu : (0 : Int) ≤ (u : Int) ∧ (u : Int) < (L.length : Int) := by omega
                      have hul : u < L.length := by omega
                      obtain ⟨t, ht, y0, _⟩ := HR5.out.getB u (by rw [bsOf_length]; exact hul)
                      rw [ht] at HCS
                      have hcl := cntT_le (bsOf (has s1) L) (xi.take j)
                      rw [List.length_take] at hcl
                      obtain ⟨cc, hcc⟩ : ∃ cc, cc = cntT (bsOf (has s1) L) (xi.take j) := ⟨_, rfl⟩
                      rw [← hcc] at HCS hcl ⊢
                      clear h3 hc hin hu ht hcc
                      cases t
                      · have HC2 := hid (HCS.out.trans (by rw [if_neg (by simp), Nat.add_zero]))
                        go_wp2_with fail
                        go_roundw
                        case rel => exact ⟨j + 1, by omega, by go_num, by rw [HC2.out], trivial⟩
                        case measure => simp [intOf]; omega
                      · have HC2 := hid (HCS.out.trans (by rw [if_pos rfl]))
                        go_wp2_with fail
                        go_roundw
                        case rel => exact ⟨j + 1, by omega, by go_num, by rw [HC2.out]; go_num, trivial⟩
                        case measure => simp [intOf]; omega
                    · obtain rfl : j = xi.length := by omega
                      have hcl := cntT_le (bsOf (has s1) L) xi
                      rw [List.take_length]
                      obtain ⟨cc, hcc⟩ : ∃ cc, cc = cntT (bsOf (has s1) L) xi := ⟨_, rfl⟩
                      rw [← hcc] at HCN HBD hcl ⊢
                      clear hcc
                      by_cases h1 : 1 < (cc : Int)
                      · have HF := hid (HBD.out (by first | rfl | trivial) (by omega))
                        go_wp2_with fail
                        go_ret2
                        exact ⟨by unfold detYes; rw [HNO.out, HF.out]; rfl, HB3.out.trans (HB5.out.mono HB3.out.size)⟩
                      · have HC2 := hid (HCN.out (by rw [decide_eq_true (show cc ≤ 1 by omega), Bool.or_true]))
                        go_wp2_with fail
                        go_roundw
                        case rel => exact ⟨q + 1, by omega, by go_num, HC2.out, trivial⟩
                        case measure => simp [intOf]; omega
                · have HC2 := hid (HCN.out (by simp [k4]))
                  have k4' : (xk == 4) = false := by simp [k4]
                  clear k4
                  by_cases hxl : (0 : Int) < (xi.length : Int)
                  · go_wp2_with fail
                    go_rounds 1
                    go_wp2_with fail
                    go_roundw
                    case rel => exact ⟨q + 1, by omega, by go_num, HC2.out, trivial⟩
                    case measure => simp [intOf]; omega
                  · go_wp2_with fail
                    go_rounds 1
                    go_wp2_with fail
                    go_roundw
                    case rel => exact ⟨q + 1, by omega, by go_num, HC2.out, trivial⟩
                    case measure => simp [intOf]; omega
              · obtain rfl : q = L.length := by omega
                have HO := hid (orOk_of (A := has s1) (L := L) fun i hi => hcn.out i hi hi)
                clear hcn
                go_wp2_with fail
                go_roundw
                case rel => exact ⟨k + 1, by omega, by go_num, fun j hj => by
                  by_cases e : j = k
                  · subst e; rw [← HA1.out]; exact HO.out
                  · exact HOK.out j (by omega), HB5.out⟩
                case measure => simp [intOf]; omega
      · obtain rfl : k = N := by omega
        have HF := hid (HDT.out hok.out)
        have HBZ := hid (HB3.out.trans (hbr.out.mono HB3.out.size))
        clear hok hbr
        go_wp2_with fail
        go_ret2
        exact ⟨by unfold detYes; rw [HNO.out, HF.out]; rfl, HBZ.out⟩
end Go.Proofs.YtpdbfbjfodckgaaDoor
