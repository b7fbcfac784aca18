/- Walks: the nodes of a net in sixty-four assignments at once. -/
import Derived.Test.YtpdbfbjfodckgaaDoorHDec
import Derived.Test.YtpdbfbjfodckgaaDoorHDetP
import Derived.Laws.Unary
namespace Go.Proofs.YtpdbfbjfodckgaaDoor
open Go.RowKit
attribute [local go_sem] bits_or bits_and

/-- The block g holds the words M. -/
def URow (w : World) (g : Nat) (M : List WD) : Prop := ∃ cur T, w.heap[g]? = some (.cells cur T (0, 0)) ∧ M.length ≤ cur.size ∧ ∀ i (h : i < M.length), cur[i]? = some (.int .u64 (M[i].toNat : Int))
theorem URow.lt {w : World} {g : Nat} {M : List WD} (h : URow w g M) : g < w.heap.size := by
  obtain ⟨cur, T, h, _⟩ := h; exact (Array.getElem?_eq_some_iff.1 h).1
theorem URow.at {w : World} {g : Nat} {M : List WD} (h : URow w g M) (i : Nat) (hi : i < M.length) : w.cell? ⟨g, i, none⟩ = some (.int .u64 (M[i].toNat : Int)) ∧ w.frozen? ⟨g, i, none⟩ = false := by
  obtain ⟨cur, T, h1, h2, h3⟩ := h
  simp [World.cell?, World.frozen?, h1, h3 i hi]
theorem URow.same {w w' : World} {g : Nat} {M : List WD} (h : URow w g M) (e : w'.heap[g]? = w.heap[g]?) : URow w' g M := by
  obtain ⟨cur, T, h1, h2⟩ := h; exact ⟨cur, T, e.trans h1, h2⟩
theorem URow.below {w w' : World} {g B : Nat} {M : List WD} (h : URow w g M) (hb : Below B w w') (hB : g < B) : URow w' g M := h.same (hb.block g hB)
theorem URow.kept {w w' : World} {g : Nat} {M : List WD} {row : Option Nat} (h : URow w g M) (hg : w.grownBy w' row) (hne : some g ≠ row) : URow w' g M := h.same (hg.block g h.lt hne)
theorem URow.alloc {w : World} {g : Nat} {M : List WD} (h : URow w g M) (o : Obj) : URow (w.alloc o) g M := h.same (Below.heap_alloc _ _ _ h.lt)
theorem URow.store {w : World} {g : Nat} {M : List WD} (h : URow w g M) (i : Nat) (_hi : i < M.length) (x : WD) : URow (w.setCell ⟨g, i, none⟩ (.int .u64 (x.toNat : Int))) g (M.set i x) := by
  obtain ⟨cur, T, h1, h2, h3⟩ := h
  refine ⟨cur.setIfInBounds i (.int .u64 (x.toNat : Int)), T, by simp [World.setCell, Array.getElem?_modify, h1], by simpa using h2, fun k hk => ?_⟩
  rw [List.length_set] at hk
  rw [Array.getElem?_setIfInBounds, List.getElem_set]
  by_cases e : i = k
  · subst e
    rw [if_pos rfl, if_pos (by omega), if_pos rfl]
  · rw [if_neg e, if_neg e, h3 k hk]
/-- The array p holds the words of the variables. -/
def WArr (w : World) (p : Nat) (W : Int → WD) : Prop := ∃ cur T, w.heap[p]? = some (.cells cur T (0, 0)) ∧ cur.size = 129 ∧ ∀ i, i < 129 → cur[i]? = some (.int .u64 ((W (i : Int)).toNat : Int))
theorem WArr.lt {w : World} {p : Nat} {W : Int → WD} (h : WArr w p W) : p < w.heap.size := by
  obtain ⟨cur, T, h, _⟩ := h; exact (Array.getElem?_eq_some_iff.1 h).1
theorem WArr.get {w : World} {p : Nat} {W : Int → WD} (h : WArr w p W) (i : Nat) (hi : i < 129) : w.cell? ⟨p, i, none⟩ = some (.int .u64 ((W (i : Int)).toNat : Int)) ∧ w.frozen? ⟨p, i, none⟩ = false := by
  obtain ⟨cur, T, h1, h2, h3⟩ := h
  simp [World.cell?, World.frozen?, h1, h3 i hi]
theorem WArr.same {w w' : World} {p : Nat} {W : Int → WD} (h : WArr w p W) (e : w'.heap[p]? = w.heap[p]?) : WArr w' p W := by
  obtain ⟨cur, T, h1, h2⟩ := h; exact ⟨cur, T, e.trans h1, h2⟩
theorem WArr.below {w w' : World} {p B : Nat} {W : Int → WD} (h : WArr w p W) (hb : Below B w w') (hB : p < B) : WArr w' p W := h.same (hb.block p hB)
theorem WArr.kept {w w' : World} {p : Nat} {W : Int → WD} {row : Option Nat} (h : WArr w p W) (hg : w.grownBy w' row) (hne : some p ≠ row) : WArr w' p W := h.same (hg.block p h.lt hne)
theorem WArr.store {w : World} {p : Nat} {W : Int → WD} (h : WArr w p W) (i : Nat) (hi : i < 129) (x : WD) : WArr (w.setCell ⟨p, i, none⟩ (.int .u64 (x.toNat : Int))) p (fun v => if v = (i : Int) then x else W v) := by
  obtain ⟨cur, T, h1, h2, h3⟩ := h
  refine ⟨cur.setIfInBounds i (.int .u64 (x.toNat : Int)), T, by simp [World.setCell, Array.getElem?_modify, h1], by simpa using h2, fun k hk => ?_⟩
  rw [Array.getElem?_setIfInBounds]
  by_cases e : i = k
  · subst e
    rw [if_pos rfl, if_pos (by omega)]
    simp only [if_true]
  · have e2 : ¬ (k : Int) = (i : Int) := by omega
    rw [if_neg e, h3 k hk]
    simp only [if_neg e2]
theorem bits_not_u64 (a : WD) : bits .xor .u64 (18446744073709551615 : Int) (a.toNat : Int) = ((not64 a).toNat : Int) := by
  show IntKind.u64.wrap ((BitVec.ofInt 64 _ ^^^ BitVec.ofInt 64 _).toNat : Int) = _
  have h1 : BitVec.ofInt 64 18446744073709551615 = BitVec.allOnes 64 := by decide
  rw [bv_of, h1, BitVec.allOnes_xor, wrap_u64_bv]; rfl
theorem set_take_scan {α β : Type} {f : List β → α → β} {l : List α} {M : List β} {k : Nat} (h : k < l.length) (hM : M.length = l.length) (ht : M.take k = scanF f (l.take k)) (x : β) (hx : x = f (scanF f (l.take k)) l[k]) : (M.set k x).take (k + 1) = scanF f (l.take (k + 1)) := by
  rw [scanF_take_succ f l k h, List.take_succ_eq_append_getElem (by rw [List.length_set]; omega), List.take_set_of_le (Nat.le_refl _), ht, List.getElem_set_self, hx]

theorem wNode_low {n : Int} {L : List NodeT} (W : Int → WD) (h : formedTo n L L.length) {k : Nat} (hk : k < L.length) : wNode W (wsOf W (L.take k)) L[k] = wNode W (wsOf W L) L[k] := by
  have hg := wsOf_get W h hk
  rw [wOf_nat _ k (by rw [wsOf_length]; exact hk)] at hg
  rw [← hg]
  exact (scanF_get (wNode W) L k hk).symm
theorem wOf_low {W : Int → WD} {L : List NodeT} {M : List WD} {k : Nat} (hk : k < L.length) (ht : M.take k = wsOf W (L.take k)) (i : Int) (hi : i < (k : Int)) : wOf M i = wOf (wsOf W L) i := by
  rw [← wOf_take M k i hi, ht]
  show wOf (scanF (wNode W) (L.take k)) i = _
  rw [← scanF_take (wNode W) L k (by omega)]
  exact wOf_take _ k i hi
theorem grownBy_set1 (w : World) (g i : Nat) (x : Value) : w.grownBy (w.setCell ⟨g, i, none⟩ x) (some g) :=
  ⟨rfl, rfl, rfl, by simp [World.setCell], fun k _ hne => by
    rw [Below.heap_setCell _ _ _ _ (by intro e; exact hne (by rw [e]))]⟩
theorem nonzero64 {x : WD} (h : (x == 0) = false) : (((x.toNat : Nat) : Int) != 0) = true ∧ ¬ ((x.toNat : Nat) : Int) = 0 := by
  have h0 : x.toNat ≠ 0 := fun e => by rw [BitVec.eq_of_toNat_eq (y := 0) e] at h; simp at h
  exact ⟨by simp; omega, by omega⟩
theorem zero64 {x : WD} (h : (x == 0) = true) : (((x.toNat : Nat) : Int) != 0) = false ∧ ((x.toNat : Nat) : Int) = 0 := by
  have h0 : x = 0 := by simpa using h
  subst h0
  exact ⟨by decide, by decide⟩
theorem ones64_int : ((ones64.toNat : Nat) : Int) = 18446744073709551615 := by decide
theorem max_u64 : (if IntKind.u64.signed = true then (-1 : Int) else IntKind.u64.max) = 18446744073709551615 := by decide
theorem not_zero_u64 : bits .xor .u64 (18446744073709551615 : Int) 0 = ((ones64.toNat : Nat) : Int) := bits_not_u64 0
attribute [local go_sem] max_u64 not_zero_u64 bits_not_u64
theorem grown_below {w w' : World} (hb : Below w.heap.size w w') (row : Option Nat) : w.grownBy w' row := ⟨hb.os, hb.tape, hb.output, hb.size, fun k hk _ => hb.block k hk⟩
/-- What the walk of the nodes in sixty-four assignments leaves. -/
def SepPost (W : Int → WD) (L : List NodeT) (gv : Nat) (w : World) (e : Ending) (w' : World) : Prop :=
  e = .returned (.bool (sepB W L)) ∧ w.grownBy w' (some gv) ∧ ∃ M : List WD, M.length = L.length ∧ URow w' gv M
set_option maxRecDepth 100000 in
set_option maxHeartbeats 4000000 in
theorem separate_c (n : Int) (L : List NodeT) (v : Value) (w0 w : World) (pw gv cv : Nat) (W : Int → WD) (M : List WD) (hN : NodesAt w0 v L) (hft : formedTo n L L.length) (hL : L.length ≤ 65536)
    (hb : Below w0.heap.size w0 w) (hgv : w0.heap.size ≤ gv) (hV : URow w gv M) (hM : M.length = L.length) (hW : WArr w pw W) (hne : pw ≠ gv) :
    Calls Tryd.prog 58 #[.agg #[.int .i64 n, v], .pointer (some ⟨pw, 0, none⟩), .slice (some ⟨gv, 0, none⟩) L.length cv] w (SepPost W L gv w) := by
  have hgl := hV.lt
  have hwl := hW.lt
  have HG1 := hid (World.grownBy_alloc w (.cells #[.int .i64 n, v] 24) (some gv))
  obtain ⟨p, c, rfl, h⟩ := hN
  obtain ⟨x0, x1⟩ := NetVar.new w n (.slice p L.length c) 24
  have HN := hid h
  have HFT := hid hft
  have HB := hid hb
  have HV := hid hV
  have HM := hid hM
  have HW := hid hW
  have HGV := hid hgv
  have HNE := hid hne
  clear h hft hb hV hW hgv hne hM
  go_enter Tryd.func58, Tryd.ntmps58
  go_wp2_with fail
  go_loopw [17] (fun z wr => ∃ (k : Nat), k ≤ L.length ∧ z = .int .i64 k ∧ Hid (∃ M : List WD, M.length = L.length ∧ M.take k = wsOf W (L.take k) ∧ URow wr gv M) ∧ Hid (w.grownBy wr (some gv)) ∧ Hid (∀ j (hj : j < L.length), j < k → (L[j].kind != 4 || wdisj (wsOf W L) 0 L[j].ins) = true)) (fun z _ => L.length - (intOf z).toNat)
  case atStart => exact ⟨0, Nat.zero_le _, rfl, ⟨M, HM.out, rfl, HV.out.alloc _⟩, HG1.out, fun j _ h => absurd h (Nat.not_lt_zero _)⟩
  case round =>
    clear HV HG1 x0 x1
    obtain ⟨k, hk, rfl, hrow, hgr, hok⟩ := hrel
    by_cases hkl : k < L.length
    · obtain ⟨b, off, rfl, hN⟩ := HN.out.resolve_left (by intro e; rw [e] at hkl; simp at hkl)
      obtain ⟨u, hu⟩ := hN k hkl
      have hbw : Below w0.heap.size w0 wr := HB.out.grown hgr.out HB.out.size (fun k e => by cases e; exact HGV.out)
      have hur := hu.below hbw
      have d0 := hur.kind
      have d1 := hur.lit
      have d2 := hur.ins
      have HU := hid hur
      have HIN := hid (ins_lt HFT.out hkl)
      have hle := hur.len
      have zk : (0 : Int) ≤ (k : Int) ∧ (k : Int) < (L.length : Int) := by omega
      have HOK := hid (show (L[k].kind != 4 || wdisj (wsOf W L) 0 L[k].ins) = true → ∀ j (hj : j < L.length), j < k + 1 → (L[j].kind != 4 || wdisj (wsOf W L) 0 L[j].ins) = true from fun h j hj hlt => by
        by_cases e : j = k
        · subst e; exact h
        · exact hok.out j hj (by omega))
      have HNO := hid (show (L[k].kind != 4 || wdisj (wsOf W L) 0 L[k].ins) = false → sepB W L = false from fun h => all_not hkl h)
      obtain ⟨M2, hM2, ht2, hrow2⟩ := hrow.out
      have HWR := hid (HW.out.kept hgr.out (by intro e; injection e with e; exact HNE.out e))
      have HST := hid (show ∀ x, x = wNode W (wsOf W L) L[k] → (M2.set k x).take (k + 1) = wsOf W (L.take (k + 1)) from fun x hx => set_take_scan hkl hM2 ht2 x (hx.trans (wNode_low W HFT.out hkl).symm))
      have HVL := hid (wOf_low hkl ht2)
      have HR2 := hid hrow2
      have HM2 := hid hM2
      have HGR := hid hgr.out
      have hgw := hrow2.lt
      clear hu hur hbw hok hrow hgr ht2 hrow2 hM2 hN
      generalize hxx : L[k] = x at *
      obtain ⟨xk, xl, xi⟩ := x
      obtain ⟨p2, c2, e2, hdrop⟩ := HU.out.ints
      subst e2
      clear hdrop hxx
      simp only at d0 d1 hle HIN HOK HNO HST
      obtain ⟨n0, n1, n2⟩ := (Box3.new wr 39 (.int .i64 xk) (.int .i64 xl) (.slice p2 xi.length c2)).cells
      have HBA := hid ((Below.refl _ wr).alloc (Nat.le_refl _) (.cells #[.int .i64 xk, .int .i64 xl, .slice p2 xi.length c2] 39))
      obtain ⟨y0, y1⟩ := ((HR2.out.alloc (.cells #[.int .i64 xk, .int .i64 xl, .slice p2 xi.length c2] 39)).at k (by rw [HM2.out]; exact hkl))
      have HFIN := hid (show ∀ (w6 : World) (x : WD), x = wNode W (wsOf W L) ⟨xk, xl, xi⟩ → URow w6 gv (M2.set k x) → wr.grownBy w6 (some gv) → (∃ M : List WD, M.length = L.length ∧ M.take (k + 1) = wsOf W (L.take (k + 1)) ∧ URow w6 gv M) ∧ w.grownBy w6 (some gv) from fun w6 x h1 h2 h3 => ⟨⟨M2.set k x, by rw [List.length_set]; exact HM2.out, HST.out x h1, h2⟩, HGR.out.trans h3⟩)
      have HGA := hid (World.grownBy_alloc wr (.cells #[.int .i64 xk, .int .i64 xl, .slice p2 xi.length c2] 39) (some gv))
      have HRA := hid (HR2.out.alloc (.cells #[.int .i64 xk, .int .i64 xl, .slice p2 xi.length c2] 39))
      have hlk : k < M2.length := by rw [HM2.out]; exact hkl
      by_cases k1 : xk = 1
      · subst k1
        have HO := hid (HOK.out rfl)
        go_wp2_with fail
        go_roundw
        case rel =>
          obtain ⟨f1, f2⟩ := HFIN.out ((wr.setCell ⟨gv, k, none⟩ (.int .u64 (ones64.toNat : Int))).alloc (.cells #[.int .i64 1, .int .i64 xl, .slice p2 xi.length c2] 39)) ones64 rfl ((HR2.out.store k hlk ones64).alloc _) ((grownBy_set1 wr gv k _).trans (World.grownBy_alloc _ _ _))
          exact ⟨k + 1, by omega, by go_num, f1, f2, HO.out⟩
        case measure => simp [intOf]; omega
      · by_cases k2 : xk = 2
        · subst k2
          have HO := hid (HOK.out rfl)
          obtain ⟨q, hq⟩ : ∃ q : Nat, litVar xl = (q : Int) := ⟨(litVar xl).toNat, by have := litVar_range xl; omega⟩
          have hq2 : q < 129 := by have := litVar_range xl; omega
          have zq : (0 : Int) ≤ (q : Int) ∧ (q : Int) < 129 := by omega
          obtain ⟨z0, _⟩ := HWR.out.get q hq2
          obtain ⟨t, ht⟩ : ∃ t, t = W (q : Int) := ⟨_, rfl⟩
          rw [← ht] at z0
          have HLV := hid (show ∀ w' : World, Calls Tryd.prog 56 #[.int .i64 xl] w' fun e w'' => e = .returned (.int .i64 (q : Int)) ∧ w'' = w' from fun w' => by rw [← hq]; exact (litVar_c xl w').mono fun _ _ h => ⟨h.1, h.2.symm⟩)
          have HQ := hid hq
          have HT := hid ht
          clear hq ht
          have hpw := HWR.out.lt
          go_wp2_with fail
          go_quiet ((go_at_call 56; exact Calls.quiet_of_same (HLV.out _)))
          have HB5 := hid (below_drewN HBA.out nq)
          have HR5 := hid (show URow ((wr.alloc (.cells #[.int .i64 2, .int .i64 xl, .slice p2 xi.length c2] 39)).drewN nq) gv M2 from HR2.out.below HB5.out hgw)
          by_cases hl : xl < 0
          · have HX := hid (show not64 t = wNode W (wsOf W L) ⟨2, xl, xi⟩ from by unfold wNode; simp only; rw [if_neg (by omega), if_pos trivial, if_pos hl, HQ.out, HT.out])
            go_wp2_with fail
            go_roundw
            case rel =>
              obtain ⟨f1, f2⟩ := HFIN.out _ (not64 t) HX.out (HR5.out.store k hlk (not64 t)) ((grown_below HB5.out _).trans (grownBy_set1 _ gv k _))
              exact ⟨k + 1, by omega, by go_num, f1, f2, HO.out⟩
            case measure => simp [intOf]; omega
          · have HX := hid (show t = wNode W (wsOf W L) ⟨2, xl, xi⟩ from by unfold wNode; simp only; rw [if_neg (by omega), if_pos trivial, if_neg hl, HQ.out, HT.out])
            go_wp2_with fail
            go_roundw
            case rel =>
              obtain ⟨f1, f2⟩ := HFIN.out _ t HX.out (HR5.out.store k hlk t) ((grown_below HB5.out _).trans (grownBy_set1 _ gv k _))
              exact ⟨k + 1, by omega, by go_num, f1, f2, HO.out⟩
            case measure => simp [intOf]; omega
        · have hII := HU.out.ints
          by_cases k3 : xk = 3
          · subst k3
            have HO := hid (HOK.out rfl)
            have HB5 := hid (HBA.out)
            go_wp2_with fail
            generalize wr.alloc (.cells #[.int .i64 3, .int .i64 xl, .slice p2 xi.length c2] 39) = w5 at *
            go_loopw [9, 49] (fun y z wq => ∃ (j : Nat), j ≤ xi.length ∧ y = .int .u64 ((wAnd (wsOf W L) ones64 (xi.take j)).toNat : Int) ∧ z = .int .i64 j ∧ wq = w5) (fun _ z _ => xi.length - (intOf z).toNat)
            case atStart => exact ⟨0, Nat.zero_le _, rfl, rfl, rfl⟩
            case round =>
              obtain ⟨j, hj, rfl, rfl, rfl⟩ := hrel
              by_cases hjl : j < xi.length
              · obtain ⟨p3, c3, e3, h3⟩ := hII.below HB5.out
                injection e3 with e1 _ e2
                subst e1; subst e2
                obtain ⟨b2, o2, rfl, hc⟩ := h3.resolve_left (by intro e; rw [e] at hjl; simp at hjl)
                have hcj := hc j hjl
                rw [List.getElem?_eq_getElem hjl, Option.getD_some] at hcj
                have hin := HIN.out _ (List.getElem_mem hjl)
                have HOR := hid (wAnd_snoc (wsOf W L) ones64 (xi.take j) xi[j])
                rw [← List.take_succ_eq_append_getElem hjl] at HOR
                have hvl := HVL.out _ hin.2
                obtain ⟨q, hq⟩ : ∃ q : Nat, xi[j] = (q : Int) := ⟨xi[j].toNat, by omega⟩
                rw [hq] at hcj hin HOR hvl
                have hql : q < M2.length := by rw [HM2.out]; omega
                rw [wOf_nat _ q hql] at hvl
                rw [← hvl] at HOR
                have hcv := (HRA.out.at q hql).1
                generalize M2[q] = t at *
                generalize wAnd (wsOf W L) ones64 (xi.take j) = s1 at *
                have zj : (0 : Int) ≤ (j : Int) ∧ (j : Int) < (xi.length : Int) := by omega
                have zu : (0 : Int) ≤ (q : Int) ∧ (q : Int) < (L.length : Int) := by omega
                clear hvl hin hq hc h3 hql
                go_wp2_with fail
                go_roundw
                case rel => exact ⟨j + 1, by omega, by rw [HOR.out], by go_num, by first | rfl | trivial⟩
                case measure => simp [intOf]; omega
              · obtain rfl : j = xi.length := by omega
                rw [List.take_length]
                have HX := hid (show wAnd (wsOf W L) ones64 xi = wNode W (wsOf W L) ⟨3, xl, xi⟩ from rfl)
                generalize wAnd (wsOf W L) ones64 xi = s1 at *
                clear hII
                go_wp2_with fail
                go_roundw
                case rel =>
                  obtain ⟨f1, f2⟩ := HFIN.out _ s1 HX.out (HRA.out.store k hlk s1) ((grown_below HB5.out _).trans (grownBy_set1 _ gv k _))
                  exact ⟨k + 1, by omega, by go_num, f1, f2, HO.out⟩
                case measure => simp [intOf]; omega
          · by_cases k4 : xk = 4
            · subst k4
              have HB5 := hid (HBA.out)
              go_wp2_with fail
              generalize wr.alloc (.cells #[.int .i64 4, .int .i64 xl, .slice p2 xi.length c2] 39) = w5 at *
              go_loopw [9, 65] (fun y z wq => ∃ (j : Nat), j ≤ xi.length ∧ y = .int .u64 ((wOr (wsOf W L) 0 (xi.take j)).toNat : Int) ∧ z = .int .i64 j ∧ wq = w5 ∧ Hid (∀ i (hi : i < xi.length), i < j → (and64 (wOr (wsOf W L) 0 (xi.take i)) (wOf (wsOf W L) xi[i]) == 0) = true)) (fun _ z _ => xi.length - (intOf z).toNat)
              case atStart => exact ⟨0, Nat.zero_le _, rfl, rfl, rfl, fun i _ h => absurd h (Nat.not_lt_zero _)⟩
              case round =>
                obtain ⟨j, hj, rfl, rfl, rfl, hdj⟩ := hrel
                by_cases hjl : j < xi.length
                · obtain ⟨p3, c3, e3, h3⟩ := hII.below HB5.out
                  injection e3 with e1 _ e2
                  subst e1; subst e2
                  obtain ⟨b2, o2, rfl, hc⟩ := h3.resolve_left (by intro e; rw [e] at hjl; simp at hjl)
                  have hcj := hc j hjl
                  rw [List.getElem?_eq_getElem hjl, Option.getD_some] at hcj
                  have hin := HIN.out _ (List.getElem_mem hjl)
                  have HOR := hid (wOr_snoc (wsOf W L) 0 (xi.take j) xi[j])
                  rw [← List.take_succ_eq_append_getElem hjl] at HOR
                  have HDJ := hid (show (and64 (wOr (wsOf W L) 0 (xi.take j)) (wOf (wsOf W L) xi[j]) == 0) = true → ∀ i (hi : i < xi.length), i < j + 1 → (and64 (wOr (wsOf W L) 0 (xi.take i)) (wOf (wsOf W L) xi[i]) == 0) = true from fun h i hi hlt => by
                    by_cases e : i = j
                    · subst e; exact h
                    · exact hdj.out i hi (by omega))
                  have HBD := hid (fun h => HNO.out (show ((4 : Int) != 4 || wdisj (wsOf W L) 0 xi) = false from by rw [wdisj_take_bad xi 0 j hjl h]; rfl))
                  have hvl := HVL.out _ hin.2
                  obtain ⟨q, hq⟩ : ∃ q : Nat, xi[j] = (q : Int) := ⟨xi[j].toNat, by omega⟩
                  rw [hq] at hcj hin HOR hvl HDJ HBD
                  have hql : q < M2.length := by rw [HM2.out]; omega
                  rw [wOf_nat _ q hql] at hvl
                  rw [← hvl] at HOR HDJ HBD
                  have hcv := (HRA.out.at q hql).1
                  generalize M2[q] = t at *
                  obtain ⟨s1, hs1⟩ : ∃ s1, s1 = wOr (wsOf W L) 0 (xi.take j) := ⟨_, rfl⟩
                  rw [← hs1] at HOR HDJ HBD ⊢
                  have zj : (0 : Int) ≤ (j : Int) ∧ (j : Int) < (xi.length : Int) := by omega
                  have zu : (0 : Int) ≤ (q : Int) ∧ (q : Int) < (L.length : Int) := by omega
                  clear hvl hin hq hc h3 hql hs1 hdj
                  cases hz : (and64 s1 t == 0) with
                  | false =>
                    have HS := hid (HBD.out hz)
                    obtain ⟨m1, m2⟩ := nonzero64 hz
                    have HGE := hid (HGR.out.trans (grown_below HB5.out _))
                    clear hz HDJ HBD HOR
                    go_wp2_with fail
                    go_ret
                    exact ⟨by rw [HS.out]; rfl, HGE.out, M2, HM2.out, HRA.out⟩
                  | true =>
                    have HS := hid (HDJ.out hz)
                    obtain ⟨m1, m2⟩ := zero64 hz
                    clear hz HDJ HBD
                    go_wp2_with fail
                    go_roundw
                    case rel => exact ⟨j + 1, by omega, by rw [HOR.out], by go_num, by first | rfl | trivial, HS.out⟩
                    case measure => simp [intOf]; omega
                · obtain rfl : j = xi.length := by omega
                  rw [List.take_length]
                  have HX := hid (show wOr (wsOf W L) 0 xi = wNode W (wsOf W L) ⟨4, xl, xi⟩ from rfl)
                  have HO := hid (HOK.out (show ((4 : Int) != 4 || wdisj (wsOf W L) 0 xi) = true from by rw [wdisj_all xi 0 fun i hi => hdj.out i hi hi]; rfl))
                  generalize wOr (wsOf W L) 0 xi = s1 at *
                  clear hII hdj
                  go_wp2_with fail
                  go_roundw
                  case rel =>
                    obtain ⟨f1, f2⟩ := HFIN.out _ s1 HX.out (HRA.out.store k hlk s1) ((grown_below HB5.out _).trans (grownBy_set1 _ gv k _))
                    exact ⟨k + 1, by omega, by go_num, f1, f2, HO.out⟩
                  case measure => simp [intOf]; omega
            · have HO := hid (HOK.out (by have : (xk != 4) = true := by simp [k4]
                                          rw [this]; rfl))
              have HX := hid (show (0 : WD) = wNode W (wsOf W L) ⟨xk, xl, xi⟩ from by unfold wNode; simp only; rw [if_neg k1, if_neg k2, if_neg k3, if_neg k4])
              clear hII
              go_wp2_with fail
              go_roundw
              case rel =>
                obtain ⟨f1, f2⟩ := HFIN.out ((wr.setCell ⟨gv, k, none⟩ (.int .u64 ((0 : WD).toNat : Int))).alloc (.cells #[.int .i64 xk, .int .i64 xl, .slice p2 xi.length c2] 39)) 0 HX.out ((HR2.out.store k hlk 0).alloc _) ((grownBy_set1 wr gv k _).trans (World.grownBy_alloc _ _ _))
                exact ⟨k + 1, by omega, by go_num, f1, f2, HO.out⟩
              case measure => simp [intOf]; omega
    · obtain rfl : k = L.length := by omega
      have HT := hid (show sepB W L = true from all_to fun k hk => hok.out k hk hk)
      obtain ⟨M2, hM2, _, hrow2⟩ := hrow.out
      have HR := hid hrow2
      have HM2 := hid hM2
      have HGR := hid hgr.out
      clear hok hrow hgr hrow2 hM2
      go_wp2_with fail
      go_ret
      exact ⟨by rw [HT.out]; rfl, HGR.out, M2, HM2.out, HR.out⟩
end Go.Proofs.YtpdbfbjfodckgaaDoor
