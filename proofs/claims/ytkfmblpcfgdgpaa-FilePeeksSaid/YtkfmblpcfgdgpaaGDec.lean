/- Walks: the reference's Decode. -/
import Derived.Test.YtkfmblpcfgdgpaaGNode
import Derived.Test.YtkfmblpcfgdgpaaGBeg
import Derived.Test.YtkfmblpcfgdgpaaFDec3
import Derived.Test.YtkfmblpcfgdgpaaFRef3
import Derived.Test.YtkfmblpcfgdgpaaFWritesW
namespace Go.Proofs.Ytkfmblpcfgdgpaa
open Go.RowKit

theorem results_rdec {tmps : Array Value} {w : World} {pn : Nat} {n e : Int} {v : Value} (ht : tmps.getD 2 undef = .pointer (some ⟨pn, 0, none⟩)) (hs : tmps.getD 3 undef = .int .i64 e) (h : w.heap[pn]? = some (.cells #[.int .i64 n, v] 24 (0, 0))) :
    (results Try.f21 tmps).run Try.prog w = .ok (.tuple #[.agg #[.int .i64 n, v], .int .i64 e]) w := by
  obtain ⟨⟨c0, c1⟩, _⟩ := box2 h
  simp only [Array.getD_eq_getD_getElem?] at ht hs
  simp [results, Try.results21, ht, hs, go_sem, c0, c1]
theorem net_set {B : Nat} {w w2 : World} {pn : Nat} {a d : Value} {t : TypeId} (hb : w2.heap[pn]? = some (.cells #[a, d] t (0, 0))) (hB : Below B w w2) (hp : B ≤ pn) (x y : Value) :
    ((w2.setCell ⟨pn, 0, none⟩ x).setCell ⟨pn, 1, none⟩ y).heap[pn]? = some (.cells #[x, y] t (0, 0)) ∧ Below B w ((w2.setCell ⟨pn, 0, none⟩ x).setCell ⟨pn, 1, none⟩ y) := by
  refine ⟨?_, (hB.setCell (p := ⟨pn, 0, none⟩) hp x).setCell (p := ⟨pn, 1, none⟩) hp y⟩
  have h1 := block_set hb x 0
  have h2 := block_set h1 y 1
  simpa using h2
/-- What stands in a round. -/
structure RDecSt (w wr : World) (B px pn : Nat) (vb : Value) (bo : List UInt8) (nn m j aj : Nat) (v : Value) (L : List NodeT) (vs : List Value) (bad : Bool) : Prop where
  res : wr.heap[w.heap.size]? = some (.cells #[.int .i64 0, .slice none 0 0] 24 (0, 0))
  net : wr.heap[pn]? = some (.cells #[.int .i64 (nn : Int), v] 24 (0, 0))
  own : OwnNodes wr B v L vs
  len : L.length = j
  rdr : RRdr B wr px vb bo aj bad
  low : Below w.heap.size w wr
  sz : B ≤ wr.heap.size
  says : (bad = false → rdNet (bo.drop 4) = netOf (nn : Int) (prepN L (rdNodes j (m - j) (bo.drop aj)))) ∧ (bad = true → rdNet (bo.drop 4) = none)
theorem rnode_any {bo : List UInt8} {w w' : World} {e : Ending} {px j m j2 nn aj : Nat} {vb : Value} {L : List NodeT} (hp : RnodePost j aj bo px vb w e w')
    (hs : rdNet (bo.drop 4) = netOf (nn : Int) (prepN L (rdNodes j (m - j) (bo.drop aj)))) (hj : m - j = j2 + 1) (hjm : m - (j + 1) = j2) :
    ∃ a' xk xl xi y bad, e = .returned (encN ⟨xk, xl, xi⟩ y) ∧ a' ≤ bo.length ∧ RSt w w' px vb a' bad ∧ OwnInts w' w.heap.size y xi ∧ xi.length ≤ 16777216 ∧
      ((bad = false → rdNet (bo.drop 4) = netOf (nn : Int) (prepN (L ++ [⟨xk, xl, xi⟩]) (rdNodes (j + 1) (m - (j + 1)) (bo.drop a')))) ∧ (bad = true → rdNet (bo.drop 4) = none)) := by
  unfold RnodePost at hp
  rw [hj] at hs
  cases hd : rdNode j (bo.drop aj) with
  | none =>
    rw [hd] at hp
    obtain ⟨a', ⟨xk, xl, xi⟩, u, h1, h2, h3, h4, h5⟩ := hp
    refine ⟨a', xk, xl, xi, u, true, h2, h1, h3, h4, h5, fun e => (by cases e), fun _ => ?_⟩
    rw [hs, rdNodes_stop hd]; rfl
  | some q =>
    obtain ⟨⟨xk, xl, xi⟩, r⟩ := q
    rw [hd] at hp
    obtain ⟨a', u, rfl, h1, h2, h3, h4, h5⟩ := hp
    refine ⟨a', xk, xl, xi, u, false, h3, h2, h4, h5, (node_rd j _ _ _ hd).2.2.2.2.1, fun _ => ?_, fun e => by cases e⟩
    rw [hs, rdNodes_next hd, hjm]
theorem own_lens {w : World} {B : Nat} {v : Value} {L : List NodeT} {vs : List Value} (h : OwnNodes w B v L vs) : ∀ x ∈ L, x.ins.length ≤ 16777216 := by
  intro x hx
  obtain ⟨i, hi, rfl⟩ := List.getElem_of_mem hx
  obtain ⟨_, _, _, h3⟩ := h.ins i hi
  exact h3
theorem read_body {n : Int} {L : List NodeT} (h2 : ∀ x ∈ L, x.ins.length ≤ 16777216) (hv : validNet ⟨n, L⟩ = true) : (bodyOf ⟨n, L⟩).length ≤ 70368744177000 := by
  obtain ⟨⟨v1, v2, v3, v4⟩, hf⟩ := valid_from.1 hv
  have v1' : 0 ≤ n := v1
  have v2' : n ≤ 128 := v2
  have v4' : L.length ≤ 65536 := v4
  have a := headOf_len ⟨n, L⟩ (by show n.toNat < _; omega) (by show L.length < _; omega)
  have b := encFrom_len n 16777216 (by decide) L 0 (by omega) hf h2
  have c : (bodyOf ⟨n, L⟩).length = (headOf ⟨n, L⟩).length + (encFrom 0 L).length := by unfold bodyOf; simp
  omega
set_option maxRecDepth 100000 in
set_option maxHeartbeats 2000000 in
theorem rDecode_no (p : Option Addr) (c : Nat) (l : List UInt8) (w : World) (hI : BytesAt w (.slice p l.length c) l) (hl : l.length ≤ 140737488355328) (h0 : beginsNo l ≠ 0) :
    Calls Try.prog 21 #[.slice p l.length c] w (DecPost l w) := by
  have hB0 : Below w.heap.size w (w.alloc (.cells #[.int .i64 0, .slice none 0 0] 24)) := (Below.refl _ w).alloc (Nat.le_refl _) _
  by_cases hlg : 16777216 < l.length
  · have HD := hid (dec_begins (beginsNo_long hlg) (by decide))
    have hg : decide ((16777216 : Int) < (l.length : Int)) = true := decide_eq_true (by omega)
    clear hI h0
    go_enter Try.func21, Try.ntmps21
    go_wp2_with fail
    exact bodyPost_ret (results_rdec (n := 0) (v := .slice none 0 0) rfl rfl (heap_alloc_new w _)) rfl (decPost_no HD.out hB0)
  · have hb := beginsNo_head hlg
    have hh : headB l = false := by
      cases e : headB l with
      | false => rfl
      | true => rw [e] at hb; exact absurd hb h0
    rw [hh] at hb
    have HD := hid (dec_begins (b := l) (n := 5) hb (by decide))
    have hg : decide ((16777216 : Int) < (l.length : Int)) = false := decide_eq_false (by omega)
    have q := rbegins_c _ l _ (hI.below hB0) hl
    rw [hh] at q
    have Q := hid q
    clear hI h0 hb q hlg
    go_enter Try.func21, Try.ntmps21
    go_wp2_with fail
    refine Q.out.mono ?_
    rintro e w2 ⟨rfl, rfl⟩
    go_wp2_with fail
    exact bodyPost_ret (results_rdec (n := 0) (v := .slice none 0 0) rfl rfl (heap_alloc_new w _)) rfl (decPost_no HD.out hB0)
set_option maxRecDepth 100000 in
set_option maxHeartbeats 8000000 in
theorem rDecode_go (p : Option Addr) (c : Nat) (l : List UInt8) (w : World) (hI : BytesAt w (.slice p l.length c) l) (hc : l.length ≤ c) (h0 : beginsNo l = 0) :
    Calls Try.prog 21 #[.slice p l.length c] w (DecPost l w) := by
  have hB0 : Below w.heap.size w (w.alloc (.cells #[.int .i64 0, .slice none 0 0] 24)) := (Below.refl _ w).alloc (Nat.le_refl _) _
  have hres := heap_alloc_new w (.cells #[.int .i64 0, .slice none 0 0] 24)
  obtain ⟨b1, b2, b3⟩ := beginsNo_zero.1 h0
  have hlm : l.length ≤ 16777216 := b1
  have hh : headB l = true := by
    have := beginsNo_head (l := l) (by omega)
    cases e : headB l with
    | true => rfl
    | false => rw [e, h0] at this; cases this
  have q := rbegins_c _ l _ (hI.below hB0) (by omega)
  rw [hh] at q
  have H0 := hid h0
  obtain ⟨k4, hk4⟩ : ∃ k4, l.length = k4 + 4 := ⟨l.length - 4, by omega⟩
  have hbody : l.length - 4 = k4 := by omega
  obtain ⟨b, off, rfl⟩ : ∃ b off, p = some ⟨b, off, none⟩ := by
    obtain ⟨p', c', e, hp⟩ := hI
    injection e with e1 _ _
    obtain ⟨b, off, e2, _⟩ := hp.resolve_left (by intro e; rw [e] at b2; simp at b2)
    exact ⟨b, off, e1.trans e2⟩
  have hbyt := hI.take k4 c (by omega)
  rw [hk4] at q hI
  have Q := hid q
  rw [hk4]
  have hblt : b < w.heap.size := by
    obtain ⟨p', c', e, hp⟩ := hI
    injection e with e1 _ _
    obtain ⟨b', off', e2, hcc⟩ := hp.resolve_left (by intro e; rw [e] at b2; simp at b2)
    have := cell_lt (hcc 0 (by omega))
    rw [← e1] at e2
    injection e2 with e2
    injection e2 with e3 _ _
    rw [e3]; exact this
  have hlb : (l.take k4).length = k4 := by simp; omega
  have HK := hid hbody
  have HLB := hid hlb
  have hc4 : k4 + 4 ≤ c := by omega
  have hc5 : ¬ c = k4 := by omega
  have hkm : k4 + 4 ≤ 16777216 := by omega
  have hk7 : 7 ≤ k4 := by omega
  clear q h0 hk4 hbody hlm hc b1 b2 b3 hh
  generalize hbo : l.take k4 = bo at *
  have HBO := hid hbo
  have hblen : bo.length ≤ 16777216 := by omega
  clear hlb hbo
  have hI1 := hI.below hB0
  have hby1 := hbyt.below hB0
  have HIW := hid hI
  clear hI hbyt
  have hg : decide ((16777216 : Int) < (k4 : Int) + 4) = false := decide_eq_false (by omega)
  have HKM := hid hkm
  have HBL := hid hblen
  clear hkm hblen
  go_enter Try.func21, Try.ntmps21
  go_wp2_with fail
  have hkm := HKM.out
  have hblen := HBL.out
  refine Q.out.mono ?_
  rintro e w2 ⟨rfl, rfl⟩
  clear Q hg
  generalize w.alloc (.cells #[.int .i64 0, .slice none 0 0] 24) = w1 at *
  have hI2d : BytesAt w1.drew (.slice (some ⟨b, off, none⟩) (k4 + 4) c) l := hI1.below ((Below.refl _ w1).drew)
  have hlt1 : w.heap.size < w1.heap.size := box_lt hres
  have hby1 : BytesAt w1.drew (.slice (some ⟨b, off, none⟩) k4 c) bo := hby1.below ((Below.refl _ w1).drew)
  go_wp2_with fail
  refine Go.Proofs.Ytkfmblpcfgdgpaa.wp_region_L 6 5 (fun w' => BytesAt w' (.slice (some ⟨b, off, none⟩) (k4 + 4) c) l) (by kernel_rfl) rfl hI2d (fun hS => ?_)
  refine wpAnyL_pure (i := 0) (v := .slice (some ⟨b, off, none⟩) k4 c) (by simp only [List.getElem?_toArray, List.getElem?_cons_zero] <;> rfl) (by kernel_rfl) (by kernel_rfl) (by kernel_rfl) (by exact fun _ _ _ h => h) (by decide) hS (Or.inl ⟨by rfl, fun w _ => (by simp [execOp, go_sem, Act.eval])⟩) (fun hS => ?_)
  simp only [Act.put, List.setIfInBounds_toArray, List.set_cons_zero, List.set_cons_succ]
  refine wpAnyL_pure (i := 3) (v := .slice (some ⟨b, off, none⟩) ((k4 : Nat) + 4) c) (by simp only [List.getElem?_toArray, List.getElem?_cons_zero, List.getElem?_cons_succ] <;> rfl) (by kernel_rfl) (by kernel_rfl) (by kernel_rfl) (by exact fun _ _ _ h => h) (by decide) hS (Or.inl ⟨by rfl, fun w _ => (by simp [execOp, go_sem, Act.eval])⟩) (fun hS => ?_)
  simp only [Act.put, List.setIfInBounds_toArray, List.set_cons_zero, List.set_cons_succ]
  refine wpAnyL_load (i := 4) (v := .string (strB l)) (by simp only [List.getElem?_toArray, List.getElem?_cons_zero, List.getElem?_cons_succ] <;> rfl) (by kernel_rfl) (by kernel_rfl) (by kernel_rfl) (by exact fun _ _ _ h => h) (by decide) ⟨_, rfl, ⟨4, .data⟩, by simp, rfl, rfl⟩ (by kernel_rfl) hS (Or.inl ⟨by rfl, fun w hw => (by have hw := conv_str (show BytesAt w (.slice (some ⟨b, off, none⟩) (k4 + 4) c) l from hw); simp [execOp, go_sem, Act.eval, hw])⟩) (fun hS => ?_)
  simp only [Act.put, List.setIfInBounds_toArray, List.set_cons_zero, List.set_cons_succ]
  refine wpAnyL_one (i := 1) (by kernel_rfl) (by simp only [List.getElem?_toArray, List.getElem?_cons_zero, List.getElem?_cons_succ] <;> rfl) (by rfl) ?_
  refine opwp_call (f := 22) (args := #[.slice (some ⟨b, off, none⟩) k4 c]) (w' := w1.drew) (by simp [go_sem, Act.eval]) ?_
  refine (Seal_c _ bo _ hby1 (by omega)).mono ?_
  rintro e w3 ⟨v3, rfl, hr3, hb3⟩
  have hI3 := hI2d.below hb3
  have hcv3 := conv_str hr3.bytes
  refine .inl ⟨_, rfl, .inr hI3, ?_⟩
  simp only [Act.put, List.setIfInBounds_toArray, List.set_cons_zero, List.set_cons_succ]
  refine wpAnyL_one (i := 2) (by kernel_rfl) (by simp only [List.getElem?_toArray, List.getElem?_cons_zero, List.getElem?_cons_succ] <;> rfl) (by rfl) ?_
  refine opwp_value (v := .string (strB (sealOf bo))) (w' := w3) (by simp [execOp, go_sem, Act.eval, hcv3]) ⟨.inr hI3, ?_⟩
  simp only [Act.put, List.setIfInBounds_toArray, List.set_cons_zero, List.set_cons_succ]
  refine wpAnyL_one (i := 5) (by kernel_rfl) (by simp only [List.getElem?_toArray, List.getElem?_cons_zero, List.getElem?_cons_succ] <;> rfl) (by rfl) ?_
  refine opwp_value (v := .bool (!decide (sealOf bo = l))) (w' := w3) (by simp [execOp, go_sem, Act.eval, strB_beq]) ⟨.inl (by kernel_rfl), ?_⟩
  simp only [Act.put, List.setIfInBounds_toArray, List.set_cons_zero, List.set_cons_succ]
  refine wpAnyL_done (by kernel_rfl) ?_ _
  have hby3 := hby1.below hb3
  have hB3 := (hB0.drew).trans (hb3.mono hB0.size)
  have hres3 : w3.heap[w.heap.size]? = some (.cells #[.int .i64 0, .slice none 0 0] 24 (0, 0)) := (hb3.block _ (box_lt (w := w1) hres)).trans hres
  have hsz3 : w1.heap.size ≤ w3.heap.size := hb3.size
  clear hcv3 hI2d hI1 hby1 hr3 hS hres hB0 hb3
  by_cases heq : sealOf bo = l
  · have hsl : sealOf (l.take (l.length - 4)) = l := by rw [HK.out, HBO.out]; exact heq
    have HSL := hid hsl
    have hnd : (!decide (sealOf bo = l)) = false := by rw [decide_eq_true heq]; rfl
    have HRN : Hid (∀ x, rdNet (bo.drop 4) = x → rdNet ((l.take (l.length - 4)).drop 4) = x) := hid (fun x hx => by rw [HK.out, HBO.out]; exact hx)
    rw [hnd]
    clear heq hsl hnd
    have hb4 : Below w3.heap.size w3 (w3.alloc (.cells #[.slice (some ⟨b, off, none⟩) k4 c, .int .i64 4, .bool false] 67)) := (Below.refl _ w3).alloc (Nat.le_refl _) _
    have hr4 : RRdr (w3.heap.size + 1) (w3.alloc (.cells #[.slice (some ⟨b, off, none⟩) k4 c, .int .i64 4, .bool false] 67)) w3.heap.size (.slice (some ⟨b, off, none⟩) k4 c) bo 4 false := by
      refine ⟨hby3.below hb4, heap_alloc_new w3 _, fun x n c' e => ?_, by rw [HLB.out]; omega, by omega, by omega⟩
      injection e with e1 _ _
      injection e1 with e1
      subst e1
      exact ⟨by show b ≠ w3.heap.size; omega, by show b < w3.heap.size + 1; omega⟩
    have hres4 : (w3.alloc (.cells #[.slice (some ⟨b, off, none⟩) k4 c, .int .i64 4, .bool false] 67)).heap[w.heap.size]? = some (.cells #[.int .i64 0, .slice none 0 0] 24 (0, 0)) := (heap_alloc_old w3 _ (box_lt hres3)).trans hres3
    have hB4 := hB3.alloc (by omega) (.cells #[.slice (some ⟨b, off, none⟩) k4 c, .int .i64 4, .bool false] 67)
    have hsz4 : (w3.alloc (.cells #[.slice (some ⟨b, off, none⟩) k4 c, .int .i64 4, .bool false] 67)).heap.size = w3.heap.size + 1 := by simp
    have hbw : b ≠ w3.heap.size + 1 := by omega
    clear hb4 hby3 hB3 hres3
    go_wp2_with fail
    generalize w3.alloc (.cells #[.slice (some ⟨b, off, none⟩) k4 c, .int .i64 4, .bool false] 67) = w4 at *
    generalize hpx : w3.heap.size = px at *
    have hpx1 : w.heap.size < px := by omega
    clear hpx
    have hpxlt : px < w4.heap.size := by omega
    have hnum : ∃ (nn a5 : Nat) (bad : Bool), (Calls Try.prog 42 #[.pointer (some ⟨px, 0, none⟩), .int .i64 128] w4 fun e w' => e = .returned (.int .i64 (nn : Int)) ∧ ∃ a5, a5 ≤ bo.length ∧ RSt w4 w' px (.slice (some ⟨b, off, none⟩) k4 c) a5 bad ∧ (bad = false → rd 128 0 0 (bo.drop 4) = some (nn, bo.drop a5)) ∧ (bad = true → rdNet (bo.drop 4) = none)) := by
      cases h1 : rd 128 0 0 (bo.drop 4) with
      | none => exact ⟨0, 0, true, (rnum_none (by omega) hr4 h1).mono fun e w' ⟨he, a', ha, hat⟩ => ⟨he, a', ha, hat, fun e => (by cases e), fun _ => rdNet_none0 h1⟩⟩
      | some q =>
        obtain ⟨nn, r⟩ := q
        exact ⟨nn, 0, false, (rnum_some (by omega) hr4 h1).mono fun e w' ⟨he, a', hr, _, ha, hat⟩ => ⟨he, a', ha, hat, fun _ => by rw [hr], fun e => by cases e⟩⟩
    obtain ⟨nn, _, bad, HNUM⟩ := hnum
    refine HNUM.mono ?_
    rintro e w5 ⟨rfl, a5, ha5, hat5, hok5, hno5⟩
    have hr5 := hr4.next hat5 ha5
    have hres5 : w5.heap[w.heap.size]? = some (.cells #[.int .i64 0, .slice none 0 0] 24 (0, 0)) := (hat5.grew.block _ (box_lt hres4) (by simp; omega)).trans hres4
    have hB5 := hB4.grown hat5.grew hB4.size (fun k e => by injection e with e; omega)
    have hsz5 : w4.heap.size ≤ w5.heap.size := hat5.grew.size
    have hb6 : Below w5.heap.size w5 (w5.alloc (.cells #[.int .i64 (nn : Int), .slice none 0 0] 24)) := (Below.refl _ w5).alloc (Nat.le_refl _) _
    have hnet6 := heap_alloc_new w5 (.cells #[.int .i64 (nn : Int), .slice none 0 0] 24)
    have hr6 := hr5.below hb6
    have hres6 := (heap_alloc_old w5 (.cells #[.int .i64 (nn : Int), .slice none 0 0] 24) (box_lt hres5)).trans hres5
    have hB6 := hB5.alloc hB5.size (.cells #[.int .i64 (nn : Int), .slice none 0 0] 24)
    have hsz6 : (w5.alloc (.cells #[.int .i64 (nn : Int), .slice none 0 0] 24)).heap.size = w5.heap.size + 1 := by simp
    have HOK5 := hid hok5
    have HNO5 := hid hno5
    clear hat5 hr5 hres5 hB5 hb6 HNUM hr4 hres4 hB4 hok5 hno5
    go_wp2_with fail
    generalize w5.alloc (.cells #[.int .i64 (nn : Int), .slice none 0 0] 24) = w6 at *
    generalize hpn : w5.heap.size = pn at *
    have hnp : pn ≠ px := by omega
    have hpn1 : w.heap.size < pn := by omega
    have hpx6 : px < w6.heap.size := by omega
    clear hpn
    have hnum : ∃ (m : Nat) (bad2 : Bool), m ≤ 65536 ∧ (bad2 = true → m = 0) ∧ (Calls Try.prog 42 #[.pointer (some ⟨px, 0, none⟩), .int .i64 65536] w6 fun e w' => e = .returned (.int .i64 (m : Int)) ∧ ∃ a7, a7 ≤ bo.length ∧ RSt w6 w' px (.slice (some ⟨b, off, none⟩) k4 c) a7 bad2 ∧ (bad2 = false → rdNet (bo.drop 4) = netOf (nn : Int) (prepN [] (rdNodes 0 (m - 0) (bo.drop a7)))) ∧ (bad2 = true → rdNet (bo.drop 4) = none)) := by
      cases bad with
      | true => exact ⟨0, true, by omega, fun _ => rfl, (rnum_bad 65536 hr6).mono fun e w' ⟨he, hat⟩ => ⟨he, a5, ha5, hat, fun e => (by cases e), fun _ => HNO5.out rfl⟩⟩
      | false =>
        cases h2 : rd 65536 0 0 (bo.drop a5) with
        | none => exact ⟨0, true, by omega, fun _ => rfl, (rnum_none (by omega) hr6 h2).mono fun e w' ⟨he, a', ha, hat⟩ => ⟨he, a', ha, hat, fun e => (by cases e), fun _ => rdNet_none1 (HOK5.out rfl) h2⟩⟩
        | some q =>
          obtain ⟨m, r⟩ := q
          exact ⟨m, false, (num_rd h2).2, fun e => (by cases e), (rnum_some (by omega) hr6 h2).mono fun e w' ⟨he, a', hr, _, ha, hat⟩ => ⟨he, a', ha, hat, fun _ => by rw [Nat.sub_zero, ← hr]; exact rdNet_nodes (HOK5.out rfl) h2, fun e => by cases e⟩⟩
    obtain ⟨m, bad2, hmm, hbm, HNUM⟩ := hnum
    refine HNUM.mono ?_
    rintro e w7 ⟨rfl, a7, ha7, hat7, hok7, hno7⟩
    have hst : RDecSt w w7 w6.heap.size px pn (.slice (some ⟨b, off, none⟩) k4 c) bo nn m 0 a7 (.slice none 0 0) [] [] bad2 :=
      ⟨(hat7.grew.block _ (box_lt hres6) (by simp; omega)).trans hres6, (hat7.grew.block _ (box_lt hnet6) (by simpa using hnp)).trans hnet6, own_nodes_nil _ _, rfl, (hr6.mono (by omega)).next hat7 ha7, hB6.grown hat7.grew hB6.size (fun k e => by injection e with e; omega), hat7.grew.size, ⟨hok7, hno7⟩⟩
    clear hat7 hok7 hno7 HNUM hr6 hres6 hnet6 hB6 HOK5 HNO5 hbm
    go_wp2_with fail
    generalize hBB : w6.heap.size = B at *
    have hBpn : pn < B := by omega
    have hBpx : px < B := by omega
    clear hBB hsz6 hsz5 hsz4 hsz3
    go_loopw [8] (fun jj wr => ∃ (j aj : Nat) (u : Value) (L : List NodeT) (vs : List Value) (bad : Bool), j ≤ m ∧ jj = .int .i64 j ∧ RDecSt w wr B px pn (.slice (some ⟨b, off, none⟩) k4 c) bo nn m j aj u L vs bad) (fun jj _ => m - (intOf jj).toNat)
    case atStart => exact ⟨0, a7, _, [], [], bad2, by omega, rfl, hst⟩
    case round =>
      clear hst
      obtain ⟨j, aj, u, L, vs, bad, hj, rfl, st⟩ := hrel
      obtain ⟨⟨y0, y1, y2⟩, t0, t1, t2⟩ := box3 st.rdr.box
      by_cases hgo : j < m ∧ bad = false
      · obtain ⟨hlt3, rfl⟩ := hgo
        obtain ⟨j2, hj2⟩ : ∃ j2, m - j = j2 + 1 := ⟨m - j - 1, by omega⟩
        have hjm : m - (j + 1) = j2 := by omega
        have HJ := hid hj2
        have HJM := hid hjm
        clear hj2 hjm
        have hbel : Below wr.heap.size wr wr.drew := (Below.refl _ wr).drew
        have hrd := (st.rdr.below hbel).mono (B' := wr.drew.heap.size) st.sz
        obtain ⟨⟨n0, n1⟩, nf0, nf1⟩ := box2 st.net
        have z1 : wr.drew.cell? ⟨pn, 1, none⟩ = some u := n1
        have dlt : decide ((j : Int) < (m : Int)) = true := decide_eq_true (by omega)
        obtain ⟨i0, hi0, hz0, hz1, hz2⟩ := info_parts info_node
        go_wp2_with fail
        refine Go.Proofs.Ytkfmblpcfgdgpaa.wp_region_L 9 6 (fun w' => w'.cell? ⟨pn, 1, none⟩ = some u) (by kernel_rfl) rfl z1 (fun hS => ?_)
        refine wpAnyL_pure (i := 0) (v := .pointer (some ⟨pn, 1, none⟩)) (by simp only [List.getElem?_toArray, List.getElem?_cons_zero] <;> rfl) (by kernel_rfl) (by kernel_rfl) (by kernel_rfl) (by exact fun _ _ _ h => h) (by decide) hS (Or.inl ⟨by rfl, fun w _ => (by simp [execOp, go_sem, Act.eval])⟩) (fun hS => ?_)
        simp only [Act.put, List.setIfInBounds_toArray, List.set_cons_zero, List.set_cons_succ]
        refine wpAnyL_load (i := 1) (v := u) (by simp only [List.getElem?_toArray, List.getElem?_cons_zero, List.getElem?_cons_succ] <;> rfl) (by kernel_rfl) (by kernel_rfl) (by kernel_rfl) (by exact fun _ _ _ h => h) (by decide) ⟨_, rfl, ⟨1, .data⟩, by simp, rfl, rfl⟩ (by kernel_rfl) hS (Or.inl ⟨by rfl, fun w hw => (by have hw : w.cell? ⟨pn, 1, none⟩ = some u := hw; simp [execOp, go_sem, Act.eval, hw])⟩) (fun hS => ?_)
        simp only [Act.put, List.setIfInBounds_toArray, List.set_cons_zero, List.set_cons_succ]
        refine wpAnyL_pure (i := 2) (v := .pointer (some ⟨px, 0, none⟩)) (by simp only [List.getElem?_toArray, List.getElem?_cons_zero, List.getElem?_cons_succ] <;> rfl) (by kernel_rfl) (by kernel_rfl) (by kernel_rfl) (by exact fun _ _ _ h => h) (by decide) hS (Or.inl ⟨by rfl, fun w _ => (by simp [execOp, go_sem, Act.eval])⟩) (fun hS => ?_)
        simp only [Act.put, List.setIfInBounds_toArray, List.set_cons_zero, List.set_cons_succ]
        refine wpAnyL_pure (i := 3) (v := .int .i64 (j : Int)) (by simp only [List.getElem?_toArray, List.getElem?_cons_zero, List.getElem?_cons_succ] <;> rfl) (by kernel_rfl) (by kernel_rfl) (by kernel_rfl) (by exact fun _ _ _ h => h) (by decide) hS (Or.inl ⟨by rfl, fun w _ => (by simp [execOp, go_sem, Act.eval])⟩) (fun hS => ?_)
        simp only [Act.put, List.setIfInBounds_toArray, List.set_cons_zero, List.set_cons_succ]
        refine wpAnyL_one (i := 4) (by kernel_rfl) (by simp only [List.getElem?_toArray, List.getElem?_cons_zero, List.getElem?_cons_succ] <;> rfl) (by rfl) ?_
        refine opwp_call (f := 43) (args := #[.pointer (some ⟨px, 0, none⟩), .int .i64 (j : Int)]) (w' := wr.drew) (by simp [go_sem, Act.eval]) ?_
        refine (rnode_c j (by omega) aj px _ bo wr.drew hrd).mono ?_
        intro e w8 hp
        obtain ⟨a8, xk, xl, xi, y, bad, rfl, hal8, hat8, hown8, hxi, hsay⟩ := rnode_any hp (st.says.1 rfl) HJ.out HJM.out
        have HSAY := hid hsay
        clear hsay hp
        obtain ⟨py, cy, rfl, hdrop⟩ := OwnInts.ints hown8
        clear hdrop
        have hlL : L.length = j := st.len
        have hnet8 : w8.heap[pn]? = some (.cells #[.int .i64 (nn : Int), u] 24 (0, 0)) := (hat8.grew.block pn (box_lt (w := wr) st.net) (by simpa using hnp)).trans st.net
        have hres8 : w8.heap[w.heap.size]? = some (.cells #[.int .i64 0, .slice none 0 0] 24 (0, 0)) := (hat8.grew.block w.heap.size (box_lt (w := wr) st.res) (by simp; omega)).trans st.res
        have hown8' : OwnNodes w8 B u L vs := (OwnNodes.below st.own hbel).low hat8.grew (fun k e => by injection e with e; have := st.rdr.lx; omega)
        have c8 := (box2 hnet8).1.2
        have hsz8 : B ≤ w8.heap.size := Nat.le_trans st.sz hat8.grew.size
        have hpn8 : pn < w8.heap.size := box_lt hnet8
        have hr8 : RRdr B w8 px (.slice (some ⟨b, off, none⟩) k4 c) bo a8 bad := (st.rdr.below hbel).next hat8 hal8
        have hlow8 : Below w.heap.size w w8 := (st.low.drew).grown hat8.grew (by show w.heap.size ≤ wr.heap.size; have := st.sz; omega) (fun k e => by injection e with e; omega)
        have huo : ∀ k, u.ownBlock = some k → B ≤ k := fun k e => (World.ownsRow.lt hown8'.row k e).1
        refine .inl ⟨_, rfl, .inr c8, ?_⟩
        simp only [Act.put, List.setIfInBounds_toArray, List.set_cons_zero, List.set_cons_succ]
        refine wpAnyL_one (i := 5) (by kernel_rfl) (by simp only [List.getElem?_toArray, List.getElem?_cons_zero, List.getElem?_cons_succ] <;> rfl) (by rfl) ?_
        have c9' : (w8.alloc (.cells #[.int .i64 xk, .int .i64 xl, .slice py xi.length cy] 46)).cell? ⟨pn, 1, none⟩ = some u := by
          rw [World.cell?_alloc_lt w8 _ ⟨pn, 1, none⟩ hpn8]; exact c8
        refine opwp_value (v := .slice (some ⟨w8.heap.size, 0, none⟩) 1 1) (w' := w8.alloc (.cells #[.int .i64 xk, .int .i64 xl, .slice py xi.length cy] 46)) (by simp [execOp, go_sem, Act.eval, encN]) ⟨.inr c9', ?_⟩
        simp only [Act.put, List.setIfInBounds_toArray, List.set_cons_zero, List.set_cons_succ]
        refine wpAnyL_one (i := 6) (by kernel_rfl) (by simp only [List.getElem?_toArray, List.getElem?_cons_zero, List.getElem?_cons_succ] <;> rfl) (by rfl) ?_
        refine wp_append_lies _ _ _ 22 rfl B 46 i0 (.agg #[.int .i64 0, .int .i64 0, .slice none 0 0]) 3 40 Try.underlying22 hi0 hz0 hz1 hz2 rfl (by decide) u L.length (nodeCells L vs) rfl (hown8'.row.alloc _) ⟨w8.heap.size, 0, none⟩ 1 1 [.int .i64 xk, .int .i64 xl, .slice py xi.length cy] rfl (by simp) (World.news_of_block (heap_alloc_new _ _)) (by simp [Value.oneCell']) (by omega) (by unfold maxLen; omega) (by omega) (by simp; omega) _ rfl ?_
        intro gg cap w9 hown9 hgrow9 hat9 hlt9
        have hnet9 : w9.heap[pn]? = some (.cells #[.int .i64 (nn : Int), u] 24 (0, 0)) := by
          rw [hgrow9.block pn (by simp; omega) (fun e => by have := huo _ e.symm; omega), heap_alloc_old w8 _ hpn8]; exact hnet8
        have hres9 : w9.heap[w.heap.size]? = some (.cells #[.int .i64 0, .slice none 0 0] 24 (0, 0)) := by
          rw [hgrow9.block w.heap.size (by simp; omega) (fun e => by have := huo _ e.symm; omega), heap_alloc_old w8 _ (by omega)]; exact hres8
        have hn9 : OwnNodes w9 B (.slice (some ⟨gg, 0, none⟩) (L.length + 1) cap) (L ++ [⟨xk, xl, xi⟩]) (vs ++ [.slice py xi.length cy]) :=
          OwnNodes.snoc (hown8'.below ((Below.refl _ w8).alloc (Nat.le_refl _) _)) (World.ownsRow.alloc (ownsRow_base hown8 st.sz) _) hxi hown9 hgrow9
        have hr9 : RRdr B w9 px (.slice (some ⟨b, off, none⟩) k4 c) bo a8 bad := (hr8.below ((Below.refl _ w8).alloc (Nat.le_refl _) _)).kept hgrow9 huo
        have hlow9 : Below w.heap.size w w9 := (hlow8.alloc (by omega) _).grown hgrow9 (by simp; omega) (fun k e => by have := huo k e; omega)
        have hsz9 : B ≤ w9.heap.size := by have := hgrow9.size; simp at this; omega
        obtain ⟨⟨_, d9⟩, _, g9⟩ := box2 hnet9
        refine ⟨.inl (by kernel_rfl), ?_⟩
        simp only [Act.put, List.setIfInBounds_toArray, List.set_cons_zero, List.set_cons_succ]
        refine wpAnyL_one (i := 7) (by kernel_rfl) (by simp only [List.getElem?_toArray, List.getElem?_cons_zero, List.getElem?_cons_succ] <;> rfl) (by rfl) ?_
        refine opwp_value (v := .pointer (some ⟨pn, 1, none⟩)) (w' := w9) (by simp [execOp, go_sem, Act.eval]) ⟨.inl (by kernel_rfl), ?_⟩
        simp only [Act.put, List.setIfInBounds_toArray, List.set_cons_zero, List.set_cons_succ]
        refine wpAnyL_one (i := 8) (by kernel_rfl) (by simp only [List.getElem?_toArray, List.getElem?_cons_zero, List.getElem?_cons_succ] <;> rfl) (by rfl) ?_
        refine opwp_skip (w' := w9.setCell ⟨pn, 1, none⟩ (.slice (some ⟨gg, 0, none⟩) (L.length + 1) cap)) (by simp [execOp, go_sem, Act.eval, d9, g9]) ⟨.inl (by kernel_rfl), ?_⟩
        simp only [Act.put]
        refine wpAnyL_done (by kernel_rfl) ?_ _
        have hst9 : RDecSt w (w9.setCell ⟨pn, 1, none⟩ (.slice (some ⟨gg, 0, none⟩) (L.length + 1) cap)) B px pn (.slice (some ⟨b, off, none⟩) k4 c) bo nn m (j + 1) a8 (.slice (some ⟨gg, 0, none⟩) (L.length + 1) cap) (L ++ [⟨xk, xl, xi⟩]) (vs ++ [.slice py xi.length cy]) bad :=
          ⟨(Below.heap_setCell _ _ _ _ (by show w.heap.size ≠ pn; omega)).trans hres9, by simpa using block_set hnet9 (.slice (some ⟨gg, 0, none⟩) (L.length + 1) cap) 1, hn9.low (grownBy_set w9 pn 1 _) (fun k e => by injection e with e; omega), by simp [hlL], hr9.other (grownBy_set w9 pn 1 _) (by omega) (fun x n c' e => by injection e with e1 _ _; injection e1 with e1; subst e1; show b ≠ pn; omega), hlow9.setCell (p := ⟨pn, 1, none⟩) (by show w.heap.size ≤ pn; omega) _, by simpa [World.setCell] using hsz9, HSAY.out⟩
        clear hlL hlow9 hlow8 hr9 hr8 hn9 hnet9 hres9 hown9 hgrow9 hat9 hlt9 d9 g9 c9' c8 hnet8 hres8 hown8 hown8' huo hat8 hS hrd z1 n0 n1 nf0 nf1 hsz9 hsz8 hpn8 t0 t1 t2 y0 y1 y2
        go_wp2_with fail
        go_roundw
        case rel => exact ⟨j + 1, a8, _, _, _, bad, by omega, by go_num, hst9⟩
        case measure => simp [intOf]; omega
      · have HLEN := hid (own_lens st.own)
        have hnod := st.own.nodes
        obtain ⟨p9, c9, rfl, hdrop⟩ := id hnod
        clear hdrop
        obtain ⟨⟨n0, n1⟩, nf0, nf1⟩ := box2 st.net
        have hstop : (decide ((j : Int) < (m : Int)) = false ∧ decide (j < m) = false ∧ j = m) ∨ (decide ((j : Int) < (m : Int)) = true ∧ decide (j < m) = true ∧ bad = true) := by
          by_cases h : j < m
          · right
            refine ⟨decide_eq_true (by omega), decide_eq_true h, ?_⟩
            cases bad
            · exact absurd ⟨h, rfl⟩ hgo
            · rfl
          · exact .inl ⟨decide_eq_false (by omega), decide_eq_false h, by omega⟩
        have HFIN : Hid ((bad = true → decNo l = 5 ∧ decNet l = noNet) ∧ (bad = false → j = m → (encNo ⟨(nn : Int), L⟩ = 0 → encBytes ⟨(nn : Int), L⟩ = l → decNo l = 0 ∧ decNet l = ⟨(nn : Int), L⟩) ∧ (¬ (encNo ⟨(nn : Int), L⟩ = 0 ∧ encBytes ⟨(nn : Int), L⟩ = l) → decNo l = 5 ∧ decNet l = noNet))) := by
          refine ⟨fun hb => ref_bad H0.out HSL.out (HRN.out _ (st.says.2 hb)), fun hb hjm => ⟨fun h1 h2 => ref_yes h1 h2, fun h => ?_⟩⟩
          have hs := st.says.1 hb
          rw [hjm, Nat.sub_self] at hs
          exact ref_no (r := bo.drop aj) H0.out HSL.out (HRN.out _ (by rw [hs]; show some (_, _) = _; rw [List.append_nil])) h
        have HENC := hid (fun w' (hN : NodesAt w' (.slice p9 L.length c9) L) => rEncode_c (nn : Int) L _ w' hN (read_body HLEN.out))
        clear hgo
        rcases hstop with ⟨dl, dl2, hjm⟩ | ⟨dl, dl2, hbad⟩
        · cases bad with
          | false =>
            have HF := hid (HFIN.out.2 rfl hjm)
            clear hjm HFIN
            go_wp2_with fail
            refine (HENC.out wr hnod).mono ?_
            rintro e w10 ⟨vb, rfl, hob, hb10⟩
            have hcmp := strB_beq (encBytes ⟨(nn : Int), L⟩) l
            have hI10 := conv_str ((HIW.out.below st.low).below hb10)
            have he10 := conv_str hob.bytes
            have hrb10 := (hb10.block _ (box_lt st.rdr.box)).trans st.rdr.box
            have hre10 := (hb10.block _ (box_lt st.res)).trans st.res
            have hne10 := (hb10.block _ (box_lt st.net)).trans st.net
            have hlow10 := st.low.trans (hb10.mono (st.low.size))
            have hown10 := st.own.below hb10
            clear y0 y1 y2 t0 t1 t2 n0 n1 nf0 nf1
            obtain ⟨⟨y0, y1, y2⟩, t0, t1, t2⟩ := box3 hrb10
            obtain ⟨⟨n0, n1⟩, nf0, nf1⟩ := box2 hne10
            obtain ⟨⟨r0, r1⟩, rf0, rf1⟩ := box2 hre10
            have HRE := hid hre10
            have HLO := hid hlow10
            clear hrb10 hre10 hne10 hlow10 hob hb10
            clear HENC
            generalize encNo ⟨(nn : Int), L⟩ = en at *
            generalize encBytes ⟨(nn : Int), L⟩ = eb at *
            by_cases hen : en = 0
            · have q0 : (en != 0) = false := by simp [hen]
              by_cases hbb : eb = l
              · have HD := hid (HF.out.1 hen hbb)
                rw [decide_eq_true hbb] at hcmp
                have hcmp2 : ((strB eb).toList != (strB l).toList) = false := by unfold bne; rw [hcmp]; rfl
                clear hen hbb HF
                go_wp2_with fail
                obtain ⟨e1, e2⟩ := net_set HRE.out HLO.out (Nat.le_refl _) (.int .i64 (nn : Int)) (.slice p9 L.length c9)
                have hown12 := (hown10.low (grownBy_set w10 w.heap.size 0 (.int .i64 (nn : Int))) (fun k e => by injection e with e; omega)).low (grownBy_set _ w.heap.size 1 (.slice p9 L.length c9)) (fun k e => by injection e with e; omega)
                exact bodyPost_ret (results_rdec (n := (nn : Int)) (v := .slice p9 L.length c9) rfl rfl e1) rfl ⟨.slice p9 L.length c9, vs, by rw [HD.out.1, HD.out.2], by rw [HD.out.2]; exact hown12.mono (by omega), e2⟩
              · have HD := hid (HF.out.2 (fun h => hbb h.2))
                rw [decide_eq_false hbb] at hcmp
                have hcmp2 : ((strB eb).toList != (strB l).toList) = true := by unfold bne; rw [hcmp]; rfl
                clear hen hbb HF
                go_wp2_with fail
                obtain ⟨e1, e2⟩ := net_set HRE.out HLO.out (Nat.le_refl _) (.int .i64 0) (.slice none 0 0)
                exact bodyPost_ret (results_rdec (n := 0) (v := .slice none 0 0) rfl rfl e1) rfl (decPost_no HD.out e2)
            · have q0 : (en != 0) = true := by simpa using hen
              have HD := hid (HF.out.2 (fun h => hen h.1))
              clear hen HF hcmp
              go_wp2_with fail
              obtain ⟨e1, e2⟩ := net_set HRE.out HLO.out (Nat.le_refl _) (.int .i64 0) (.slice none 0 0)
              exact bodyPost_ret (results_rdec (n := 0) (v := .slice none 0 0) rfl rfl e1) rfl (decPost_no HD.out e2)
          | true =>
            have HD := hid (HFIN.out.1 rfl)
            clear hjm HFIN
            go_wp2_with fail
            refine (HENC.out wr hnod).mono ?_
            rintro e w10 ⟨vb, rfl, hob, hb10⟩
            have hI10 := conv_str ((HIW.out.below st.low).below hb10)
            have he10 := conv_str hob.bytes
            have hrb10 := (hb10.block _ (box_lt st.rdr.box)).trans st.rdr.box
            have hre10 := (hb10.block _ (box_lt st.res)).trans st.res
            have hne10 := (hb10.block _ (box_lt st.net)).trans st.net
            have hlow10 := st.low.trans (hb10.mono (st.low.size))
            have hown10 := st.own.below hb10
            clear y0 y1 y2 t0 t1 t2 n0 n1 nf0 nf1
            obtain ⟨⟨y0, y1, y2⟩, t0, t1, t2⟩ := box3 hrb10
            obtain ⟨⟨n0, n1⟩, nf0, nf1⟩ := box2 hne10
            obtain ⟨⟨r0, r1⟩, rf0, rf1⟩ := box2 hre10
            have HRE := hid hre10
            have HLO := hid hlow10
            clear hrb10 hre10 hne10 hlow10 hob hb10
            clear HENC
            generalize encNo ⟨(nn : Int), L⟩ = en at *
            generalize encBytes ⟨(nn : Int), L⟩ = eb at *
            go_wp2_with fail
            obtain ⟨e1, e2⟩ := net_set HRE.out HLO.out (Nat.le_refl _) (.int .i64 0) (.slice none 0 0)
            exact bodyPost_ret (results_rdec (n := 0) (v := .slice none 0 0) rfl rfl e1) rfl (decPost_no HD.out e2)
        · subst hbad
          have HD := hid (HFIN.out.1 rfl)
          clear HFIN
          go_wp2_with fail
          refine (HENC.out wr hnod).mono ?_
          rintro e w10 ⟨vb, rfl, hob, hb10⟩
          have hI10 := conv_str ((HIW.out.below st.low).below hb10)
          have he10 := conv_str hob.bytes
          have hrb10 := (hb10.block _ (box_lt st.rdr.box)).trans st.rdr.box
          have hre10 := (hb10.block _ (box_lt st.res)).trans st.res
          have hne10 := (hb10.block _ (box_lt st.net)).trans st.net
          have hlow10 := st.low.trans (hb10.mono (st.low.size))
          have hown10 := st.own.below hb10
          clear y0 y1 y2 t0 t1 t2 n0 n1 nf0 nf1
          obtain ⟨⟨y0, y1, y2⟩, t0, t1, t2⟩ := box3 hrb10
          obtain ⟨⟨n0, n1⟩, nf0, nf1⟩ := box2 hne10
          obtain ⟨⟨r0, r1⟩, rf0, rf1⟩ := box2 hre10
          have HRE := hid hre10
          have HLO := hid hlow10
          clear hrb10 hre10 hne10 hlow10 hob hb10
          clear HENC
          generalize encNo ⟨(nn : Int), L⟩ = en at *
          generalize encBytes ⟨(nn : Int), L⟩ = eb at *
          go_wp2_with fail
          obtain ⟨e1, e2⟩ := net_set HRE.out HLO.out (Nat.le_refl _) (.int .i64 0) (.slice none 0 0)
          exact bodyPost_ret (results_rdec (n := 0) (v := .slice none 0 0) rfl rfl e1) rfl (decPost_no HD.out e2)
  · have hsl : ¬ sealOf (l.take (l.length - 4)) = l := by
      rw [HK.out, HBO.out]; exact heq
    have HD := hid (dec_sum H0.out hsl)
    have hnd : (!decide (sealOf bo = l)) = true := by rw [decide_eq_false heq]; rfl
    rw [hnd]
    clear heq hsl hnd
    obtain ⟨⟨c0, c1⟩, f0, f1⟩ := box2 hres3
    go_wp2_with fail
    obtain ⟨e1, e2⟩ := net_set hres3 hB3 (Nat.le_refl _) (.int .i64 0) (.slice none 0 0)
    exact bodyPost_ret (results_rdec (n := 0) (v := .slice none 0 0) rfl rfl e1) rfl (decPost_no HD.out e2)
/-- The reference's Decode, of any bytes. -/
theorem rDecode_c (p : Option Addr) (c : Nat) (l : List UInt8) (w : World) (hI : BytesAt w (.slice p l.length c) l) (hc : l.length ≤ c) (hl : l.length ≤ 140737488355328) :
    Calls Try.prog 21 #[.slice p l.length c] w (DecPost l w) := by
  by_cases h0 : beginsNo l = 0
  · exact rDecode_go p c l w hI hc h0
  · exact rDecode_no p c l w hI hl h0
end Go.Proofs.Ytkfmblpcfgdgpaa
