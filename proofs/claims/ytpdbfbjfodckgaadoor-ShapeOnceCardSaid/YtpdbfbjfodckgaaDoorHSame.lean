/- Walks: slices.Equal, slices.EqualFunc over nodes, node.Same. -/
import Derived.Test.YtpdbfbjfodckgaaDoorNMem
import Derived.BigQuiet
namespace Go.Proofs.YtpdbfbjfodckgaaDoor
open Go.RowKit

def eqI (a b : List Int) (k : Nat) : Prop := ∀ i, i < k → a[i]?.getD 0 = b[i]?.getD 0
theorem eq_of_eqI {a b : List Int} (h : a.length = b.length) (he : eqI a b a.length) : a = b := by
  apply List.ext_getElem h
  intro i h1 h2
  have := he i h1
  simpa [h1, h2] using this
set_option maxRecDepth 100000 in
set_option maxHeartbeats 1000000 in
theorem equal_c (u v : Value) (a b : List Int) (w : World) (hu : IntsAt w u a) (hv : IntsAt w v b) (ha : a.length ≤ 140737488355328) :
    Calls Tryd.prog 44 #[u, v] w fun e w' => e = .returned (.bool (decide (a = b))) ∧ Below w.heap.size w w' := by
  obtain ⟨p, c, rfl, hp⟩ := hu
  obtain ⟨q, d, rfl, hq⟩ := hv
  have HP := hid hp
  have HQ := hid hq
  clear hp hq
  by_cases hlen : a.length = b.length
  · have hl : ((a.length : Int) != (b.length : Int)) = false := by simp [hlen]
    have HL := hid hlen
    rw [← hlen]
    clear hlen
    have hl : ((a.length : Int) != (a.length : Int)) = false := by simp
    go_enter Tryd.func44, Tryd.ntmps44
    go_wp2
    go_loopw [13] (fun i wr => ∃ k : Nat, k ≤ a.length ∧ i = .int .i64 k ∧ Hid (eqI a b k) ∧ Below w.heap.size w wr) (fun i _ => a.length - (intOf i).toNat)
    case atStart => exact ⟨0, Nat.zero_le _, rfl, fun i hi => by omega, Below.refl _ _⟩
    case round =>
      obtain ⟨k, hk, rfl, he, hB⟩ := hrel
      by_cases hlt : k < a.length
      · obtain ⟨b1, o1, rfl, hc1⟩ := HP.out.resolve_left (by intro e; rw [e] at hlt; simp at hlt)
        obtain ⟨b2, o2, rfl, hc2⟩ := HQ.out.resolve_left (by intro e; have := HL.out; rw [e] at this; simp at this; rw [this] at hlt; simp at hlt)
        have h1 := hc1 k hlt
        have h2 := hc2 k (by rw [← HL.out]; exact hlt)
        have d1 := (hB.cell (p := ⟨b1, o1 + k, none⟩) (cell_lt h1)).trans h1
        have d2 := (hB.cell (p := ⟨b2, o2 + k, none⟩) (cell_lt h2)).trans h2
        have z1 : (0 : Int) ≤ (k : Int) := by omega
        have z2 : (k : Int) < (a.length : Int) := by omega
        clear hc1 hc2 h1 h2
        by_cases heq : a[k]?.getD 0 = b[k]?.getD 0
        · have HE2 := hid (show eqI a b (k + 1) from fun i hi => by
            by_cases e : i = k
            · subst e; exact heq
            · exact he.out i (by omega))
          rw [← heq] at d2
          clear heq
          generalize a[k]?.getD 0 = x at d1 d2
          have hx : (x != x) = false := by simp
          go_wp2_with fail
          go_quiet (fail)
          go_wp2_with fail
          go_roundw
          case rel => exact ⟨k + 1, by omega, by go_num, HE2.out, below_drewN hB _⟩
          case measure => simp [intOf]; omega
        · have hne : decide (a = b) = false := by
            rw [decide_eq_false_iff_not]; intro e; rw [e] at heq; exact heq rfl
          have HN := hid hne
          have hx : (a[k]?.getD 0 != b[k]?.getD 0) = true := by simpa using heq
          clear hne heq
          generalize a[k]?.getD 0 = x at d1 hx
          generalize b[k]?.getD 0 = y at d2 hx
          go_wp2_with fail
          go_quiet (fail)
          go_wp2_with fail
          go_ret
          exact ⟨by rw [HN.out]; rfl, below_drewN hB _⟩
      · obtain rfl : k = a.length := by omega
        have HT := hid (show decide (a = b) = true from decide_eq_true (eq_of_eqI HL.out he.out))
        clear he
        go_wp2_with fail
        go_ret
        exact ⟨by rw [HT.out]; rfl, hB⟩
  · have hl : ((a.length : Int) != (b.length : Int)) = true := by simp; omega
    have hne : decide (a = b) = false := by
      rw [decide_eq_false_iff_not]; intro e; rw [e] at hlen; exact hlen rfl
    rw [hne]
    clear hne hlen
    go_enter Tryd.func44, Tryd.ntmps44
    go_wp2_with fail
    go_ret
    exact ⟨rfl, Below.refl _ _⟩
set_option maxRecDepth 100000 in
set_option maxHeartbeats 2000000 in
theorem sameNode_c (k1 l1 k2 l2 : Int) (i1 i2 : List Int) (v1 v2 : Value) (w : World) (h1 : IntsAt w v1 i1) (h2 : IntsAt w v2 i2) (e1 : i1.length ≤ 140737488355328) :
    Calls Tryd.prog 43 #[.agg #[.int .i64 k1, .int .i64 l1, v1], .agg #[.int .i64 k2, .int .i64 l2, v2]] w fun e w' => e = .returned (.bool (decide ((⟨k1, l1, i1⟩ : NodeT) = ⟨k2, l2, i2⟩))) ∧ Below w.heap.size w w' := by
  have hB : Below w.heap.size w ((w.alloc (.cells #[.int .i64 k1, .int .i64 l1, v1] 39)).alloc (.cells #[.int .i64 k2, .int .i64 l2, v2] 39)) := ((Below.refl _ w).alloc (Nat.le_refl _) _).alloc (by simp) _
  have g1 := h1.below hB
  have g2 := h2.below hB
  obtain ⟨p1, c1, rfl, _⟩ := h1
  obtain ⟨p2, c2, rfl, _⟩ := h2
  have hsz := hB.size
  by_cases a1 : k1 = k2
  · subst a1
    have b1 : (k1 == k1) = true := by simp
    by_cases a2 : l1 = l2
    · subst a2
      have b2 : (l1 == l1) = true := by simp
      have hd : decide ((⟨k1, l1, i1⟩ : NodeT) = ⟨k1, l1, i2⟩) = decide (i1 = i2) := by simp
      rw [hd]
      have HQ := hid (equal_c _ _ i1 i2 _ g1 g2 e1)
      clear g1 g2 hd
      generalize decide (i1 = i2) = q at HQ ⊢
      go_enter Tryd.func43, Tryd.ntmps43
      go_wp2_with fail
      refine HQ.out.mono ?_; rintro e w1 ⟨rfl, hb⟩
      go_wp2_with fail
      go_ret
      exact ⟨rfl, hB.trans (hb.mono hsz)⟩
    · have b2 : (l1 == l2) = false := by simp [a2]
      have hd : decide ((⟨k1, l1, i1⟩ : NodeT) = ⟨k1, l2, i2⟩) = false := by simp [a2]
      rw [hd]
      go_enter Tryd.func43, Tryd.ntmps43
      go_wp2_with fail
      go_ret
      exact ⟨rfl, hB⟩
  · have b1 : (k1 == k2) = false := by simp [a1]
    have hd : decide ((⟨k1, l1, i1⟩ : NodeT) = ⟨k2, l2, i2⟩) = false := by simp [a1]
    rw [hd]
    go_enter Tryd.func43, Tryd.ntmps43
    go_wp2_with fail
    go_ret
    exact ⟨rfl, hB⟩
/-- Equal up to k. -/
def sameTo (a b : List NodeT) (k : Nat) : Prop := ∀ i, i < k → a[i]? = b[i]?
theorem eq_of_sameTo {a b : List NodeT} (h : a.length = b.length) (he : sameTo a b a.length) : a = b := by
  apply List.ext_getElem? 
  intro i
  by_cases hi : i < a.length
  · exact he i hi
  · rw [List.getElem?_eq_none (by omega), List.getElem?_eq_none (by omega)]
theorem sameTo_succ {a b : List NodeT} {k : Nat} (h : sameTo a b k) (ha : k < a.length) (hb : k < b.length) (he : a[k] = b[k]) : sameTo a b (k + 1) := by
  intro i hi
  by_cases e : i = k
  · subst e; rw [List.getElem?_eq_getElem ha, List.getElem?_eq_getElem hb, he]
  · exact h i (by omega)
theorem ne_of_at {a b : List NodeT} {k : Nat} (ha : k < a.length) (hb : k < b.length) (he : a[k] ≠ b[k]) : a ≠ b := by
  intro e; subst e; exact he rfl
set_option maxRecDepth 100000 in
set_option maxHeartbeats 4000000 in
theorem equalFunc_c (L1 L2 : List NodeT) (v1 v2 : Value) (w : World) (h1 : NodesAt w v1 L1) (h2 : NodesAt w v2 L2) (hl1 : L1.length ≤ 140737488355328) :
    Calls Tryd.prog 42 #[v1, v2, .func (.func 43) #[] #[]] w fun e w' => e = .returned (.bool (decide (L1 = L2))) ∧ Below w.heap.size w w' := by
  obtain ⟨p1, c1, rfl, r1⟩ := h1
  obtain ⟨p2, c2, rfl, r2⟩ := h2
  have HP := hid r1
  have HQ := hid r2
  clear r1 r2
  by_cases hlen : L1.length = L2.length
  · have b2 : ((L1.length : Int) != (L2.length : Int)) = false := by simp [hlen]
    have HL := hid hlen
    clear hlen
    go_enter Tryd.func42, Tryd.ntmps42
    go_wp2_with fail
    go_loopw [17] (fun i wr => ∃ k : Nat, k ≤ L1.length ∧ i = .int .i64 k ∧ Hid (sameTo L1 L2 k) ∧ Below w.heap.size w wr) (fun i _ => L1.length - (intOf i).toNat)
    case atStart => exact ⟨0, Nat.zero_le _, rfl, fun i h => by omega, Below.refl _ _⟩
    case round =>
      obtain ⟨k, hk, rfl, hf, hB⟩ := hrel
      have hBs := hB.size
      by_cases hlt : k < L1.length
      · have hlt2 : k < L2.length := by rw [← HL.out]; exact hlt
        obtain ⟨b1', o1, rfl, hc1⟩ := HP.out.resolve_left (by intro e; rw [e] at hlt; simp at hlt)
        obtain ⟨b2', o2, rfl, hc2⟩ := HQ.out.resolve_left (by intro e; rw [e] at hlt2; simp at hlt2)
        obtain ⟨u1, q1⟩ := hc1 k hlt
        obtain ⟨u2, q2⟩ := hc2 k hlt2
        replace q1 := q1.below hB
        replace q2 := q2.below hB
        have q1k := q1.kind
        have q1l := q1.lit
        have q1i := q1.ins
        have q1n := q1.ints
        have q1m := q1.len
        have q2k := q2.kind
        have q2l := q2.lit
        have q2i := q2.ins
        have q2n := q2.ints
        have lb1 : b1' < wr.heap.size := cell_lt q1k
        have lb2 : b2' < wr.heap.size := cell_lt q2k
        have z0 : (0 : Int) ≤ (k : Int) := by omega
        have z1 : (k : Int) < (L1.length : Int) := by omega
        have z2 : (k : Int) < (L2.length : Int) := by omega
        have HS := hid (fun h => sameTo_succ hf.out hlt hlt2 h)
        have HV := hid (fun h => ne_of_at (a := L1) (b := L2) hlt hlt2 h)
        clear q1 q2 hc1 hc2
        generalize L1[k] = y1 at *
        generalize L2[k] = y2 at *
        obtain ⟨k1, l1, i1⟩ := y1
        obtain ⟨k2, l2, i2⟩ := y2
        have hba : Below wr.heap.size wr ((wr.alloc (.cells #[.int .i64 k1, .int .i64 l1, u1] 39)).alloc (.cells #[.int .i64 k2, .int .i64 l2, u2] 39)) := ((Below.refl _ wr).alloc (Nat.le_refl _) _).alloc (by simp) _
        have HQ2 := hid (sameNode_c k1 l1 k2 l2 i1 i2 _ _ _ (q1n.below hba) (q2n.below hba) q1m)
        have HB2 := hid (hB.trans (hba.mono hBs))
        obtain ⟨pp1, cc1, f1, _⟩ := id q1n
        obtain ⟨pp2, cc2, f2, _⟩ := id q2n
        subst f1 f2
        clear hba q1n q2n q1m
        by_cases hs : (⟨k1, l1, i1⟩ : NodeT) = ⟨k2, l2, i2⟩
        · rw [decide_eq_true hs] at HQ2
          have HS2 := hid (HS.out hs)
          clear HS HV hs
          go_wp2_with fail
          refine HQ2.out.mono ?_
          rintro e w2 ⟨rfl, hb2⟩
          go_wp2_with fail
          go_roundw
          case rel => exact ⟨k + 1, by omega, by go_num, HS2.out, HB2.out.trans (hb2.mono HB2.out.size)⟩
          case measure => simp [intOf]; omega
        · rw [decide_eq_false hs] at HQ2
          have HN := hid (decide_eq_false (HV.out hs))
          clear HS HV hs
          go_wp2_with fail
          refine HQ2.out.mono ?_
          rintro e w2 ⟨rfl, hb2⟩
          go_wp2_with fail
          go_ret
          exact ⟨by rw [HN.out]; rfl, HB2.out.trans (hb2.mono HB2.out.size)⟩
      · obtain rfl : k = L1.length := by omega
        have HT := hid (show decide (L1 = L2) = true from decide_eq_true (eq_of_sameTo HL.out hf.out))
        go_wp2_with fail
        go_ret
        exact ⟨by rw [HT.out]; rfl, hB⟩
  · have hd : decide (L1 = L2) = false := by
      rw [decide_eq_false_iff_not]; intro e; rw [e] at hlen; exact hlen rfl
    have b2 : ((L1.length : Int) != (L2.length : Int)) = true := by simp; omega
    rw [hd]
    clear hd hlen
    go_enter Tryd.func42, Tryd.ntmps42
    go_wp2
    go_ret
    exact ⟨rfl, Below.refl _ _⟩
set_option maxRecDepth 100000 in
set_option maxHeartbeats 2000000 in
theorem Same_c (n1 n2 : Int) (L1 L2 : List NodeT) (v1 v2 : Value) (w : World) (h1 : NodesAt w v1 L1) (h2 : NodesAt w v2 L2) (hl1 : L1.length ≤ 140737488355328) :
    Calls Tryd.prog 16 #[.agg #[.int .i64 n1, v1], .agg #[.int .i64 n2, v2]] w fun e w' => e = .returned (.bool (decide ((⟨n1, L1⟩ : NetT) = ⟨n2, L2⟩))) ∧ Below w.heap.size w w' := by
  have hB : Below w.heap.size w ((w.alloc (.cells #[.int .i64 n1, v1] 24)).alloc (.cells #[.int .i64 n2, v2] 24)) := ((Below.refl _ w).alloc (Nat.le_refl _) _).alloc (by simp) _
  have HQ := hid (equalFunc_c L1 L2 v1 v2 _ (h1.below hB) (h2.below hB) hl1)
  obtain ⟨p1, c1, rfl, _⟩ := h1
  obtain ⟨p2, c2, rfl, _⟩ := h2
  have hsz := hB.size
  by_cases a1 : n1 = n2
  · subst a1
    have b1 : (n1 == n1) = true := by simp
    have hd : decide ((⟨n1, L1⟩ : NetT) = ⟨n1, L2⟩) = decide (L1 = L2) := by simp
    rw [hd]
    clear hd
    generalize decide (L1 = L2) = q at HQ ⊢
    go_enter Tryd.func16, Tryd.ntmps16
    go_wp2_with fail
    refine HQ.out.mono ?_; rintro e w1 ⟨rfl, hb⟩
    go_wp2_with fail
    go_ret
    exact ⟨rfl, hB.trans (hb.mono hsz)⟩
  · have b1 : (n1 == n2) = false := by simp [a1]
    have hd : decide ((⟨n1, L1⟩ : NetT) = ⟨n2, L2⟩) = false := by simp [a1]
    rw [hd]
    clear hd
    go_enter Tryd.func16, Tryd.ntmps16
    go_wp2_with fail
    go_ret
    exact ⟨rfl, hB⟩
end Go.Proofs.YtpdbfbjfodckgaaDoor
