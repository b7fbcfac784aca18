/- Words for memory: slices of nodes. -/
import Derived.Test.YtpdbfbjfodckgaaDoorNWalk3
namespace Go.Proofs.YtpdbfbjfodckgaaDoor
open Go.RowKit

/-- A node of a slice. -/
structure NodeAt (w : World) (b o : Nat) (x : NodeT) (v : Value) : Prop where
  kind : w.cell? ⟨b, o, none⟩ = some (.int .i64 x.kind)
  lit : w.cell? ⟨b, o + 1, none⟩ = some (.int .i64 x.lit)
  ins : w.cell? ⟨b, o + 2, none⟩ = some v
  ints : IntsAt w v x.ins
  len : x.ins.length ≤ 140737488355328
theorem NodeAt.below {w w' : World} {b o : Nat} {x : NodeT} {v : Value} (h : NodeAt w b o x v) (hb : Below w.heap.size w w') : NodeAt w' b o x v :=
  ⟨(hb.cell (cell_lt h.kind)).trans h.kind, (hb.cell (cell_lt h.lit)).trans h.lit, (hb.cell (cell_lt h.ins)).trans h.ins, h.ints.below hb, h.len⟩
/-- The slice value v reads as the nodes L. -/
def NodesAt (w : World) (v : Value) (L : List NodeT) : Prop :=
  ∃ p c, v = .slice p L.length c ∧ (L = [] ∨ ∃ b off, p = some ⟨b, off, none⟩ ∧ ∀ i (h : i < L.length), ∃ u, NodeAt w b (off + i * 3) L[i] u)
theorem NodesAt.below {w w' : World} {v : Value} {L : List NodeT} (h : NodesAt w v L) (hb : Below w.heap.size w w') : NodesAt w' v L := by
  obtain ⟨p, c, rfl, h⟩ := h
  refine ⟨p, c, rfl, ?_⟩
  rcases h with h | ⟨b, off, rfl, h⟩
  · exact .inl h
  · refine .inr ⟨b, off, rfl, fun i hi => ?_⟩
    obtain ⟨u, hu⟩ := h i hi
    exact ⟨u, hu.below hb⟩
/-- The variable of a net. -/
structure NetVar (w : World) (b : Nat) (n : Int) (v : Value) : Prop where
  n : w.cell? ⟨b, 0, none⟩ = some (.int .i64 n)
  l : w.cell? ⟨b, 1, none⟩ = some v
theorem NetVar.new (w : World) (n : Int) (v : Value) (T : Nat) : NetVar (w.alloc (.cells #[.int .i64 n, v] T)) w.heap.size n v := by
  constructor <;> simp [go_sem]
theorem NetVar.below {w w' : World} {b : Nat} {n : Int} {v : Value} (h : NetVar w b n v) (hb : Below w.heap.size w w') : NetVar w' b n v :=
  ⟨(hb.cell (cell_lt h.n)).trans h.n, (hb.cell (cell_lt h.l)).trans h.l⟩
theorem formedTo_succ {n : Int} {L : List NodeT} {k : Nat} (h : formedTo n L k) (hk : k < L.length) (hf : formed L[k] n k = true) : formedTo n L (k + 1) := by
  intro i hi hlt
  by_cases e : i = k
  · subst e; exact hf
  · exact h i hi (by omega)
theorem valid_no {n : Int} {L : List NodeT} (h : ¬ (0 ≤ n ∧ n ≤ 128 ∧ 1 ≤ L.length ∧ L.length ≤ 65536)) : validNet ⟨n, L⟩ = false := by
  cases e : validNet ⟨n, L⟩ with
  | false => rfl
  | true => exact absurd ((validNet_iff _).1 e).1 h
theorem valid_bad {n : Int} {L : List NodeT} {k : Nat} (hk : k < L.length) (hf : formed L[k] n k = false) : validNet ⟨n, L⟩ = false := by
  cases e : validNet ⟨n, L⟩ with
  | false => rfl
  | true =>
    have := ((validNet_iff _).1 e).2 k hk hk
    rw [hf] at this; cases this
theorem valid_yes {n : Int} {L : List NodeT} (h : 0 ≤ n ∧ n ≤ 128 ∧ 1 ≤ L.length ∧ L.length ≤ 65536) (hf : formedTo n L L.length) : validNet ⟨n, L⟩ = true :=
  (validNet_iff _).2 ⟨h, hf⟩
/-- The error of a net, as a number. -/
def checkNo (x : NetT) : Int := if validNet x = true then 0 else 1
theorem checkNo_t {x : NetT} (h : validNet x = true) : checkNo x = 0 := by simp [checkNo, h]
theorem checkNo_f {x : NetT} (h : validNet x = false) : checkNo x = 1 := by simp [checkNo, h]
set_option maxRecDepth 100000 in
set_option maxHeartbeats 2000000 in
theorem Check_c (n : Int) (L : List NodeT) (v : Value) (w : World) (hN : NodesAt w v L) :
    Calls Tryd.prog 15 #[.agg #[.int .i64 n, v]] w fun e w' => e = .returned (.int .i64 (checkNo ⟨n, L⟩)) ∧ Below w.heap.size w w' := by
  have hB1 : Below w.heap.size w (w.alloc (.cells #[.int .i64 n, v] 24)) := (Below.refl _ w).alloc (Nat.le_refl _) _
  have hx := NetVar.new w n v 24
  replace hN := hN.below hB1
  by_cases hr : 0 ≤ n ∧ n ≤ 128 ∧ 1 ≤ L.length ∧ L.length ≤ 65536
  · obtain ⟨r1, r2, r3, r4⟩ := hr
    obtain ⟨p, c, rfl, h⟩ := hN
    obtain ⟨b, off, rfl, hN⟩ := h.resolve_left (by intro e; rw [e] at r3; simp at r3)
    have n1 : ¬ n < 0 := by omega
    have n2 : ¬ 128 < n := by omega
    have n3 : ¬ (L.length : Int) < 1 := by omega
    have n4 : ¬ 65536 < (L.length : Int) := by omega
    have HN := hid hN
    clear hN h
    go_enter Tryd.func15, Tryd.ntmps15
    go_wp2_with fail
    have hsz := hB1.size
    generalize hw1 : w.alloc (.cells #[.int .i64 n, .slice (some ⟨b, off, none⟩) L.length c] 24) = w1 at *
    go_loopw [28] (fun i wr => ∃ k : Nat, k ≤ L.length ∧ i = .int .i64 k ∧ Hid (formedTo n L k) ∧ Below w1.heap.size w1 wr) (fun i _ => L.length - (intOf i).toNat)
    case atStart => exact ⟨0, Nat.zero_le _, rfl, fun i _ h => by omega, Below.refl _ _⟩
    case round =>
      obtain ⟨k, hk, rfl, hf, hB⟩ := hrel
      have hc1 := (hx.below hB).n
      have lx : w.heap.size < wr.heap.size := cell_lt hc1
      by_cases hlt : k < L.length
      · obtain ⟨u, hu⟩ := HN.out k hlt
        have hu' := hu.below hB
        have d0 := hu'.kind
        have d1 := hu'.lit
        have d2 := hu'.ins
        have hI := hu'.ints
        have hl := hu'.len
        have z1 : (0 : Int) ≤ (k : Int) ∧ (k : Int) < (L.length : Int) := by omega
        have HS := hid (fun h => formedTo_succ hf.out hlt h)
        have HV := hid (fun h => valid_bad (n := n) (L := L) hlt h)
        have hBs := hB.size
        clear hu hu'
        generalize hxx : L[k] = x at *
        obtain ⟨xk, xl, xi⟩ := x
        have hI0 := hI
        obtain ⟨p2, c2, e2, _⟩ := hI0
        subst e2
        have hI' := (hI.below ((Below.refl _ wr).alloc (Nat.le_refl _) (.cells #[.int .i64 xk, .int .i64 xl, .slice p2 xi.length c2] 39)))
        have hB2 := hB.alloc hBs (.cells #[.int .i64 xk, .int .i64 xl, .slice p2 xi.length c2] 39)
        cases hfm : formed ⟨xk, xl, xi⟩ n k
        · have hv := HV.out hfm
          go_wp2_with fail
          refine (formed_c xk xl xi _ n k _ hI' hl).mono ?_; rintro e w2 ⟨rfl, hb2⟩
          rw [hfm]
          go_wp2_with fail
          go_ret
          exact ⟨by rw [checkNo_f hv]; rfl, hB1.trans ((hB2.trans (hb2.mono (by simp <;> omega))).mono hsz)⟩
        · go_wp2_with fail
          refine (formed_c xk xl xi _ n k _ hI' hl).mono ?_; rintro e w2 ⟨rfl, hb2⟩
          rw [hfm]
          go_wp2_with fail
          go_roundw
          case rel => exact ⟨k + 1, by omega, by go_num, HS.out hfm, hB2.trans (hb2.mono (by simp <;> omega))⟩
          case measure => simp [intOf]; omega
      · obtain rfl : k = L.length := by omega
        have hv := valid_yes (n := n) (L := L) ⟨r1, r2, r3, r4⟩ hf.out
        go_wp2
        go_ret
        exact ⟨by rw [checkNo_t hv]; rfl, hB1.trans (hB.mono hsz)⟩
  · have hv := hid (valid_no hr)
    obtain ⟨p, c, rfl, _⟩ := hN
    have hor : n < 0 ∨ (¬ n < 0 ∧ 128 < n) ∨ (¬ n < 0 ∧ ¬ 128 < n ∧ (L.length : Int) < 1) ∨ (¬ n < 0 ∧ ¬ 128 < n ∧ ¬ (L.length : Int) < 1 ∧ 65536 < (L.length : Int)) := by omega
    clear hr
    rcases hor with h1 | ⟨h1, h2⟩ | ⟨h1, h2, h3⟩ | ⟨h1, h2, h3, h4⟩ <;>
    · go_enter Tryd.func15, Tryd.ntmps15
      go_wp2
      go_ret
      exact ⟨by rw [checkNo_f hv.out]; rfl, hB1⟩
end Go.Proofs.YtpdbfbjfodckgaaDoor
