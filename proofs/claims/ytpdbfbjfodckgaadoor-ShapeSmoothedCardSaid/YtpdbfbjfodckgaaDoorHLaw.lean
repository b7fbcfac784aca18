/- Walks: what the laws of the chapter look at first: a light net. -/
import Derived.Test.YtpdbfbjfodckgaaDoorHWorks2
namespace Go.Proofs.YtpdbfbjfodckgaaDoor
open Go.RowKit

/-- A light net. -/
def lightB (m : Int) (L : List NodeT) : Bool := (L.all fun x => decide (x.ins.length ≤ 40)) && decide ((L.length : Int) ≤ m)
def lightTo (L : List NodeT) (k : Nat) : Prop := ∀ i (h : i < L.length), i < k → L[i].ins.length ≤ 40
theorem lightB_bad {m : Int} {L : List NodeT} {k : Nat} (hk : k < L.length) (h : 40 < L[k].ins.length) : lightB m L = false := by
  unfold lightB
  have : (L.all fun x => decide (x.ins.length ≤ 40)) = false := by
    rw [List.all_eq_false]
    exact ⟨L[k], List.getElem_mem hk, by simp; omega⟩
  rw [this]; rfl
theorem lightB_all {m : Int} {L : List NodeT} (h : lightTo L L.length) : lightB m L = decide ((L.length : Int) ≤ m) := by
  unfold lightB
  have : (L.all fun x => decide (x.ins.length ≤ 40)) = true := by
    rw [List.all_eq_true]
    intro x hx
    obtain ⟨i, hi, rfl⟩ := List.getElem_of_mem hx
    simpa using h i hi hi
  rw [this]; rfl
theorem light_len {m : Int} {L : List NodeT} (h : lightB m L = true) : (L.length : Int) ≤ m ∧ ∀ x ∈ L, x.ins.length ≤ 40 := by
  unfold lightB at h
  simp only [Bool.and_eq_true, decide_eq_true_eq, List.all_eq_true] at h
  exact ⟨h.2, h.1⟩
/-- A node of a slice that came in. -/
structure NodeIn (w : World) (b o : Nat) (x : NodeT) (v : Value) : Prop where
  kind : w.cell? ⟨b, o, none⟩ = some (.int .i64 x.kind)
  lit : w.cell? ⟨b, o + 1, none⟩ = some (.int .i64 x.lit)
  ins : w.cell? ⟨b, o + 2, none⟩ = some v
  ints : IntsAt w v x.ins
theorem NodeIn.below {w w' : World} {b o : Nat} {x : NodeT} {v : Value} (h : NodeIn w b o x v) (hb : Below w.heap.size w w') : NodeIn w' b o x v :=
  ⟨(hb.cell (cell_lt h.kind)).trans h.kind, (hb.cell (cell_lt h.lit)).trans h.lit, (hb.cell (cell_lt h.ins)).trans h.ins, h.ints.below hb⟩
/-- The slice value v, which came in, reads as the nodes L. -/
def NodesIn (w : World) (v : Value) (L : List NodeT) : Prop :=
  ∃ p c, v = .slice p L.length c ∧ (L = [] ∨ ∃ b off, p = some ⟨b, off, none⟩ ∧ ∀ i (h : i < L.length), ∃ u, NodeIn w b (off + i * 3) L[i] u)
theorem NodesIn.below {w w' : World} {v : Value} {L : List NodeT} (h : NodesIn w v L) (hb : Below w.heap.size w w') : NodesIn w' v L := by
  obtain ⟨p, c, rfl, h⟩ := h
  refine ⟨p, c, rfl, ?_⟩
  rcases h with h | ⟨b, off, rfl, h⟩
  · exact .inl h
  · refine .inr ⟨b, off, rfl, fun i hi => ?_⟩
    obtain ⟨u, hu⟩ := h i hi
    exact ⟨u, hu.below hb⟩
theorem NodesIn.nodes {w : World} {v : Value} {L : List NodeT} (h : NodesIn w v L) (hl : ∀ x ∈ L, x.ins.length ≤ 140737488355328) : NodesAt w v L := by
  obtain ⟨p, c, rfl, h⟩ := h
  refine ⟨p, c, rfl, ?_⟩
  rcases h with h | ⟨b, off, rfl, h⟩
  · exact .inl h
  · refine .inr ⟨b, off, rfl, fun i hi => ?_⟩
    obtain ⟨u, hu⟩ := h i hi
    exact ⟨u, hu.kind, hu.lit, hu.ins, hu.ints, hl _ (List.getElem_mem hi)⟩
set_option maxRecDepth 100000 in
set_option maxHeartbeats 1000000 in
theorem light_c (m n : Int) (L : List NodeT) (v : Value) (w : World) (hN : NodesIn w v L) (hl : L.length ≤ 9223372036854775807) :
    Calls Tryd.prog 12 #[.agg #[.int .i64 n, v], .int .i64 m] w fun e w' => e = .returned (.bool (lightB m L)) ∧ Below w.heap.size w w' := by
  have hB1 : Below w.heap.size w (w.alloc (.cells #[.int .i64 n, v] 24)) := (Below.refl _ w).alloc (Nat.le_refl _) _
  have hx := NetVar.new w n v 24
  replace hN := hN.below hB1
  obtain ⟨p, c, rfl, hN0⟩ := hN
  have HN := hid hN0
  have HB1 := hid hB1
  clear hN0 hB1
  go_enter Tryd.func12, Tryd.ntmps12
  go_wp2_with fail
  generalize w.alloc (.cells #[.int .i64 n, .slice p L.length c] 24) = w1 at *
  obtain ⟨x0, x1⟩ := hx
  have hlt0 : w.heap.size < w1.heap.size := cell_lt x0
  go_loopw [10] (fun i wr => ∃ k : Nat, k ≤ L.length ∧ i = .int .i64 k ∧ Hid (lightTo L k) ∧ Below w1.heap.size w1 wr) (fun i _ => L.length - (intOf i).toNat)
  case atStart => exact ⟨0, Nat.zero_le _, rfl, fun i _ h => by omega, Below.refl _ _⟩
  case round =>
    obtain ⟨k, hk, rfl, hf, hB⟩ := hrel
    have y1 := (hB.cell (p := ⟨w.heap.size, 1, none⟩) hlt0).trans x1
    have hBs := hB.size
    by_cases hlt : k < L.length
    · obtain ⟨b, off, rfl, hN⟩ := HN.out.resolve_left (by intro e; rw [e] at hlt; simp at hlt)
      obtain ⟨u, hu⟩ := hN k hlt
      have hu' := hu.below hB
      have d0 := hu'.kind
      have d1 := hu'.lit
      have d2 := hu'.ins
      have hI := hu'.ints
      have z1 : (0 : Int) ≤ (k : Int) ∧ (k : Int) < (L.length : Int) := by omega
      have HS := hid (fun (h : L[k].ins.length ≤ 40) => (show lightTo L (k + 1) from fun i hi hlt2 => by
        by_cases e : i = k
        · subst e; exact h
        · exact hf.out i hi (by omega)))
      have HV := hid (fun h => lightB_bad (m := m) (L := L) hlt h)
      clear hu hu' hN
      generalize hxx : L[k] = x at *
      clear hxx
      obtain ⟨xk, xl, xi⟩ := x
      obtain ⟨p2, c2, e2, hdrop⟩ := hI
      clear hdrop
      subst e2
      by_cases hgt : 40 < xi.length
      · have hv := HV.out hgt
        have hg : decide ((40 : Int) < (xi.length : Int)) = true := decide_eq_true (by omega)
        go_wp2_with fail
        go_ret
        exact ⟨rfl, HB1.out.trans ((hB.alloc hBs _).mono (by omega))⟩
      · have hg : decide ((40 : Int) < (xi.length : Int)) = false := decide_eq_false (by omega)
        go_wp2_with fail
        go_roundw
        case rel => exact ⟨k + 1, by omega, by go_num, HS.out (by show xi.length ≤ 40; omega), hB.alloc hBs _⟩
        case measure => simp [intOf]; omega
    · obtain rfl : k = L.length := by omega
      have HV := hid (lightB_all (m := m) hf.out)
      by_cases h3 : (L.length : Int) ≤ m
      · have hv : lightB m L = true := by rw [HV.out]; exact decide_eq_true h3
        go_wp2_with fail
        go_ret
        exact ⟨by first | rfl | (rw [hv]; rfl), HB1.out.trans (hB.mono (by omega))⟩
      · have hv : lightB m L = false := by rw [HV.out]; exact decide_eq_false h3
        go_wp2_with fail
        go_ret
        exact ⟨by first | rfl | (rw [hv]; rfl), HB1.out.trans (hB.mono (by omega))⟩
end Go.Proofs.YtpdbfbjfodckgaaDoor
