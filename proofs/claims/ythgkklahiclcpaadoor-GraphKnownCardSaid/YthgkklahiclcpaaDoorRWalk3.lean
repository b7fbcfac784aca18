/- Walks of the reference censusref03: sets out of lists; comparisons. -/
import Derived.Test.YthgkklahiclcpaaDoorRWalk2
namespace Go.Proofs.YthgkklahiclcpaaDoor
open Go.RowKit
attribute [local go_sem] bits_or bits_and bits_andNot

/-- What the row of 'Of' holds after k rounds. -/
def memRow (l : List Int) (k : Nat) (i : Nat) : Bool := decide (1 ≤ i) && decide ((i : Int) ∈ l.take k)
theorem memRow_zero (l : List Int) (i : Nat) : memRow l 0 i = false := by simp [memRow]
theorem take_mem (l : List Int) (k : Nat) (h : k < l.length) (x : Int) : x ∈ l.take (k + 1) ↔ x ∈ l.take k ∨ x = l[k] := by
  rw [List.take_succ_eq_append_getElem h, List.mem_append, List.mem_singleton]
theorem memRow_yes (l : List Int) (k : Nat) (h : k < l.length) (h1 : 1 ≤ l[k]) (i : Nat) : (if i = l[k].toNat then true else memRow l k i) = memRow l (k + 1) i := by
  unfold memRow
  by_cases e : i = l[k].toNat
  · subst e
    rw [if_pos rfl, Bool.eq_iff_iff]
    simp only [true_iff, Bool.and_eq_true, decide_eq_true_eq, take_mem l k h]
    exact ⟨by omega, .inr (by omega)⟩
  · rw [if_neg e, Bool.eq_iff_iff]
    simp only [Bool.and_eq_true, decide_eq_true_eq, take_mem l k h]
    constructor
    · rintro ⟨a, b⟩; exact ⟨a, .inl b⟩
    · rintro ⟨a, b | b⟩
      · exact ⟨a, b⟩
      · omega
theorem memRow_no (l : List Int) (k : Nat) (h : k < l.length) (h1 : l[k] < 1 ∨ 128 < l[k]) (i : Nat) (hi : i < 129) : memRow l k i = memRow l (k + 1) i := by
  unfold memRow
  rw [Bool.eq_iff_iff]
  simp only [Bool.and_eq_true, decide_eq_true_eq, take_mem l k h]
  constructor
  · rintro ⟨a, b⟩; exact ⟨a, .inl b⟩
  · rintro ⟨a, b | b⟩
    · exact ⟨a, b⟩
    · omega
theorem setOf_memRow (l : List Int) : setOf (memRow l l.length) = ofL l := by
  apply ext_has; intro u h1 h2
  rw [has_setOf, has_ofL, memRow, List.take_length, Bool.eq_iff_iff]
  simp only [Bool.and_eq_true, decide_eq_true_eq]
  rw [show ((u.toNat : Nat) : Int) = u by omega]
  simp [h1, h2, show 1 ≤ u.toNat by omega]
def ROf (l : List Int) (w : World) (i : Value) (wr : World) : Prop :=
  ∃ k : Nat, k ≤ l.length ∧ i = .int .i64 k ∧ Below w.heap.size w wr ∧ SetVar wr w.heap.size 0 ∧ BoolRow wr (w.heap.size + 1) (memRow l k)
set_option maxRecDepth 100000 in
set_option maxHeartbeats 1000000 in
theorem rOf_c (v : Value) (l : List Int) (w : World) (hI : IntsAt w v l) (hl : l.length ≤ 140737488355328) :
    Calls Tryd.prog 64 #[v] w fun e w' => e = .returned (encS (ofL l)) ∧ Below w.heap.size w w' := by
  obtain ⟨p, c, rfl, hI⟩ := hI
  have HI := hid hI
  clear hI
  have sr := SetVar.new w 0 35
  have hB0 : Below w.heap.size w (w.alloc (.cells #[.int .u64 0, .int .u64 0] 35)) := ((Below.refl _ w).alloc (Nat.le_refl _) _)
  go_enter Tryd.func64, Tryd.ntmps64
  go_wp2_with (go_at_call 52; refine (rnone_c _).mono ?_; rintro e w1 ⟨rfl, hrow, hb1⟩)
  simp only [World.size_alloc] at hrow hb1
  go_loopw [4] (fun i wr => ROf l w i wr) (fun i _ => l.length - (intOf i).toNat)
  case atStart =>
    exact ⟨0, by omega, rfl, hB0.trans (hb1.mono (by omega)), sr.below hb1 (by omega), hrow.congr fun i _ => (memRow_zero _ i).symm⟩
  case round =>
    clear sr hB0 hrow hb1
    obtain ⟨k, hk, rfl, hb, hr, hrow⟩ := hrel
    have hsz := hrow.lt
    by_cases hlt : k < l.length
    · obtain ⟨b, off, rfl, hI⟩ := HI.out.resolve_left (by intro e; rw [e] at hlt; simp at hlt)
      have hc : wr.cell? ⟨b, off + k, none⟩ = some (.int .i64 l[k]) := by
        have h0 := hI k hlt
        rw [hb.cell (cell_lt h0), h0]; simp [hlt]
      clear hI
      by_cases h1 : 1 ≤ l[k] ∧ l[k] ≤ 128
      · obtain ⟨g1, g2⟩ := h1
        obtain ⟨c1, f1⟩ := hrow.cell (i := l[k].toNat) (by omega)
        have HS := hid ((hrow.set (k := l[k].toNat) (by omega) true).congr fun i _ => memRow_yes l k hlt g1 i)
        have g3 : 0 ≤ l[k] := by omega
        have g4 : l[k] < 129 := by omega
        generalize l[k] = x at *
        go_wp2
        go_roundw
        case rel => exact ⟨k + 1, by omega, by go_num, hb.setCell (by simp) _, hr.other (by simp) _, HS.out⟩
        case measure => simp [intOf]; omega
      · have h2 : l[k] < 1 ∨ 128 < l[k] := by omega
        have HS := hid (hrow.congr fun i hi => memRow_no l k hlt h2 i hi)
        clear h1
        generalize l[k] = x at *
        rcases h2 with h2 | h2
        · go_wp2
          go_roundw
          case rel => exact ⟨k + 1, by omega, by go_num, hb, hr, HS.out⟩
          case measure => simp [intOf]; omega
        · have h3 : 1 ≤ x := by omega
          go_wp2
          go_roundw
          case rel => exact ⟨k + 1, by omega, by go_num, hb, hr, HS.out⟩
          case measure => simp [intOf]; omega
    · obtain rfl : k = l.length := by omega
      go_wp2_with fail
      refine (rset_c _ _ _ hrow).mono ?_; rintro e w2 ⟨rfl, hb2⟩
      have hr2 := hr.below hb2 (by omega)
      obtain ⟨r0, r1, q0, q1⟩ := hr2.cells
      have hB := hb.trans (hb2.mono (by omega))
      clear hb hb2
      rw [setOf_memRow]
      go_wp2
      refine bodyPost_ret (results_set rfl rfl (hr2.store _)) rfl ?_
      exact ⟨rfl, (hB.setCell (by simp <;> omega) _).setCell (by simp <;> omega) _⟩

/-- The two sets agree up to k. -/
def Two (a b : VS) (R : Nat → Prop) (w : World) (i : Value) (wr : World) : Prop :=
  ∃ k : Nat, k ≤ 128 ∧ i = .int .i64 ((k : Int) + 1) ∧ Below w.heap.size w wr ∧ SetVar wr w.heap.size a ∧ SetVar wr (w.heap.size + 1) b ∧ R k
def SubTo (a b : VS) (k : Nat) : Prop := ∀ u : Int, u ≤ k → has a u = true → has b u = true
def SameTo (a b : VS) (k : Nat) : Prop := ∀ u : Int, u ≤ k → has a u = has b u
theorem has_le0 {s : VS} {u : Int} (h : u ≤ ((0 : Nat) : Int)) : has s u = false := has_low (by omega)
theorem SubTo.succ {a b : VS} {k : Nat} (h : SubTo a b k) (h1 : has a ((k : Int) + 1) = true → has b ((k : Int) + 1) = true) : SubTo a b (k + 1) := by
  intro u hu ha
  by_cases e : u = (k : Int) + 1
  · subst e; exact h1 ha
  · exact h u (by omega) ha
theorem SameTo.succ {a b : VS} {k : Nat} (h : SameTo a b k) (h1 : has a ((k : Int) + 1) = has b ((k : Int) + 1)) : SameTo a b (k + 1) := by
  intro u hu
  by_cases e : u = (k : Int) + 1
  · subst e; exact h1
  · exact h u (by omega)
theorem sub_true {a b : VS} (h : SubTo a b 128) : sub a b = true := by
  rw [sub_iff]; intro v hv; exact h v (by have := (has_range hv).2; omega) hv
theorem sub_false {a b : VS} {v : Int} (h1 : has a v = true) (h2 : has b v = false) : sub a b = false := by
  rw [← Bool.not_eq_true, sub_iff]; intro h; rw [h v h1] at h2; cases h2
theorem less_same {a b : VS} (h : SameTo a b 128) : less a b = false := by
  have e : a = b := ext_has fun v h1 h2 => h v (by omega)
  subst e
  have : (minus a a ||| minus a a) = 0 := by
    apply ext_has; intro u _ _; rw [has_or, has_minus, has_zero]; cases has a u <;> rfl
  rw [less, this, first_zero]; rfl
theorem less_at {a b : VS} {k : Nat} (h : SameTo a b k) (h1 : has a ((k : Int) + 1) ≠ has b ((k : Int) + 1)) : less a b = has b ((k : Int) + 1) := by
  have hf : first (minus a b ||| minus b a) = (k : Int) + 1 := by
    apply first_eq
    · rw [has_or, has_minus, has_minus]
      cases ha : has a ((k : Int) + 1) <;> cases hb : has b ((k : Int) + 1) <;> simp_all
    · intro u h2 h3
      rw [has_or, has_minus, has_minus, h u (by omega)]
      cases has b u <;> rfl
  rw [less, hf]
  cases ha : has a ((k : Int) + 1) <;> cases hb : has b ((k : Int) + 1) <;> simp_all
end Go.Proofs.YthgkklahiclcpaaDoor
