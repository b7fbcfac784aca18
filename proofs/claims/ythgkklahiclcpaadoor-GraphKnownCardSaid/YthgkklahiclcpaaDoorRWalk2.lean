/- Walks of the reference censusref03: membership and the sets made variable by variable. -/
import Derived.Test.YthgkklahiclcpaaDoorRWalk
import Derived.Test.YthgkklahiclcpaaDoorVWalk4
import Derived.Test.YthgkklahiclcpaaDoorPure
namespace Go.Proofs.YthgkklahiclcpaaDoor
open Go.RowKit
attribute [local go_sem] bits_or bits_and bits_andNot

theorem word_bit (x : BitVec 64) (i : Nat) : ((((x.toNat : Int) / 2 ^ i) % 2 == 1) : Bool) = x.getLsbD i := by
  have h : ((x.toNat : Int) / 2 ^ i) % 2 = ((x.toNat / 2 ^ i % 2 : Nat) : Int) := by push_cast; rfl
  rw [h, Bool.eq_iff_iff]
  show _ ↔ x.toNat.testBit i = true
  rw [Nat.testBit_eq_decide_div_mod_eq]
  simp
  omega
theorem has_word_lo {s : VS} {v : Int} (h1 : 1 ≤ v) (h2 : v ≤ 64) : has s v = ((((lw s).toNat : Int) / 2 ^ ((v - 1) % 64).toNat) % 2 == 1) := by
  rw [word_bit, lo_bit, has]
  simp [h1, show ((v - 1) % 64).toNat = v.toNat - 1 by omega, show v.toNat - 1 < 64 by omega]
theorem has_word_hi {s : VS} {v : Int} (h1 : 65 ≤ v) (h2 : v ≤ 128) : has s v = ((((hw s).toNat : Int) / 2 ^ ((v - 1) % 64).toNat) % 2 == 1) := by
  rw [word_bit, hi_bit, has]
  simp [show 1 ≤ v by omega, show ((v - 1) % 64).toNat = v.toNat - 65 by omega, show v.toNat - 65 < 64 by omega, show 64 + (v.toNat - 65) = v.toNat - 1 by omega]
set_option maxHeartbeats 400000 in
theorem rHas_c (s : VS) (v : Int) (w : World) :
    Calls Tryd.prog 35 #[encS s, .int .i64 v] w fun e w' => e = .returned (.bool (has s v)) ∧ Below w.heap.size w w' := by
  by_cases h1 : v < 1
  · rw [has_low h1]
    go_enter Tryd.func35, Tryd.ntmps35
    go_wp2
    go_returns
    refine ⟨rfl, ?_⟩
    go_grown
  · by_cases h2 : 128 < v
    · rw [has_high h2]
      go_enter Tryd.func35, Tryd.ntmps35
      go_wp2
      go_returns
      refine ⟨rfl, ?_⟩
      go_grown
    · by_cases h3 : v ≤ 64
      · have hq : (v - 1) / 64 = 0 := by omega
        rw [has_word_lo (by omega) h3]
        go_enter Tryd.func35, Tryd.ntmps35
        go_wp2
        go_returns
        refine ⟨rfl, ?_⟩
        go_grown
      · have hq : (v - 1) / 64 = 1 := by omega
        rw [has_word_hi (by omega) (by omega)]
        go_enter Tryd.func35, Tryd.ntmps35
        go_wp2
        go_returns
        refine ⟨rfl, ?_⟩
        go_grown

/-- What a row of booleans holds after k rounds: the predicate, for 1 to k. -/
def upTo (p : Int → Bool) (k : Nat) (i : Nat) : Bool := p i && decide (1 ≤ i) && decide (i ≤ k)
theorem upTo_zero (p : Int → Bool) (i : Nat) : upTo p 0 i = false := by simp [upTo]; omega
theorem upTo_succ (p : Int → Bool) (k : Nat) (i : Nat) : (if i = k + 1 then p ((k : Int) + 1) else upTo p k i) = upTo p (k + 1) i := by
  unfold upTo
  by_cases h : i = k + 1
  · subst h; simp
  · rw [if_neg h, Bool.eq_iff_iff]; simp; omega
theorem setOf_upTo (p : Int → Bool) : setOf (upTo p 128) = ofP p := by
  apply ext_has; intro u h1 h2
  rw [has_setOf, has_ofP, upTo, Bool.eq_iff_iff]
  rw [show ((u.toNat : Nat) : Int) = u by omega]
  simp [h1, h2, show 1 ≤ u.toNat by omega, show u.toNat ≤ 128 by omega]
theorem ofP_and (a b : VS) : ofP (fun v => has a v && has b v) = a &&& b := by
  apply ext_has; intro u h1 h2; rw [has_ofP, has_and]; simp [h1, h2]
theorem ofP_minus (a b : VS) : ofP (fun v => has a v && !has b v) = minus a b := by
  apply ext_has; intro u h1 h2; rw [has_ofP, has_minus]; simp [h1, h2]
theorem ofP_without (a : VS) (v : Int) : ofP (fun u => has a u && (u != v)) = withoutV a v := by
  apply ext_has; intro u h1 h2; rw [has_ofP, has_withoutV]; simp [h1, h2, bne]; rfl

def Row2 (a b : VS) (p : Int → Bool) (w : World) (i : Value) (wr : World) : Prop :=
  ∃ k : Nat, k ≤ 128 ∧ i = .int .i64 ((k : Int) + 1) ∧ Below w.heap.size w wr ∧ SetVar wr w.heap.size a ∧ SetVar wr (w.heap.size + 1) b ∧ SetVar wr (w.heap.size + 1 + 1) 0 ∧ BoolRow wr (w.heap.size + 1 + 1 + 1) (upTo p k)

set_option maxHeartbeats 1000000 in
theorem rCut_c (a b : VS) (w : World) :
    Calls Tryd.prog 26 #[encS a, encS b] w fun e w' => e = .returned (encS (a &&& b)) ∧ Below w.heap.size w w' := by
  have sa := ((SetVar.new w a 35).alloc (.cells #[.int .u64 ((lw b).toNat : Int), .int .u64 ((hw b).toNat : Int)] 35)).alloc (.cells #[.int .u64 0, .int .u64 0] 35)
  have sb := (SetVar.new (w.alloc (.cells #[.int .u64 ((lw a).toNat : Int), .int .u64 ((hw a).toNat : Int)] 35)) b 35).alloc (.cells #[.int .u64 0, .int .u64 0] 35)
  have sr := SetVar.new ((w.alloc (.cells #[.int .u64 ((lw a).toNat : Int), .int .u64 ((hw a).toNat : Int)] 35)).alloc (.cells #[.int .u64 ((lw b).toNat : Int), .int .u64 ((hw b).toNat : Int)] 35)) 0 35
  have hB0 : Below w.heap.size w (((w.alloc (.cells #[.int .u64 ((lw a).toNat : Int), .int .u64 ((hw a).toNat : Int)] 35)).alloc (.cells #[.int .u64 ((lw b).toNat : Int), .int .u64 ((hw b).toNat : Int)] 35)).alloc (.cells #[.int .u64 0, .int .u64 0] 35)) := (((Below.refl _ w).alloc (Nat.le_refl _) _).alloc (by simp) _).alloc (by simp <;> omega) _
  simp only [World.size_alloc] at sb sr
  go_enter Tryd.func26, Tryd.ntmps26
  go_wp2_with (go_at_call 52; refine (rnone_c _).mono ?_; rintro e w1 ⟨rfl, hrow, hb1⟩)
  simp only [World.size_alloc] at hrow hb1
  go_loopw [6] (fun i wr => Row2 a b (fun v => has a v && has b v) w i wr) (fun i _ => 130 - (intOf i).toNat)
  case atStart =>
    exact ⟨0, by omega, rfl, hB0.trans (hb1.mono (by omega)), sa.below hb1 (by omega), sb.below hb1 (by omega), sr.below hb1 (by omega), hrow.congr fun i _ => (upTo_zero _ i).symm⟩
  case round =>
    clear sa sb sr hB0 hrow hb1
    obtain ⟨k, hk, rfl, hb, ha, hbb, hr, hrow⟩ := hrel
    have hsz := hrow.lt
    by_cases h128 : k = 128
    · subst h128
      go_wp2_with fail
      refine (rset_c _ _ _ hrow).mono ?_; rintro e w2 ⟨rfl, hb2⟩
      have hr2 := hr.below hb2 (by omega)
      obtain ⟨r0, r1, q0, q1⟩ := hr2.cells
      have hB := hb.trans (hb2.mono (by omega))
      clear hb hb2
      rw [setOf_upTo, ofP_and]
      go_wp2
      refine bodyPost_ret (results_set rfl rfl (hr2.store _)) rfl ?_
      exact ⟨rfl, (hB.setCell (by simp <;> omega) _).setCell (by simp <;> omega) _⟩
    · have hlt : (k : Int) + 1 ≤ 128 := by omega
      obtain ⟨a0, a1, _, _⟩ := ha.cells
      obtain ⟨c1, f1⟩ := hrow.cell (i := k + 1) (by omega)
      have HP : Hid (upTo (fun v => has a v && has b v) (k + 1) = fun i => if i = k + 1 then (has a ((k : Int) + 1) && has b ((k : Int) + 1)) else upTo (fun v => has a v && has b v) k i) := by
        funext i; exact (upTo_succ (fun v => has a v && has b v) k i).symm
      have fin : ∀ (x : Bool) (W : World), (has a ((k : Int) + 1) && has b ((k : Int) + 1)) = x → Below wr.heap.size wr W → Row2 a b (fun v => has a v && has b v) w (.int .i64 ((k : Int) + 1 + 1)) (W.setCell ⟨w.heap.size + 1 + 1 + 1, k + 1, none⟩ (.bool x)) := by
        intro x W hx hW
        refine ⟨k + 1, by omega, rfl, (hb.trans (hW.mono (by omega))).setCell (by simp <;> omega) _, (ha.below hW (by omega)).other (by simp <;> omega) _, (hbb.below hW (by omega)).other (by simp <;> omega) _, (hr.below hW (by omega)).other (by simp) _, ?_⟩
        have := (hrow.below hW hsz).set (k := k + 1) (by omega) x
        rw [HP.out, hx]; exact this
      have FIN := hid fin
      clear fin h128
      cases hha : has a ((k : Int) + 1)
      · go_wp2_with fail
        refine (rHas_c _ _ _).mono ?_; rintro e w2 ⟨rfl, hb2⟩
        have c2 := (hb2.cell (p := ⟨w.heap.size + 1 + 1 + 1, k + 1, none⟩) hsz).trans c1
        have f2 := (hb2.frozen (p := ⟨w.heap.size + 1 + 1 + 1, k + 1, none⟩) hsz).trans f1
        clear c1 f1 a0 a1
        have HF := hid (FIN.out false w2 (by rw [hha]; rfl) hb2)
        rw [hha]
        go_wp2
        go_roundw
        case rel => exact HF.out
        case measure => simp [intOf]; omega
      · go_wp2_with fail
        refine (rHas_c _ _ _).mono ?_; rintro e w2 ⟨rfl, hb2⟩
        obtain ⟨b0, b1, _, _⟩ := (hbb.below hb2 (by omega)).cells
        clear a0 a1
        rw [hha]
        go_wp2_with fail
        refine (rHas_c _ _ _).mono ?_; rintro e w3 ⟨rfl, hb3⟩
        have hb23 := hb2.trans (hb3.mono hb2.size)
        have c2 := (hb23.cell (p := ⟨w.heap.size + 1 + 1 + 1, k + 1, none⟩) hsz).trans c1
        have f2 := (hb23.frozen (p := ⟨w.heap.size + 1 + 1 + 1, k + 1, none⟩) hsz).trans f1
        clear c1 f1 b0 b1
        have HF := hid (FIN.out (has b ((k : Int) + 1)) w3 (by rw [hha]; rfl) hb23)
        go_wp2
        go_roundw
        case rel => exact HF.out
        case measure => simp [intOf]; omega

def Row1 (a : VS) (p : Int → Bool) (w : World) (i : Value) (wr : World) : Prop :=
  ∃ k : Nat, k ≤ 128 ∧ i = .int .i64 ((k : Int) + 1) ∧ Below w.heap.size w wr ∧ SetVar wr w.heap.size a ∧ SetVar wr (w.heap.size + 1) 0 ∧ BoolRow wr (w.heap.size + 1 + 1) (upTo p k)
set_option maxHeartbeats 1000000 in
theorem rWithout_c (a : VS) (v : Int) (w : World) :
    Calls Tryd.prog 24 #[encS a, .int .i64 v] w fun e w' => e = .returned (encS (withoutV a v)) ∧ Below w.heap.size w w' := by
  have sa := ((SetVar.new w a 35).alloc (.cells #[.int .u64 0, .int .u64 0] 35))
  have sr := SetVar.new (w.alloc (.cells #[.int .u64 ((lw a).toNat : Int), .int .u64 ((hw a).toNat : Int)] 35)) 0 35
  have hB0 : Below w.heap.size w ((w.alloc (.cells #[.int .u64 ((lw a).toNat : Int), .int .u64 ((hw a).toNat : Int)] 35)).alloc (.cells #[.int .u64 0, .int .u64 0] 35)) := ((Below.refl _ w).alloc (Nat.le_refl _) _).alloc (by simp) _
  simp only [World.size_alloc] at sr
  go_enter Tryd.func24, Tryd.ntmps24
  go_wp2_with (go_at_call 52; refine (rnone_c _).mono ?_; rintro e w1 ⟨rfl, hrow, hb1⟩)
  simp only [World.size_alloc] at hrow hb1
  go_loopw [6] (fun i wr => Row1 a (fun u => has a u && (u != v)) w i wr) (fun i _ => 130 - (intOf i).toNat)
  case atStart =>
    exact ⟨0, by omega, rfl, hB0.trans (hb1.mono (by omega)), sa.below hb1 (by omega), sr.below hb1 (by omega), hrow.congr fun i _ => (upTo_zero _ i).symm⟩
  case round =>
    clear sa sr hB0 hrow hb1
    obtain ⟨k, hk, rfl, hb, ha, hr, hrow⟩ := hrel
    have hsz := hrow.lt
    by_cases h128 : k = 128
    · subst h128
      go_wp2_with fail
      refine (rset_c _ _ _ hrow).mono ?_; rintro e w2 ⟨rfl, hb2⟩
      have hr2 := hr.below hb2 (by omega)
      obtain ⟨r0, r1, q0, q1⟩ := hr2.cells
      have hB := hb.trans (hb2.mono (by omega))
      clear hb hb2
      rw [setOf_upTo, ofP_without]
      go_wp2
      refine bodyPost_ret (results_set rfl rfl (hr2.store _)) rfl ?_
      exact ⟨rfl, (hB.setCell (by simp <;> omega) _).setCell (by simp <;> omega) _⟩
    · have hlt : (k : Int) + 1 ≤ 128 := by omega
      obtain ⟨a0, a1, _, _⟩ := ha.cells
      obtain ⟨c1, f1⟩ := hrow.cell (i := k + 1) (by omega)
      have HP : Hid (upTo (fun u => has a u && (u != v)) (k + 1) = fun i => if i = k + 1 then (has a ((k : Int) + 1) && (((k : Int) + 1) != v)) else upTo (fun u => has a u && (u != v)) k i) := by
        funext i; exact (upTo_succ (fun u => has a u && (u != v)) k i).symm
      have fin : ∀ (x : Bool) (W : World), (has a ((k : Int) + 1) && (((k : Int) + 1) != v)) = x → Below wr.heap.size wr W → Row1 a (fun u => has a u && (u != v)) w (.int .i64 ((k : Int) + 1 + 1)) (W.setCell ⟨w.heap.size + 1 + 1, k + 1, none⟩ (.bool x)) := by
        intro x W hx hW
        refine ⟨k + 1, by omega, rfl, (hb.trans (hW.mono (by omega))).setCell (by simp <;> omega) _, (ha.below hW (by omega)).other (by simp <;> omega) _, (hr.below hW (by omega)).other (by simp) _, ?_⟩
        have := (hrow.below hW hsz).set (k := k + 1) (by omega) x
        rw [HP.out, hx]; exact this
      have FIN := hid fin
      clear fin h128
      cases hha : has a ((k : Int) + 1)
      all_goals
        cases hv : (((k : Int) + 1) != v)
        all_goals
          go_wp2_with fail
          refine (rHas_c _ _ _).mono ?_; rintro e w2 ⟨rfl, hb2⟩
          have c2 := (hb2.cell (p := ⟨w.heap.size + 1 + 1, k + 1, none⟩) hsz).trans c1
          have f2 := (hb2.frozen (p := ⟨w.heap.size + 1 + 1, k + 1, none⟩) hsz).trans f1
          clear c1 f1 a0 a1
          have HF := hid (FIN.out _ w2 (by rw [hha, hv]) hb2)
          rw [hha]
          go_wp2
          go_roundw
          case rel => exact HF.out
          case measure => simp [intOf]; omega
set_option maxRecDepth 100000 in
set_option maxHeartbeats 400000 in
theorem rAll_c (n : Int) (w : World) :
    Calls Tryd.prog 27 #[.int .i64 n] w fun e w' => e = .returned (encS (allV n)) ∧ Below w.heap.size w w' := by
  have sr := SetVar.new w 0 35
  have hB0 : Below w.heap.size w (w.alloc (.cells #[.int .u64 0, .int .u64 0] 35)) := ((Below.refl _ w).alloc (Nat.le_refl _) _)
  go_enter Tryd.func27, Tryd.ntmps27
  go_wp2_with (go_at_call 52; refine (rnone_c _).mono ?_; rintro e w1 ⟨rfl, hrow, hb1⟩)
  simp only [World.size_alloc] at hrow hb1
  go_loopw [4] (fun i wr => ∃ k : Nat, k ≤ 128 ∧ ((k : Int) ≤ n ∨ k = 0) ∧ i = .int .i64 ((k : Int) + 1) ∧ Below w.heap.size w wr ∧ SetVar wr w.heap.size 0 ∧ BoolRow wr (w.heap.size + 1) (upTo (fun u => decide (u ≤ n)) k)) (fun i _ => 130 - (intOf i).toNat)
  case atStart =>
    exact ⟨0, by omega, by omega, rfl, hB0.trans (hb1.mono (by omega)), sr.below hb1 (by omega), hrow.congr fun i _ => (upTo_zero _ i).symm⟩
  case round =>
    clear sr hB0 hrow hb1
    obtain ⟨k, hk, hk2, rfl, hb, hr, hrow⟩ := hrel
    have hsz := hrow.lt
    by_cases hgo : k + 1 ≤ 128 ∧ (k : Int) + 1 ≤ n
    · obtain ⟨g1, g2⟩ := hgo
      have g3 : (k : Int) + 1 ≤ 128 := by omega
      obtain ⟨c1, f1⟩ := hrow.cell (i := k + 1) (by omega)
      have hset := hrow.set (k := k + 1) (by omega) true
      have HS := hid hset
      have HK := hid hk2
      clear hset hk2
      go_wp2
      go_roundw
      case rel =>
        refine ⟨k + 1, by omega, by omega, by go_num, hb.setCell (by simp) _, hr.other (by simp) _, HS.out.congr fun i _ => ?_⟩
        rw [← upTo_succ]
        simp [g2]
      case measure => simp [intOf]; omega
    · have e : ofP (fun u => decide (u ≤ n)) = setOf (upTo (fun u => decide (u ≤ n)) k) := by
        apply ext_has; intro u h1 h2
        rw [has_ofP, has_setOf, upTo, Bool.eq_iff_iff, show ((u.toNat : Nat) : Int) = u by omega]
        simp only [Bool.and_eq_true, decide_eq_true_eq]
        omega
      have HE := hid e
      have HK := hid hk2
      clear e hk2
      have hor : (128 < (k : Int) + 1) ∨ ((k : Int) + 1 ≤ 128 ∧ n < (k : Int) + 1) := by omega
      clear hgo
      have hor2 : k = 128 ∨ ((k : Int) + 1 ≤ 128 ∧ n < (k : Int) + 1) := by omega
      clear hor
      rcases hor2 with rfl | ⟨h, h'⟩
      all_goals
        go_wp2_with fail
        refine (rset_c _ _ _ hrow).mono ?_; rintro e w2 ⟨rfl, hb2⟩
        have hr2 := hr.below hb2 (by omega)
        obtain ⟨r0, r1, q0, q1⟩ := hr2.cells
        have hB := hb.trans (hb2.mono (by omega))
        clear hb hb2
        rw [← HE.out]
        go_wp2
        refine bodyPost_ret (results_set rfl rfl (hr2.store _)) rfl ?_
        exact ⟨rfl, (hB.setCell (by simp <;> omega) _).setCell (by simp <;> omega) _⟩
end Go.Proofs.YthgkklahiclcpaaDoor
