/- Walks of the references censusref05 and censusref21: membership, a set with a variable, unions, common variables. -/
import Derived.Test.YtpdbfbjfodckgaaDoorHWorks2
import Derived.Test.YtpdbfbjfodckgaaDoorPure
namespace Go.Proofs.YtpdbfbjfodckgaaDoor
open Go.RowKit
attribute [local go_sem] bits_or bits_and bits_andNot

theorem word_bit (x : BitVec 64) (i : Nat) : ((((x.toNat : Int) / 2 ^ i) % 2 == 1) : Bool) = x.getLsbD i := by
  have h : ((x.toNat : Int) / 2 ^ i) % 2 = ((x.toNat / 2 ^ i % 2 : Nat) : Int) := by push_cast; rfl
  rw [h, Bool.eq_iff_iff]
  show _ ↔ x.toNat.testBit i = true
  rw [Nat.testBit_eq_decide_div_mod_eq]
  simp
  omega
theorem has_word_lo {s : VS} {v : Int} (h1 : 1 ≤ v) (h2 : v ≤ 64) : has s v = ((((lw s).toNat : Int) / 2 ^ ((v - 1) % 64).toNat) % 2 == 1) := by
  rw [word_bit, lo_bit, has]
  simp [h1, show ((v - 1) % 64).toNat = v.toNat - 1 by omega, show v.toNat - 1 < 64 by omega]
theorem has_word_hi {s : VS} {v : Int} (h1 : 65 ≤ v) (h2 : v ≤ 128) : has s v = ((((hw s).toNat : Int) / 2 ^ ((v - 1) % 64).toNat) % 2 == 1) := by
  rw [word_bit, hi_bit, has]
  simp [show 1 ≤ v by omega, show ((v - 1) % 64).toNat = v.toNat - 65 by omega, show v.toNat - 65 < 64 by omega, show 64 + (v.toNat - 65) = v.toNat - 1 by omega]
set_option maxHeartbeats 400000 in
theorem has5_c (s : VS) (v : Int) (w : World) :
    Calls Tryd.prog 54 #[encS s, .int .i64 v] w fun e w' => e = .returned (.bool (has s v)) ∧ Below w.heap.size w w' := by
  by_cases h1 : v < 1
  · rw [has_low h1]
    have d1 : decide (1 ≤ v) = false := decide_eq_false (by omega)
    go_enter Tryd.func54, Tryd.ntmps54
    go_wp2
    go_returns
    refine ⟨rfl, ?_⟩
    go_grown
  · have d1 : decide (1 ≤ v) = true := decide_eq_true (by omega)
    by_cases h2 : 128 < v
    · rw [has_high h2]
      have d2 : decide (v ≤ 128) = false := decide_eq_false (by omega)
      go_enter Tryd.func54, Tryd.ntmps54
      go_wp2
      go_returns
      refine ⟨rfl, ?_⟩
      go_grown
    · have d2 : decide (v ≤ 128) = true := decide_eq_true (by omega)
      by_cases h3 : v ≤ 64
      · have hq : (v - 1) / 64 = 0 := by omega
        rw [has_word_lo (by omega) h3]
        go_enter Tryd.func54, Tryd.ntmps54
        go_wp2
        go_returns
        refine ⟨rfl, ?_⟩
        go_grown
      · have hq : (v - 1) / 64 = 1 := by omega
        rw [has_word_hi (by omega) (by omega)]
        go_enter Tryd.func54, Tryd.ntmps54
        go_wp2
        go_returns
        refine ⟨rfl, ?_⟩
        go_grown
theorem withV_has {s : VS} {v : Int} (h : has s v = true) : withV s v = s := by
  refine ext_has fun u h1 h2 => ?_
  rw [has_withV]
  by_cases e : u = v
  · subst e; rw [h]; rfl
  · simp [e]
theorem add_word {a b : BitVec 64} (h : and64 a b = 0) : IntKind.u64.wrap ((a.toNat : Int) + (b.toNat : Int)) = ((or64 a b).toNat : Int) := by
  have e : a + b = or64 a b := BitVec.add_eq_or_of_and_eq_zero a b h
  rw [← e, ← wrap_u64_bv (a + b)]
  have h2 : (((a + b).toNat : Nat) : Int) = ((a.toNat : Int) + (b.toNat : Int)) % 18446744073709551616 := by rw [BitVec.toNat_add]; omega
  rw [h2]
  simp only [IntKind.wrap, show (2 : Int) ^ IntKind.u64.bits = 18446744073709551616 from rfl, Int.emod_emod_of_dvd _ (Int.dvd_refl _)]
theorem free_lo {s : VS} {v : Int} (h1 : 1 ≤ v) (h2 : v ≤ 64) (h : has s v = false) : and64 (lw s) (lw (one v)) = 0 := by
  rw [has_lo h1 h2] at h
  simp only [bne_eq_false_iff_eq] at h
  exact BitVec.eq_of_toNat_eq (by simpa using h)
theorem free_hi {s : VS} {v : Int} (h1 : 65 ≤ v) (h2 : v ≤ 128) (h : has s v = false) : and64 (hw s) (hw (one v)) = 0 := by
  rw [has_hi h1 h2] at h
  simp only [bne_eq_false_iff_eq] at h
  exact BitVec.eq_of_toNat_eq (by simpa using h)
theorem add_lo {s : VS} {v : Int} (h1 : 1 ≤ v) (h2 : v ≤ 64) (h : has s v = false) : IntKind.u64.wrap (((lw s).toNat : Int) + IntKind.u64.wrap (2 ^ ((v - 1) % 64).toNat)) = ((lw (withV s v)).toNat : Int) := by
  rw [← lo_one h1 h2, add_word (free_lo h1 h2 h), lo_withV]
theorem add_hi {s : VS} {v : Int} (h1 : 65 ≤ v) (h2 : v ≤ 128) (h : has s v = false) : IntKind.u64.wrap (((hw s).toNat : Int) + IntKind.u64.wrap (2 ^ ((v - 1) % 64).toNat)) = ((hw (withV s v)).toNat : Int) := by
  rw [← hi_one h1 h2, add_word (free_hi h1 h2 h), hi_withV]
set_option maxHeartbeats 400000 in
theorem with21_c (s : VS) (v : Int) (w : World) (h1 : 1 ≤ v) (h2 : v ≤ 128) :
    Calls Tryd.prog 59 #[encS s, .int .i64 v] w fun e w' => e = .returned (encS (withV s v)) ∧ Below w.heap.size w w' := by
  have hB : Below w.heap.size w ((w.alloc (.cells #[.int .u64 ((lw s).toNat : Int), .int .u64 ((hw s).toNat : Int)] 42)).alloc (.cells #[.int .u64 0, .int .u64 0] 42)) := ((Below.refl _ w).alloc (Nat.le_refl _) _).alloc (by simp) _
  have hv : SetVar ((w.alloc (.cells #[.int .u64 ((lw s).toNat : Int), .int .u64 ((hw s).toNat : Int)] 42)).alloc (.cells #[.int .u64 0, .int .u64 0] 42)) w.heap.size s := (SetVar.new w s 42).alloc _
  have hr : SetVar ((w.alloc (.cells #[.int .u64 ((lw s).toNat : Int), .int .u64 ((hw s).toNat : Int)] 42)).alloc (.cells #[.int .u64 0, .int .u64 0] 42)) (w.heap.size + 1) 0 := by
    have := SetVar.new (w.alloc (.cells #[.int .u64 ((lw s).toNat : Int), .int .u64 ((hw s).toNat : Int)] 42)) 0 42
    rw [World.size_alloc] at this
    exact this
  have HV := hid hv
  have HR := hid hr
  have HB := hid hB
  clear hv hr hB
  cases hh : has s v
  · by_cases h3 : v ≤ 64
    · have hq : (v - 1) / 64 = 0 := by omega
      have HA := hid (add_lo h1 h3 hh)
      have HH := hid (show hw (withV s v) = hw s from by rw [hi_withV, hi_one_low h3, or64_zero])
      go_enter Tryd.func59, Tryd.ntmps59
      go_wp2_with fail
      refine (has5_c s v _).mono ?_
      rintro e w2 ⟨rfl, hb2⟩
      rw [hh]
      have hv2 := HV.out.below hb2 (by simp; omega)
      have hr2 := HR.out.below hb2 (by simp)
      have hB2 := HB.out.trans (hb2.mono HB.out.size)
      have hrl := hr2.lt
      obtain ⟨s0, s1, f0, f1⟩ := hv2.cells
      obtain ⟨r0, r1, g0, g1⟩ := hr2.cells
      clear hb2 HB HV HR
      go_wp2_with fail
      rw [HA.out, ← HH.out]
      refine bodyPost_ret (results_set rfl rfl ((hr2.other (by simp) _).store _)) rfl ?_
      exact ⟨rfl, ((hB2.setCell (by simp) _).setCell (by simp) _).setCell (by simp) _⟩
    · have hq : (v - 1) / 64 = 1 := by omega
      have HA := hid (add_hi (by omega) h2 hh)
      have HH := hid (show lw (withV s v) = lw s from by rw [lo_withV, lo_one_high (by omega), or64_zero])
      go_enter Tryd.func59, Tryd.ntmps59
      go_wp2_with fail
      refine (has5_c s v _).mono ?_
      rintro e w2 ⟨rfl, hb2⟩
      rw [hh]
      have hv2 := HV.out.below hb2 (by simp; omega)
      have hr2 := HR.out.below hb2 (by simp)
      have hB2 := HB.out.trans (hb2.mono HB.out.size)
      have hrl := hr2.lt
      obtain ⟨s0, s1, f0, f1⟩ := hv2.cells
      obtain ⟨r0, r1, g0, g1⟩ := hr2.cells
      clear hb2 HB HV HR
      go_wp2_with fail
      rw [HA.out, ← HH.out]
      refine bodyPost_ret (results_set rfl rfl ((hr2.other (by simp) _).store _)) rfl ?_
      exact ⟨rfl, ((hB2.setCell (by simp) _).setCell (by simp) _).setCell (by simp) _⟩
  · rw [withV_has hh]
    go_enter Tryd.func59, Tryd.ntmps59
    go_wp2_with fail
    refine (has5_c s v _).mono ?_
    rintro e w2 ⟨rfl, hb2⟩
    rw [hh]
    have hv2 := HV.out.below hb2 (by simp; omega)
    have hr2 := HR.out.below hb2 (by simp)
    have hB2 := HB.out.trans (hb2.mono HB.out.size)
    have hrl := hr2.lt
    obtain ⟨s0, s1, f0, f1⟩ := hv2.cells
    obtain ⟨r0, r1, g0, g1⟩ := hr2.cells
    clear hb2 HB HV HR
    go_wp2_with fail
    refine bodyPost_ret (results_set rfl rfl (hr2.store _)) rfl ?_
    exact ⟨rfl, (hB2.setCell (by simp) _).setCell (by simp) _⟩
def acc (a b : VS) (k : Int) : VS := a ||| (b &&& allV k)
theorem acc_zero (a b : VS) : acc a b 0 = a := by
  refine ext_has fun u h1 h2 => ?_
  unfold acc
  rw [has_or, has_and, has_allV, decide_eq_false (show ¬ u ≤ 0 by omega)]; simp
theorem acc_all (a b : VS) : acc a b 128 = a ||| b := by
  refine ext_has fun u h1 h2 => ?_
  unfold acc
  rw [has_or, has_and, has_or, has_allV, decide_eq_true h2, decide_eq_true h1]; simp
theorem acc_with {a b : VS} {k : Int} (_h0 : 0 ≤ k) (_h1 : k < 128) (h : has b (k + 1) = true) : withV (acc a b k) (k + 1) = acc a b (k + 1) := by
  refine ext_has fun u hu1 hu2 => ?_
  unfold acc
  rw [has_withV, has_or, has_or, has_and, has_and, has_allV, has_allV, decide_eq_true hu1, decide_eq_true hu2]
  by_cases e : u = k + 1
  · subst e; rw [h, decide_eq_true (show (1 : Int) ≤ k + 1 by omega), decide_eq_true (show k + 1 ≤ (128 : Int) by omega)]; simp
  · by_cases e2 : u ≤ k
    · rw [decide_eq_true e2, decide_eq_true (show u ≤ k + 1 by omega)]; simp [e]
    · rw [decide_eq_false e2, decide_eq_false (show ¬ u ≤ k + 1 by omega)]; simp [e]
theorem acc_out {a b : VS} {k : Int} (h : has b (k + 1) = false) : acc a b (k + 1) = acc a b k := by
  refine ext_has fun u hu1 hu2 => ?_
  unfold acc
  rw [has_or, has_or, has_and, has_and, has_allV, has_allV]
  by_cases e : u = k + 1
  · subst e; rw [h]; simp
  · by_cases e2 : u ≤ k
    · rw [decide_eq_true e2, decide_eq_true (show u ≤ k + 1 by omega)]
    · rw [decide_eq_false e2, decide_eq_false (show ¬ u ≤ k + 1 by omega)]
set_option maxRecDepth 100000 in
set_option maxHeartbeats 1000000 in
theorem union21_c (a b : VS) (w : World) : Calls Tryd.prog 53 #[encS a, encS b] w fun e w' => e = .returned (encS (a ||| b)) ∧ Below w.heap.size w w' := by
  have hB : Below w.heap.size w (((w.alloc (.cells #[.int .u64 ((lw a).toNat : Int), .int .u64 ((hw a).toNat : Int)] 42)).alloc (.cells #[.int .u64 ((lw b).toNat : Int), .int .u64 ((hw b).toNat : Int)] 42)).alloc (.cells #[.int .u64 0, .int .u64 0] 42)) := (((Below.refl _ w).alloc (Nat.le_refl _) _).alloc (by simp) _).alloc (by simp; omega) _
  have h1 := ((SetVar.new w a 42).alloc (.cells #[.int .u64 ((lw b).toNat : Int), .int .u64 ((hw b).toNat : Int)] 42)).alloc (.cells #[.int .u64 0, .int .u64 0] 42)
  have h2 := (SetVar.new (w.alloc (.cells #[.int .u64 ((lw a).toNat : Int), .int .u64 ((hw a).toNat : Int)] 42)) b 42).alloc (.cells #[.int .u64 0, .int .u64 0] 42)
  have h3 := SetVar.new ((w.alloc (.cells #[.int .u64 ((lw a).toNat : Int), .int .u64 ((hw a).toNat : Int)] 42)).alloc (.cells #[.int .u64 ((lw b).toNat : Int), .int .u64 ((hw b).toNat : Int)] 42)) 0 42
  rw [World.size_alloc] at h2 h3
  rw [World.size_alloc] at h3
  have H1 := hid h1
  have H2 := hid h2
  have H3 := hid h3
  have HB := hid hB
  clear h1 h2 h3 hB
  go_enter Tryd.func53, Tryd.ntmps53
  go_wp2_with fail
  go_loopw [5] (fun i wr => ∃ k : Nat, k ≤ 128 ∧ i = .int .i64 ((k : Int) + 1) ∧ Hid (SetVar wr w.heap.size (acc a b k)) ∧ Hid (SetVar wr (w.heap.size + 1) b) ∧ Hid (SetVar wr (w.heap.size + 1 + 1) 0) ∧ Hid (Below w.heap.size w wr)) (fun i _ => 129 - (intOf i).toNat)
  case atStart => exact ⟨0, by omega, by simp, by rw [show ((0 : Nat) : Int) = 0 from rfl, acc_zero]; exact H1.out, H2.out, H3.out, HB.out⟩
  case round =>
    clear H1 H2 H3 HB
    obtain ⟨k, hk, rfl, g1, g2, g3, hbr⟩ := hrel
    obtain ⟨s0, s1, f0, f1⟩ := g1.out.cells
    obtain ⟨t0, t1, _, _⟩ := g2.out.cells
    obtain ⟨r0, r1, p0, p1⟩ := g3.out.cells
    have l2 := g2.out.lt
    have l3 := g3.out.lt
    by_cases hlt : k < 128
    · go_wp2_with fail
      refine (has5_c b ((k : Int) + 1) _).mono ?_
      rintro e w2 ⟨rfl, hb2⟩
      have G1 := hid (g1.out.below hb2 (by omega))
      have G2 := hid (g2.out.below hb2 l2)
      have G3 := hid (g3.out.below hb2 l3)
      have GB := hid (hbr.out.trans (hb2.mono hbr.out.size))
      clear s0 s1 f0 f1 t0 t1 r0 r1 p0 p1 g1 g2 g3 hbr hb2
      cases hh : has b ((k : Int) + 1)
      · have HA := hid (acc_out (a := a) hh)
        go_wp2_with fail
        go_roundw
        case rel => exact ⟨k + 1, by omega, by go_num, by rw [show ((k + 1 : Nat) : Int) = (k : Int) + 1 by omega, HA.out]; exact G1.out, G2.out, G3.out, GB.out⟩
        case measure => simp [intOf]; omega
      · have HA := hid (acc_with (a := a) (by omega) (by omega) hh)
        obtain ⟨s0, s1, f0, f1⟩ := G1.out.cells
        go_wp2_with fail
        refine (with21_c (acc a b k) ((k : Int) + 1) _ (by omega) (by omega)).mono ?_
        rintro e w3 ⟨rfl, hb3⟩
        rw [HA.out]
        have l2' := G2.out.lt
        have l3' := G3.out.lt
        have G1' := G1.out.below hb3 (by omega)
        have G2' := hid (G2.out.below hb3 l2')
        have G3' := hid (G3.out.below hb3 l3')
        have GB' := hid (GB.out.trans (hb3.mono GB.out.size))
        clear s0 s1 f0 f1 hb3 G2 G3 GB
        obtain ⟨s0, s1, f0, f1⟩ := G1'.cells
        go_wp2_with fail
        go_roundw
        case rel =>
          refine ⟨k + 1, by omega, by go_num, ?_, (G2'.out.other (by simp) _).other (by simp) _, (G3'.out.other (by simp; omega) _).other (by simp; omega) _, (GB'.out.setCell (by simp) _).setCell (by simp) _⟩
          rw [show ((k + 1 : Nat) : Int) = (k : Int) + 1 by omega]
          exact G1'.store _
        case measure => simp [intOf]; omega
    · obtain rfl : k = 128 := by omega
      have e : acc a b ((128 : Nat) : Int) = a ||| b := acc_all a b
      rw [e] at g1
      clear s0 s1
      obtain ⟨s0, s1, _, _⟩ := g1.out.cells
      have GB := hid hbr.out
      have G3 := hid g3.out
      clear g1 g2 g3 hbr e
      go_wp2_with fail
      refine bodyPost_ret (results_set rfl rfl (G3.out.store _)) rfl ?_
      exact ⟨rfl, (GB.out.setCell (by simp; omega) _).setCell (by simp; omega) _⟩
theorem meets_at {a b : VS} {v : Int} (ha : has a v = true) (hb : has b v = true) : (a &&& b == 0) = false := by
  cases e : (a &&& b == 0) with
  | false => rfl
  | true =>
    rw [beq_iff_eq] at e
    have : has (a &&& b) v = false := by rw [e, has_zero]
    rw [has_and, ha, hb] at this; cases this
theorem meets_no {a b : VS} (h : ∀ v : Int, 1 ≤ v → v ≤ 128 → (has a v && has b v) = false) : (a &&& b == 0) = true := by
  rw [beq_iff_eq]
  refine ext_has fun u h1 h2 => ?_
  rw [has_and, has_zero, h u h1 h2]
set_option maxRecDepth 100000 in
set_option maxHeartbeats 1000000 in
theorem meets_c (a b : VS) (w : World) : Calls Tryd.prog 48 #[encS a, encS b] w fun e w' => e = .returned (.bool (!(a &&& b == 0))) ∧ Below w.heap.size w w' := by
  have hB : Below w.heap.size w ((w.alloc (.cells #[.int .u64 ((lw a).toNat : Int), .int .u64 ((hw a).toNat : Int)] 42)).alloc (.cells #[.int .u64 ((lw b).toNat : Int), .int .u64 ((hw b).toNat : Int)] 42)) := ((Below.refl _ w).alloc (Nat.le_refl _) _).alloc (by simp) _
  have h1 := (SetVar.new w a 42).alloc (.cells #[.int .u64 ((lw b).toNat : Int), .int .u64 ((hw b).toNat : Int)] 42)
  have h2 := SetVar.new (w.alloc (.cells #[.int .u64 ((lw a).toNat : Int), .int .u64 ((hw a).toNat : Int)] 42)) b 42
  rw [World.size_alloc] at h2
  have H1 := hid h1
  have H2 := hid h2
  have HB := hid hB
  clear h1 h2 hB
  obtain ⟨q, hq⟩ : ∃ q, q = (!(a &&& b == 0)) := ⟨_, rfl⟩
  rw [← hq]
  have HQ := hid hq
  clear hq
  go_enter Tryd.func48, Tryd.ntmps48
  go_wp2_with fail
  go_loopw [5] (fun i wr => ∃ k : Nat, k ≤ 128 ∧ i = .int .i64 ((k : Int) + 1) ∧ Hid (SetVar wr w.heap.size a) ∧ Hid (SetVar wr (w.heap.size + 1) b) ∧ Hid (∀ v : Int, 1 ≤ v → v ≤ (k : Int) → (has a v && has b v) = false) ∧ Hid (Below w.heap.size w wr)) (fun i _ => 129 - (intOf i).toNat)
  case atStart => exact ⟨0, by omega, by simp, H1.out, H2.out, fun v h1 h2 => by omega, HB.out⟩
  case round =>
    clear H1 H2 HB
    obtain ⟨k, hk, rfl, g1, g2, hno, hbr⟩ := hrel
    obtain ⟨s0, s1, _, _⟩ := g1.out.cells
    obtain ⟨t0, t1, _, _⟩ := g2.out.cells
    have l2 := g2.out.lt
    by_cases hlt : k < 128
    · have HNO := hid (show (has a ((k : Int) + 1) && has b ((k : Int) + 1)) = false → ∀ v : Int, 1 ≤ v → v ≤ ((k + 1 : Nat) : Int) → (has a v && has b v) = false from fun h v h1 h2 => by
        by_cases e : v = (k : Int) + 1
        · subst e; exact h
        · exact hno.out v h1 (by omega))
      go_wp2_with fail
      refine (has5_c a ((k : Int) + 1) _).mono ?_
      rintro e w2 ⟨rfl, hb2⟩
      have G1 := hid (g1.out.below hb2 (by omega))
      have G2 := hid (g2.out.below hb2 l2)
      have GB := hid (hbr.out.trans (hb2.mono hbr.out.size))
      clear s0 s1 t0 t1 g1 g2 hno hbr hb2
      obtain ⟨t0, t1, _, _⟩ := G2.out.cells
      cases ha : has a ((k : Int) + 1)
      · rw [ha, Bool.false_and] at HNO
        go_wp2_with fail
        go_roundw
        case rel => exact ⟨k + 1, by omega, by go_num, G1.out, G2.out, HNO.out trivial, GB.out⟩
        case measure => simp [intOf]; omega
      · have HA := hid ha
        rw [ha, Bool.true_and] at HNO
        clear ha
        go_wp2_with fail
        refine (has5_c b ((k : Int) + 1) _).mono ?_
        rintro e w3 ⟨rfl, hb3⟩
        have G1' := hid (G1.out.below hb3 (by have := G2.out.lt; omega))
        have G2' := hid (G2.out.below hb3 G2.out.lt)
        have GB' := hid (GB.out.trans (hb3.mono GB.out.size))
        clear t0 t1 hb3 G1 G2 GB
        cases hb : has b ((k : Int) + 1)
        · go_wp2_with fail
          go_roundw
          case rel => exact ⟨k + 1, by omega, by go_num, G1'.out, G2'.out, HNO.out hb, GB'.out⟩
          case measure => simp [intOf]; omega
        · have HT := hid (meets_at HA.out hb)
          go_wp2_with fail
          go_ret
          exact ⟨by rw [HQ.out, HT.out]; rfl, GB'.out⟩
    · obtain rfl : k = 128 := by omega
      have HT := hid (meets_no hno.out)
      have GB := hid hbr.out
      clear hno hbr g1 g2 s0 s1 t0 t1
      go_wp2_with fail
      go_ret
      exact ⟨by rw [HQ.out, HT.out]; rfl, GB.out⟩
end Go.Proofs.YtpdbfbjfodckgaaDoor
