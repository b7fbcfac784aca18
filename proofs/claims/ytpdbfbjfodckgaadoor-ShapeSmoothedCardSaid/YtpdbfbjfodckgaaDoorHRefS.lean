/- Walks of the references censusref05 and censusref21: membership, a set with a variable, unions, common variables, validity, the variables of the nodes. -/
import Derived.Test.YtpdbfbjfodckgaaDoorHWorks2
import Derived.Test.YtpdbfbjfodckgaaDoorPure
namespace Go.Proofs.YtpdbfbjfodckgaaDoor
open Go.RowKit
attribute [local go_sem] bits_or bits_and bits_andNot

theorem word_bit (x : BitVec 64) (i : Nat) : ((((x.toNat : Int) / 2 ^ i) % 2 == 1) : Bool) = x.getLsbD i := by
  have h : ((x.toNat : Int) / 2 ^ i) % 2 = ((x.toNat / 2 ^ i % 2 : Nat) : Int) := by push_cast; rfl
  rw [h, Bool.eq_iff_iff]
  show _ ↔ x.toNat.testBit i = true
  rw [Nat.testBit_eq_decide_div_mod_eq]
  simp
  omega
theorem has_word_lo {s : VS} {v : Int} (h1 : 1 ≤ v) (h2 : v ≤ 64) : has s v = ((((lw s).toNat : Int) / 2 ^ ((v - 1) % 64).toNat) % 2 == 1) := by
  rw [word_bit, lo_bit, has]
  simp [h1, show ((v - 1) % 64).toNat = v.toNat - 1 by omega, show v.toNat - 1 < 64 by omega]
theorem has_word_hi {s : VS} {v : Int} (h1 : 65 ≤ v) (h2 : v ≤ 128) : has s v = ((((hw s).toNat : Int) / 2 ^ ((v - 1) % 64).toNat) % 2 == 1) := by
  rw [word_bit, hi_bit, has]
  simp [show 1 ≤ v by omega, show ((v - 1) % 64).toNat = v.toNat - 65 by omega, show v.toNat - 65 < 64 by omega, show 64 + (v.toNat - 65) = v.toNat - 1 by omega]
set_option maxHeartbeats 400000 in
theorem has5_c (s : VS) (v : Int) (w : World) :
    Calls Tryd.prog 54 #[encS s, .int .i64 v] w fun e w' => e = .returned (.bool (has s v)) ∧ Below w.heap.size w w' := by
  by_cases h1 : v < 1
  · rw [has_low h1]
    have d1 : decide (1 ≤ v) = false := decide_eq_false (by omega)
    go_enter Tryd.func54, Tryd.ntmps54
    go_wp2
    go_returns
    refine ⟨rfl, ?_⟩
    go_grown
  · have d1 : decide (1 ≤ v) = true := decide_eq_true (by omega)
    by_cases h2 : 128 < v
    · rw [has_high h2]
      have d2 : decide (v ≤ 128) = false := decide_eq_false (by omega)
      go_enter Tryd.func54, Tryd.ntmps54
      go_wp2
      go_returns
      refine ⟨rfl, ?_⟩
      go_grown
    · have d2 : decide (v ≤ 128) = true := decide_eq_true (by omega)
      by_cases h3 : v ≤ 64
      · have hq : (v - 1) / 64 = 0 := by omega
        rw [has_word_lo (by omega) h3]
        go_enter Tryd.func54, Tryd.ntmps54
        go_wp2
        go_returns
        refine ⟨rfl, ?_⟩
        go_grown
      · have hq : (v - 1) / 64 = 1 := by omega
        rw [has_word_hi (by omega) (by omega)]
        go_enter Tryd.func54, Tryd.ntmps54
        go_wp2
        go_returns
        refine ⟨rfl, ?_⟩
        go_grown
theorem withV_has {s : VS} {v : Int} (h : has s v = true) : withV s v = s := by
  refine ext_has fun u h1 h2 => ?_
  rw [has_withV]
  by_cases e : u = v
  · subst e; rw [h]; rfl
  · simp [e]
theorem add_word {a b : BitVec 64} (h : and64 a b = 0) : IntKind.u64.wrap ((a.toNat : Int) + (b.toNat : Int)) = ((or64 a b).toNat : Int) := by
  have e : a + b = or64 a b := BitVec.add_eq_or_of_and_eq_zero a b h
  rw [← e, ← wrap_u64_bv (a + b)]
  have h2 : (((a + b).toNat : Nat) : Int) = ((a.toNat : Int) + (b.toNat : Int)) % 18446744073709551616 := by rw [BitVec.toNat_add]; omega
  rw [h2]
  simp only [IntKind.wrap, show (2 : Int) ^ IntKind.u64.bits = 18446744073709551616 from rfl, Int.emod_emod_of_dvd _ (Int.dvd_refl _)]
theorem free_lo {s : VS} {v : Int} (h1 : 1 ≤ v) (h2 : v ≤ 64) (h : has s v = false) : and64 (lw s) (lw (one v)) = 0 := by
  rw [has_lo h1 h2] at h
  simp only [bne_eq_false_iff_eq] at h
  exact BitVec.eq_of_toNat_eq (by simpa using h)
theorem free_hi {s : VS} {v : Int} (h1 : 65 ≤ v) (h2 : v ≤ 128) (h : has s v = false) : and64 (hw s) (hw (one v)) = 0 := by
  rw [has_hi h1 h2] at h
  simp only [bne_eq_false_iff_eq] at h
  exact BitVec.eq_of_toNat_eq (by simpa using h)
theorem add_lo {s : VS} {v : Int} (h1 : 1 ≤ v) (h2 : v ≤ 64) (h : has s v = false) : IntKind.u64.wrap (((lw s).toNat : Int) + IntKind.u64.wrap (2 ^ ((v - 1) % 64).toNat)) = ((lw (withV s v)).toNat : Int) := by
  rw [← lo_one h1 h2, add_word (free_lo h1 h2 h), lo_withV]
theorem add_hi {s : VS} {v : Int} (h1 : 65 ≤ v) (h2 : v ≤ 128) (h : has s v = false) : IntKind.u64.wrap (((hw s).toNat : Int) + IntKind.u64.wrap (2 ^ ((v - 1) % 64).toNat)) = ((hw (withV s v)).toNat : Int) := by
  rw [← hi_one h1 h2, add_word (free_hi h1 h2 h), hi_withV]
set_option maxHeartbeats 400000 in
theorem with21_c (s : VS) (v : Int) (w : World) (h1 : 1 ≤ v) (h2 : v ≤ 128) :
    Calls Tryd.prog 59 #[encS s, .int .i64 v] w fun e w' => e = .returned (encS (withV s v)) ∧ Below w.heap.size w w' := by
  have hB : Below w.heap.size w ((w.alloc (.cells #[.int .u64 ((lw s).toNat : Int), .int .u64 ((hw s).toNat : Int)] 42)).alloc (.cells #[.int .u64 0, .int .u64 0] 42)) := ((Below.refl _ w).alloc (Nat.le_refl _) _).alloc (by simp) _
  have hv : SetVar ((w.alloc (.cells #[.int .u64 ((lw s).toNat : Int), .int .u64 ((hw s).toNat : Int)] 42)).alloc (.cells #[.int .u64 0, .int .u64 0] 42)) w.heap.size s := (SetVar.new w s 42).alloc _
  have hr : SetVar ((w.alloc (.cells #[.int .u64 ((lw s).toNat : Int), .int .u64 ((hw s).toNat : Int)] 42)).alloc (.cells #[.int .u64 0, .int .u64 0] 42)) (w.heap.size + 1) 0 := by
    have := SetVar.new (w.alloc (.cells #[.int .u64 ((lw s).toNat : Int), .int .u64 ((hw s).toNat : Int)] 42)) 0 42
    rw [World.size_alloc] at this
    exact this
  have HV := hid hv
  have HR := hid hr
  have HB := hid hB
  clear hv hr hB
  cases hh : has s v
  · by_cases h3 : v ≤ 64
    · have hq : (v - 1) / 64 = 0 := by omega
      have HA := hid (add_lo h1 h3 hh)
      have HH := hid (show hw (withV s v) = hw s from by rw [hi_withV, hi_one_low h3, or64_zero])
      go_enter Tryd.func59, Tryd.ntmps59
      go_wp2_with fail
      refine (has5_c s v _).mono ?_
      rintro e w2 ⟨rfl, hb2⟩
      rw [hh]
      have hv2 := HV.out.below hb2 (by simp; omega)
      have hr2 := HR.out.below hb2 (by simp)
      have hB2 := HB.out.trans (hb2.mono HB.out.size)
      have hrl := hr2.lt
      obtain ⟨s0, s1, f0, f1⟩ := hv2.cells
      obtain ⟨r0, r1, g0, g1⟩ := hr2.cells
      clear hb2 HB HV HR
      go_wp2_with fail
      rw [HA.out, ← HH.out]
      refine bodyPost_ret (results_set rfl rfl ((hr2.other (by simp) _).store _)) rfl ?_
      exact ⟨rfl, ((hB2.setCell (by simp) _).setCell (by simp) _).setCell (by simp) _⟩
    · have hq : (v - 1) / 64 = 1 := by omega
      have HA := hid (add_hi (by omega) h2 hh)
      have HH := hid (show lw (withV s v) = lw s from by rw [lo_withV, lo_one_high (by omega), or64_zero])
      go_enter Tryd.func59, Tryd.ntmps59
      go_wp2_with fail
      refine (has5_c s v _).mono ?_
      rintro e w2 ⟨rfl, hb2⟩
      rw [hh]
      have hv2 := HV.out.below hb2 (by simp; omega)
      have hr2 := HR.out.below hb2 (by simp)
      have hB2 := HB.out.trans (hb2.mono HB.out.size)
      have hrl := hr2.lt
      obtain ⟨s0, s1, f0, f1⟩ := hv2.cells
      obtain ⟨r0, r1, g0, g1⟩ := hr2.cells
      clear hb2 HB HV HR
      go_wp2_with fail
      rw [HA.out, ← HH.out]
      refine bodyPost_ret (results_set rfl rfl ((hr2.other (by simp) _).store _)) rfl ?_
      exact ⟨rfl, ((hB2.setCell (by simp) _).setCell (by simp) _).setCell (by simp) _⟩
  · rw [withV_has hh]
    go_enter Tryd.func59, Tryd.ntmps59
    go_wp2_with fail
    refine (has5_c s v _).mono ?_
    rintro e w2 ⟨rfl, hb2⟩
    rw [hh]
    have hv2 := HV.out.below hb2 (by simp; omega)
    have hr2 := HR.out.below hb2 (by simp)
    have hB2 := HB.out.trans (hb2.mono HB.out.size)
    have hrl := hr2.lt
    obtain ⟨s0, s1, f0, f1⟩ := hv2.cells
    obtain ⟨r0, r1, g0, g1⟩ := hr2.cells
    clear hb2 HB HV HR
    go_wp2_with fail
    refine bodyPost_ret (results_set rfl rfl (hr2.store _)) rfl ?_
    exact ⟨rfl, (hB2.setCell (by simp) _).setCell (by simp) _⟩
def acc (a b : VS) (k : Int) : VS := a ||| (b &&& allV k)
theorem acc_zero (a b : VS) : acc a b 0 = a := by
  refine ext_has fun u h1 h2 => ?_
  unfold acc
  rw [has_or, has_and, has_allV, decide_eq_false (show ¬ u ≤ 0 by omega)]; simp
theorem acc_all (a b : VS) : acc a b 128 = a ||| b := by
  refine ext_has fun u h1 h2 => ?_
  unfold acc
  rw [has_or, has_and, has_or, has_allV, decide_eq_true h2, decide_eq_true h1]; simp
theorem acc_with {a b : VS} {k : Int} (_h0 : 0 ≤ k) (_h1 : k < 128) (h : has b (k + 1) = true) : withV (acc a b k) (k + 1) = acc a b (k + 1) := by
  refine ext_has fun u hu1 hu2 => ?_
  unfold acc
  rw [has_withV, has_or, has_or, has_and, has_and, has_allV, has_allV, decide_eq_true hu1, decide_eq_true hu2]
  by_cases e : u = k + 1
  · subst e; rw [h, decide_eq_true (show (1 : Int) ≤ k + 1 by omega), decide_eq_true (show k + 1 ≤ (128 : Int) by omega)]; simp
  · by_cases e2 : u ≤ k
    · rw [decide_eq_true e2, decide_eq_true (show u ≤ k + 1 by omega)]; simp [e]
    · rw [decide_eq_false e2, decide_eq_false (show ¬ u ≤ k + 1 by omega)]; simp [e]
theorem acc_out {a b : VS} {k : Int} (h : has b (k + 1) = false) : acc a b (k + 1) = acc a b k := by
  refine ext_has fun u hu1 hu2 => ?_
  unfold acc
  rw [has_or, has_or, has_and, has_and, has_allV, has_allV]
  by_cases e : u = k + 1
  · subst e; rw [h]; simp
  · by_cases e2 : u ≤ k
    · rw [decide_eq_true e2, decide_eq_true (show u ≤ k + 1 by omega)]
    · rw [decide_eq_false e2, decide_eq_false (show ¬ u ≤ k + 1 by omega)]
set_option maxRecDepth 100000 in
set_option maxHeartbeats 1000000 in
theorem union21_c (a b : VS) (w : World) : Calls Tryd.prog 53 #[encS a, encS b] w fun e w' => e = .returned (encS (a ||| b)) ∧ Below w.heap.size w w' := by
  have hB : Below w.heap.size w (((w.alloc (.cells #[.int .u64 ((lw a).toNat : Int), .int .u64 ((hw a).toNat : Int)] 42)).alloc (.cells #[.int .u64 ((lw b).toNat : Int), .int .u64 ((hw b).toNat : Int)] 42)).alloc (.cells #[.int .u64 0, .int .u64 0] 42)) := (((Below.refl _ w).alloc (Nat.le_refl _) _).alloc (by simp) _).alloc (by simp; omega) _
  have h1 := ((SetVar.new w a 42).alloc (.cells #[.int .u64 ((lw b).toNat : Int), .int .u64 ((hw b).toNat : Int)] 42)).alloc (.cells #[.int .u64 0, .int .u64 0] 42)
  have h2 := (SetVar.new (w.alloc (.cells #[.int .u64 ((lw a).toNat : Int), .int .u64 ((hw a).toNat : Int)] 42)) b 42).alloc (.cells #[.int .u64 0, .int .u64 0] 42)
  have h3 := SetVar.new ((w.alloc (.cells #[.int .u64 ((lw a).toNat : Int), .int .u64 ((hw a).toNat : Int)] 42)).alloc (.cells #[.int .u64 ((lw b).toNat : Int), .int .u64 ((hw b).toNat : Int)] 42)) 0 42
  rw [World.size_alloc] at h2 h3
  rw [World.size_alloc] at h3
  have H1 := hid h1
  have H2 := hid h2
  have H3 := hid h3
  have HB := hid hB
  clear h1 h2 h3 hB
  go_enter Tryd.func53, Tryd.ntmps53
  go_wp2_with fail
  go_loopw [5] (fun i wr => ∃ k : Nat, k ≤ 128 ∧ i = .int .i64 ((k : Int) + 1) ∧ Hid (SetVar wr w.heap.size (acc a b k)) ∧ Hid (SetVar wr (w.heap.size + 1) b) ∧ Hid (SetVar wr (w.heap.size + 1 + 1) 0) ∧ Hid (Below w.heap.size w wr)) (fun i _ => 129 - (intOf i).toNat)
  case atStart => exact ⟨0, by omega, by simp, by rw [show ((0 : Nat) : Int) = 0 from rfl, acc_zero]; exact H1.out, H2.out, H3.out, HB.out⟩
  case round =>
    clear H1 H2 H3 HB
    obtain ⟨k, hk, rfl, g1, g2, g3, hbr⟩ := hrel
    obtain ⟨s0, s1, f0, f1⟩ := g1.out.cells
    obtain ⟨t0, t1, _, _⟩ := g2.out.cells
    obtain ⟨r0, r1, p0, p1⟩ := g3.out.cells
    have l2 := g2.out.lt
    have l3 := g3.out.lt
    by_cases hlt : k < 128
    · go_wp2_with fail
      refine (has5_c b ((k : Int) + 1) _).mono ?_
      rintro e w2 ⟨rfl, hb2⟩
      have G1 := hid (g1.out.below hb2 (by omega))
      have G2 := hid (g2.out.below hb2 l2)
      have G3 := hid (g3.out.below hb2 l3)
      have GB := hid (hbr.out.trans (hb2.mono hbr.out.size))
      clear s0 s1 f0 f1 t0 t1 r0 r1 p0 p1 g1 g2 g3 hbr hb2
      cases hh : has b ((k : Int) + 1)
      · have HA := hid (acc_out (a := a) hh)
        go_wp2_with fail
        go_roundw
        case rel => exact ⟨k + 1, by omega, by go_num, by rw [show ((k + 1 : Nat) : Int) = (k : Int) + 1 by omega, HA.out]; exact G1.out, G2.out, G3.out, GB.out⟩
        case measure => simp [intOf]; omega
      · have HA := hid (acc_with (a := a) (by omega) (by omega) hh)
        obtain ⟨s0, s1, f0, f1⟩ := G1.out.cells
        go_wp2_with fail
        refine (with21_c (acc a b k) ((k : Int) + 1) _ (by omega) (by omega)).mono ?_
        rintro e w3 ⟨rfl, hb3⟩
        rw [HA.out]
        have l2' := G2.out.lt
        have l3' := G3.out.lt
        have G1' := G1.out.below hb3 (by omega)
        have G2' := hid (G2.out.below hb3 l2')
        have G3' := hid (G3.out.below hb3 l3')
        have GB' := hid (GB.out.trans (hb3.mono GB.out.size))
        clear s0 s1 f0 f1 hb3 G2 G3 GB
        obtain ⟨s0, s1, f0, f1⟩ := G1'.cells
        go_wp2_with fail
        go_roundw
        case rel =>
          refine ⟨k + 1, by omega, by go_num, ?_, (G2'.out.other (by simp) _).other (by simp) _, (G3'.out.other (by simp; omega) _).other (by simp; omega) _, (GB'.out.setCell (by simp) _).setCell (by simp) _⟩
          rw [show ((k + 1 : Nat) : Int) = (k : Int) + 1 by omega]
          exact G1'.store _
        case measure => simp [intOf]; omega
    · obtain rfl : k = 128 := by omega
      have e : acc a b ((128 : Nat) : Int) = a ||| b := acc_all a b
      rw [e] at g1
      clear s0 s1
      obtain ⟨s0, s1, _, _⟩ := g1.out.cells
      have GB := hid hbr.out
      have G3 := hid g3.out
      clear g1 g2 g3 hbr e
      go_wp2_with fail
      refine bodyPost_ret (results_set rfl rfl (G3.out.store _)) rfl ?_
      exact ⟨rfl, (GB.out.setCell (by simp; omega) _).setCell (by simp; omega) _⟩
theorem meets_at {a b : VS} {v : Int} (ha : has a v = true) (hb : has b v = true) : (a &&& b == 0) = false := by
  cases e : (a &&& b == 0) with
  | false => rfl
  | true =>
    rw [beq_iff_eq] at e
    have : has (a &&& b) v = false := by rw [e, has_zero]
    rw [has_and, ha, hb] at this; cases this
theorem meets_no {a b : VS} (h : ∀ v : Int, 1 ≤ v → v ≤ 128 → (has a v && has b v) = false) : (a &&& b == 0) = true := by
  rw [beq_iff_eq]
  refine ext_has fun u h1 h2 => ?_
  rw [has_and, has_zero, h u h1 h2]
set_option maxRecDepth 100000 in
set_option maxHeartbeats 1000000 in
theorem meets_c (a b : VS) (w : World) : Calls Tryd.prog 48 #[encS a, encS b] w fun e w' => e = .returned (.bool (!(a &&& b == 0))) ∧ Below w.heap.size w w' := by
  have hB : Below w.heap.size w ((w.alloc (.cells #[.int .u64 ((lw a).toNat : Int), .int .u64 ((hw a).toNat : Int)] 42)).alloc (.cells #[.int .u64 ((lw b).toNat : Int), .int .u64 ((hw b).toNat : Int)] 42)) := ((Below.refl _ w).alloc (Nat.le_refl _) _).alloc (by simp) _
  have h1 := (SetVar.new w a 42).alloc (.cells #[.int .u64 ((lw b).toNat : Int), .int .u64 ((hw b).toNat : Int)] 42)
  have h2 := SetVar.new (w.alloc (.cells #[.int .u64 ((lw a).toNat : Int), .int .u64 ((hw a).toNat : Int)] 42)) b 42
  rw [World.size_alloc] at h2
  have H1 := hid h1
  have H2 := hid h2
  have HB := hid hB
  clear h1 h2 hB
  obtain ⟨q, hq⟩ : ∃ q, q = (!(a &&& b == 0)) := ⟨_, rfl⟩
  rw [← hq]
  have HQ := hid hq
  clear hq
  go_enter Tryd.func48, Tryd.ntmps48
  go_wp2_with fail
  go_loopw [5] (fun i wr => ∃ k : Nat, k ≤ 128 ∧ i = .int .i64 ((k : Int) + 1) ∧ Hid (SetVar wr w.heap.size a) ∧ Hid (SetVar wr (w.heap.size + 1) b) ∧ Hid (∀ v : Int, 1 ≤ v → v ≤ (k : Int) → (has a v && has b v) = false) ∧ Hid (Below w.heap.size w wr)) (fun i _ => 129 - (intOf i).toNat)
  case atStart => exact ⟨0, by omega, by simp, H1.out, H2.out, fun v h1 h2 => by omega, HB.out⟩
  case round =>
    clear H1 H2 HB
    obtain ⟨k, hk, rfl, g1, g2, hno, hbr⟩ := hrel
    obtain ⟨s0, s1, _, _⟩ := g1.out.cells
    obtain ⟨t0, t1, _, _⟩ := g2.out.cells
    have l2 := g2.out.lt
    by_cases hlt : k < 128
    · have HNO := hid (show (has a ((k : Int) + 1) && has b ((k : Int) + 1)) = false → ∀ v : Int, 1 ≤ v → v ≤ ((k + 1 : Nat) : Int) → (has a v && has b v) = false from fun h v h1 h2 => by
        by_cases e : v = (k : Int) + 1
        · subst e; exact h
        · exact hno.out v h1 (by omega))
      go_wp2_with fail
      refine (has5_c a ((k : Int) + 1) _).mono ?_
      rintro e w2 ⟨rfl, hb2⟩
      have G1 := hid (g1.out.below hb2 (by omega))
      have G2 := hid (g2.out.below hb2 l2)
      have GB := hid (hbr.out.trans (hb2.mono hbr.out.size))
      clear s0 s1 t0 t1 g1 g2 hno hbr hb2
      obtain ⟨t0, t1, _, _⟩ := G2.out.cells
      cases ha : has a ((k : Int) + 1)
      · rw [ha, Bool.false_and] at HNO
        go_wp2_with fail
        go_roundw
        case rel => exact ⟨k + 1, by omega, by go_num, G1.out, G2.out, HNO.out trivial, GB.out⟩
        case measure => simp [intOf]; omega
      · have HA := hid ha
        rw [ha, Bool.true_and] at HNO
        clear ha
        go_wp2_with fail
        refine (has5_c b ((k : Int) + 1) _).mono ?_
        rintro e w3 ⟨rfl, hb3⟩
        have G1' := hid (G1.out.below hb3 (by have := G2.out.lt; omega))
        have G2' := hid (G2.out.below hb3 G2.out.lt)
        have GB' := hid (GB.out.trans (hb3.mono GB.out.size))
        clear t0 t1 hb3 G1 G2 GB
        cases hb : has b ((k : Int) + 1)
        · go_wp2_with fail
          go_roundw
          case rel => exact ⟨k + 1, by omega, by go_num, G1'.out, G2'.out, HNO.out hb, GB'.out⟩
          case measure => simp [intOf]; omega
        · have HT := hid (meets_at HA.out hb)
          go_wp2_with fail
          go_ret
          exact ⟨by rw [HQ.out, HT.out]; rfl, GB'.out⟩
    · obtain rfl : k = 128 := by omega
      have HT := hid (meets_no hno.out)
      have GB := hid hbr.out
      clear hno hbr g1 g2 s0 s1 t0 t1
      go_wp2_with fail
      go_ret
      exact ⟨by rw [HQ.out, HT.out]; rfl, GB.out⟩
end Go.Proofs.YtpdbfbjfodckgaaDoor
namespace Go.Proofs.YtpdbfbjfodckgaaDoor
open Go.RowKit

theorem litValid_iff {l n : Int} (h0 : 0 ≤ n) (h1 : n ≤ 128) : litValid l n = (decide (l ≠ 0) && decide (-n ≤ l) && decide (l ≤ n)) := by
  unfold litValid litVar
  rw [Bool.eq_iff_iff]
  simp only [Bool.and_eq_true, decide_eq_true_eq]
  split
  · omega
  · split <;> omega
set_option maxHeartbeats 1000000 in
theorem valid05_c (l n : Int) (w : World) (h0 : 0 ≤ n) (h1 : n ≤ 128) : Calls Tryd.prog 52 #[.int .i64 l, .int .i64 n] w fun e w' => e = .returned (.bool (litValid l n)) ∧ w = w' := by
  rw [litValid_iff h0 h1]
  by_cases a : l = 0
  · subst a
    go_enter Tryd.func52, Tryd.ntmps52
    go_wp2
    go_ret
    exact ⟨rfl, rfl⟩
  · have a1 : (l != 0) = true := by simp [a]
    rw [decide_eq_true a]
    by_cases b : -n ≤ l
    · have b1 : decide (-n ≤ l) = true := decide_eq_true b
      rw [b1]
      by_cases c : l ≤ n
      · have c1 : decide (l ≤ n) = true := decide_eq_true c
        rw [c1]
        go_enter Tryd.func52, Tryd.ntmps52
        go_wp2
        go_ret
        exact ⟨rfl, rfl⟩
      · have c1 : decide (l ≤ n) = false := decide_eq_false c
        rw [c1]
        go_enter Tryd.func52, Tryd.ntmps52
        go_wp2
        go_ret
        exact ⟨rfl, rfl⟩
    · have b1 : decide (-n ≤ l) = false := decide_eq_false b
      rw [b1]
      go_enter Tryd.func52, Tryd.ntmps52
      go_wp2
      go_ret
      exact ⟨rfl, rfl⟩
theorem formed_low {x : NodeT} {n k : Int} (h : x.kind < 0 ∨ 4 < x.kind) : formed x n k = false := by
  unfold formed
  split
  · rfl
  · rw [if_neg (by omega), if_neg (by omega), if_neg (by omega)]
theorem formed_lit {x : NodeT} {n k : Int} (h : x.kind ≠ 2) (hl : x.lit ≠ 0) : formed x n k = false := by
  unfold formed
  split
  · rfl
  · split
    · simp [hl]
    · simp [hl]
theorem formed_two {x : NodeT} {n k : Int} (h : x.kind = 2) (hl : litValid x.lit n = false) : formed x n k = false := by
  unfold formed
  split
  · rfl
  · simp [h, hl]
theorem formed_ins {x : NodeT} {n k : Int} (h : x.kind < 3) (hl : x.ins ≠ []) : formed x n k = false := by
  unfold formed
  split
  · rfl
  · split
    · simp [hl]
    · split
      · simp [hl]
      · rw [if_neg (by omega)]
theorem formed_bad {x : NodeT} {n k : Int} {q : Nat} (hq : q < x.ins.length) (h : x.ins[q] < 0 ∨ k ≤ x.ins[q]) : formed x n k = false := by
  unfold formed
  rw [if_pos]
  unfold badIn
  rw [List.any_eq_true]
  exact ⟨_, List.getElem_mem hq, by simpa using h⟩
theorem formed_good {x : NodeT} {n k : Int} (h0 : 0 ≤ x.kind ∧ x.kind ≤ 4) (h1 : x.kind = 2 → litValid x.lit n = true) (h2 : x.kind ≠ 2 → x.lit = 0) (h3 : x.kind < 3 → x.ins = [])
    (h4 : ∀ i (h : i < x.ins.length), 0 ≤ x.ins[i] ∧ x.ins[i] < k) : formed x n k = true := by
  unfold formed
  have hb : badIn x.ins k = false := by
    unfold badIn
    rw [List.any_eq_false]
    intro y hy
    obtain ⟨i, hi, rfl⟩ := List.getElem_of_mem hy
    have := h4 i hi
    simp; omega
  rw [hb, if_neg (by simp)]
  split
  · rw [h2 (by omega), h3 (by omega)]; rfl
  · split
    · rename_i h
      rw [h1 h, h3 (by omega)]; rfl
    · rename_i h
      rw [if_pos (by omega), h2 h]; rfl
set_option maxRecDepth 100000 in
set_option maxHeartbeats 4000000 in
theorem valid21_c (n : Int) (L : List NodeT) (v : Value) (w : World) (hN : NodesAt w v L) :
    Calls Tryd.prog 23 #[.agg #[.int .i64 n, v]] w fun e w' => e = .returned (.bool (validNet ⟨n, L⟩)) ∧ Below w.heap.size w w' := by
  have hB1 : Below w.heap.size w (w.alloc (.cells #[.int .i64 n, v] 24)) := (Below.refl _ w).alloc (Nat.le_refl _) _
  have hx := NetVar.new w n v 24
  replace hN := hN.below hB1
  by_cases hr : 0 ≤ n ∧ n ≤ 128 ∧ 1 ≤ L.length ∧ L.length ≤ 65536
  · obtain ⟨r1, r2, r3, r4⟩ := hr
    obtain ⟨p, c, rfl, h⟩ := hN
    obtain ⟨b, off, rfl, hN⟩ := h.resolve_left (by intro e; rw [e] at r3; simp at r3)
    have n1 : ¬ n < 0 := by omega
    have n2 : ¬ 128 < n := by omega
    have n3 : ((L.length : Int) == 0) = false := by simp; intro e; rw [e] at r3; simp at r3
    have n4 : ¬ 65536 < (L.length : Int) := by omega
    have HN := hid hN
    clear hN h
    go_enter Tryd.func23, Tryd.ntmps23
    go_wp2_with fail
    have hsz := hB1.size
    generalize hw1 : w.alloc (.cells #[.int .i64 n, .slice (some ⟨b, off, none⟩) L.length c] 24) = w1 at *
    go_loopw [3] (fun i wr => ∃ k : Nat, k ≤ L.length ∧ i = .int .i64 k ∧ Hid (formedTo n L k) ∧ Hid (Below w1.heap.size w1 wr)) (fun i _ => L.length - (intOf i).toNat)
    case atStart => exact ⟨0, Nat.zero_le _, rfl, fun i _ h => by omega, Below.refl _ _⟩
    case round =>
      obtain ⟨k, hk, rfl, hf, hB⟩ := hrel
      have hc1 := (hx.below hB.out).n
      have hc2 := (hx.below hB.out).l
      have HX := hid (hx.below hB.out)
      have lx : w.heap.size < wr.heap.size := cell_lt hc1
      by_cases hlt : k < L.length
      · obtain ⟨u, hu⟩ := HN.out k hlt
        have hu' := hu.below hB.out
        have d0 := hu'.kind
        have d1 := hu'.lit
        have d2 := hu'.ins
        have HI := hid hu'.ints
        have hle := hu'.len
        have lb : b < wr.heap.size := cell_lt d0
        have z1 : (0 : Int) ≤ (k : Int) ∧ (k : Int) < (L.length : Int) := by omega
        have HS := hid (fun h => formedTo_succ hf.out hlt h)
        have HV := hid (fun h => valid_bad (n := n) (L := L) hlt h)
        have hBs := hB.out.size
        clear hu hu' hf
        generalize hxx : L[k] = x at *
        obtain ⟨xk, xl, xi⟩ := x
        obtain ⟨p2, c2, e2, _⟩ := HI.out
        subst e2
        clear hxx
        have b3 := Box3.new wr 39 (.int .i64 xk) (.int .i64 xl) (.slice p2 xi.length c2)
        have hal : Below wr.heap.size wr (wr.alloc (.cells #[.int .i64 xk, .int .i64 xl, .slice p2 xi.length c2] 39)) := (Below.refl _ wr).alloc (Nat.le_refl _) _
        have HB3 := hid b3
        have HAL := hid (hB.out.trans (hal.mono hBs))
        have HI3 := hid (HI.out.below hal)
        have HX3 := hid (HX.out.below hal)
        have HB := hid hB.out
        clear b3 hal hB HX HI
        by_cases k0 : xk < 0
        · have HF := hid (HV.out (formed_low (.inl k0)))
          go_wp2_with fail
          go_ret
          exact ⟨by rw [HF.out]; rfl, hB1.trans (HAL.out.mono hsz)⟩
        by_cases k4 : 4 < xk
        · have HF := hid (HV.out (formed_low (.inr k4)))
          go_wp2_with fail
          go_ret
          exact ⟨by rw [HF.out]; rfl, hB1.trans (HAL.out.mono hsz)⟩
        by_cases k2 : xk = 2
        · subst k2
          cases hlv : litValid xl n
          · have HF := hid (HV.out (formed_two rfl hlv))
            go_wp2_with fail
            refine (valid05_c xl n _ r1 r2).mono ?_
            rintro e w2 ⟨rfl, rfl⟩
            rw [hlv]
            go_wp2_with fail
            go_ret
            exact ⟨by rw [HF.out]; rfl, hB1.trans (HAL.out.mono hsz)⟩
          · by_cases hxi : xi = []
            · subst hxi
              have HF := hid (HS.out (formed_good ⟨show (0 : Int) ≤ 2 by decide, show (2 : Int) ≤ 4 by decide⟩ (fun _ => hlv) (fun h => absurd rfl h) (fun _ => rfl) (fun i h => by simp at h)))
              go_wp2_with fail
              refine (valid05_c xl n _ r1 r2).mono ?_
              rintro e w2 ⟨rfl, rfl⟩
              rw [hlv]
              go_wp2_with fail
              go_rounds 1
              go_wp2_with fail
              go_roundw
              case rel => exact ⟨k + 1, by omega, by go_num, HF.out, HAL.out⟩
              case measure => simp [intOf]; omega
            · have HF := hid (HV.out (formed_ins (show (2 : Int) < 3 by decide) hxi))
              have hpos : (0 : Int) < (xi.length : Int) := by have := List.length_pos_iff.2 hxi; omega
              clear hxi
              go_wp2_with fail
              refine (valid05_c xl n _ r1 r2).mono ?_
              rintro e w2 ⟨rfl, rfl⟩
              rw [hlv]
              go_wp2_with fail
              go_ret
              exact ⟨by rw [HF.out]; rfl, hB1.trans (HAL.out.mono hsz)⟩
        have k2' : (xk == 2) = false := by simp [k2]
        have k2n : (xk != 2) = true := by simp [k2]
        by_cases l0 : xl = 0
        · subst l0
          by_cases k3 : xk < 3
          · by_cases hxi : xi = []
            · subst hxi
              have HF := hid (HS.out (formed_good ⟨by show 0 ≤ xk; omega, by show xk ≤ 4; omega⟩ (fun h => absurd h k2) (fun _ => rfl) (fun _ => rfl) (fun i h => by simp at h)))
              clear k2
              go_wp2_with fail
              go_rounds 1
              go_wp2_with fail
              go_roundw
              case rel => exact ⟨k + 1, by omega, by go_num, HF.out, HAL.out⟩
              case measure => simp [intOf]; omega
            · have HF := hid (HV.out (formed_ins k3 hxi))
              have hpos : (0 : Int) < (xi.length : Int) := by have := List.length_pos_iff.2 hxi; omega
              clear hxi k2
              go_wp2_with fail
              go_ret
              exact ⟨by rw [HF.out]; rfl, hB1.trans (HAL.out.mono hsz)⟩
          · have HF := hid (fun h4 => HS.out (formed_good (x := ⟨xk, 0, xi⟩) (n := n) (k := k) ⟨by show 0 ≤ xk; omega, by show xk ≤ 4; omega⟩ (fun h => absurd h k2) (fun _ => rfl) (fun h => absurd h k3) h4))
            clear k2
            go_wp2_with fail
            obtain ⟨wo, hwo⟩ : ∃ wo : World, wo = wr := ⟨_, rfl⟩
            subst hwo
            go_loopw [5] (fun i wr => ∃ q : Nat, q ≤ xi.length ∧ i = .int .i64 q ∧ Hid (∀ i (h : i < xi.length), i < q → 0 ≤ xi[i] ∧ xi[i] < (k : Int)) ∧ wr = wo.alloc (.cells #[.int .i64 xk, .int .i64 0, .slice p2 xi.length c2] 39)) (fun i _ => xi.length - (intOf i).toNat)
            case atStart => exact ⟨0, Nat.zero_le _, rfl, fun i _ h => by omega, rfl⟩
            case round =>
              obtain ⟨q, hq, rfl, hgood, rfl⟩ := hrel
              by_cases hql : q < xi.length
              · obtain ⟨pp, cc, e3, h3⟩ := HI3.out
                injection e3 with e1 _ e2
                subst e1; subst e2
                obtain ⟨b2, o2, rfl, hcc⟩ := h3.resolve_left (by intro e; rw [e] at hql; simp at hql)
                have hcq := hcc q hql
                rw [List.getElem?_eq_getElem hql, Option.getD_some] at hcq
                clear h3 hcc
                have zq : (0 : Int) ≤ (q : Int) ∧ (q : Int) < (xi.length : Int) := by omega
                obtain ⟨s0, s1, s2⟩ := HB3.out.cells
                have HBAD := hid (fun h => HV.out (formed_bad (x := ⟨xk, 0, xi⟩) (n := n) (k := k) hql h))
                have HGO := hid (show 0 ≤ xi[q] ∧ xi[q] < (k : Int) → ∀ i (h : i < xi.length), i < q + 1 → 0 ≤ xi[i] ∧ xi[i] < (k : Int) from fun h i hi hlt => by
                  by_cases e : i = q
                  · subst e; exact h
                  · exact hgood.out i hi (by omega))
                have HBAD2 := hid (show xi[q] < 0 ∨ (k : Int) ≤ xi[q] → validNet ⟨n, L⟩ = false from HBAD.out)
                clear HBAD hgood
                generalize xi[q] = y at hcq HGO HBAD2
                by_cases y0 : y < 0
                · have HF2 := hid (HBAD2.out (.inl y0))
                  go_wp2_with fail
                  go_ret
                  exact ⟨by rw [HF2.out]; rfl, hB1.trans (HAL.out.mono hsz)⟩
                · by_cases yk : (k : Int) ≤ y
                  · have HF2 := hid (HBAD2.out (.inr yk))
                    go_wp2_with fail
                    go_ret
                    exact ⟨by rw [HF2.out]; rfl, hB1.trans (HAL.out.mono hsz)⟩
                  · have HG2 := hid (HGO.out ⟨by omega, by omega⟩)
                    go_wp2_with fail
                    go_roundw
                    case rel => exact ⟨q + 1, by omega, by go_num, HG2.out, trivial⟩
                    case measure => simp [intOf]; omega
              · obtain rfl : q = xi.length := by omega
                have HF2 := hid (HF.out fun i h => hgood.out i h h)
                obtain ⟨s0, s1, s2⟩ := HB3.out.cells
                go_wp2_with fail
                go_roundw
                case rel => exact ⟨k + 1, by omega, by go_num, HF2.out, HAL.out⟩
                case measure => simp [intOf]; omega
        · have l0' : (xl != 0) = true := by simp [l0]
          have HF := hid (HV.out (formed_lit k2 l0))
          clear k2 l0
          go_wp2_with fail
          go_ret
          exact ⟨by rw [HF.out]; rfl, hB1.trans (HAL.out.mono hsz)⟩
      · obtain rfl : k = L.length := by omega
        have hv := valid_yes (n := n) (L := L) ⟨r1, r2, r3, r4⟩ hf.out
        go_wp2_with fail
        go_ret
        exact ⟨by rw [hv]; rfl, hB1.trans (hB.out.mono hsz)⟩
  · have hv := hid (valid_no hr)
    obtain ⟨p, c, rfl, _⟩ := hN
    have hor : n < 0 ∨ (¬ n < 0 ∧ 128 < n) ∨ (¬ n < 0 ∧ ¬ 128 < n ∧ ((L.length : Int) == 0) = true) ∨ (¬ n < 0 ∧ ¬ 128 < n ∧ ((L.length : Int) == 0) = false ∧ 65536 < (L.length : Int)) := by simp only [beq_iff_eq, beq_eq_false_iff_ne]; omega
    clear hr
    rcases hor with h1 | ⟨h1, h2⟩ | ⟨h1, h2, h3⟩ | ⟨h1, h2, h3, h4⟩ <;>
    · go_enter Tryd.func23, Tryd.ntmps23
      go_wp2
      go_ret
      exact ⟨by rw [hv.out]; rfl, hB1⟩
end Go.Proofs.YtpdbfbjfodckgaaDoor
namespace Go.Proofs.YtpdbfbjfodckgaaDoor
open Go.RowKit

theorem max_abs {l : Int} (h1 : 1 ≤ litVar l) : max l (-l) = litVar l ∧ -128 ≤ l ∧ l ≤ 128 := by
  unfold litVar at h1 ⊢
  split at h1
  · rw [if_pos (by assumption)]; omega
  · rw [if_neg (by assumption)]
    split at h1
    · rw [if_pos (by assumption)]; omega
    · omega
theorem max_if {l v : Int} (h : max l (-l) = v) : (if l < -l then -l else l) = v := by rw [← h]; split <;> omega
theorem wrap_neg {l : Int} (h1 : -128 ≤ l) (h2 : l ≤ 128) : IntKind.i64.wrap (-l) = -l := by rw [IntKind.wrap_i64]; omega
theorem litVar_no {n k : Int} {x : NodeT} (h : formed x n k = true) (h2 : x.kind ≠ 2) : litVar x.lit = 0 := by
  have h0 : x.lit = 0 := by
    apply Classical.byContradiction; intro e
    rw [formed_lit h2 e] at h; cases h
  rw [h0]; rfl
theorem litVar_yes {n k : Int} {x : NodeT} (h : formed x n k = true) (h2 : x.kind = 2) : 1 ≤ litVar x.lit ∧ litVar x.lit ≤ 128 := by
  have := litVar_range x.lit
  refine ⟨?_, this.2⟩
  have hl : litValid x.lit n = true := by
    cases e : litValid x.lit n with
    | true => rfl
    | false => rw [formed_two h2 e] at h; cases h
  unfold litValid at hl
  simp only [Bool.and_eq_true, decide_eq_true_eq] at hl
  omega
set_option maxRecDepth 100000 in
set_option maxHeartbeats 8000000 in
theorem vars21_c (n : Int) (L : List NodeT) (v : Value) (w : World) (hN : NodesAt w v L) (hv : validNet ⟨n, L⟩ = true) :
    Calls Tryd.prog 47 #[.agg #[.int .i64 n, v]] w (VarsPost L w) := by
  obtain ⟨⟨r1, r2, r3, r4⟩, hft⟩ := (validNet_iff _).1 hv
  simp only at r1 r2 r3 r4 hft
  have hB1 : Below w.heap.size w (w.alloc (.cells #[.int .i64 n, v] 24)) := (Below.refl _ w).alloc (Nat.le_refl _) _
  obtain ⟨p, c, rfl, h⟩ := hN
  obtain ⟨b, off, rfl, hN⟩ := h.resolve_left (by intro e; rw [e] at r3; simp at r3)
  have hx := NetVar.new w n (.slice (some ⟨b, off, none⟩) L.length c) 24
  obtain ⟨x0, x1⟩ := hx
  have HN := hid hN
  have HFT := hid hft
  have HX := hid (NetVar.new w n (.slice (some ⟨b, off, none⟩) L.length c) 24)
  have HB1 := hid hB1
  have hmk := fun w' => make_sets w' L.length (by omega) (L.length : Int) (L.length : Int) rfl rfl
  clear hN h hv hft
  have hrow := SetRow.made (w.alloc (.cells #[.int .i64 n, .slice (some ⟨b, off, none⟩) L.length c] 24)) L.length
  have hal : Below (w.alloc (.cells #[.int .i64 n, .slice (some ⟨b, off, none⟩) L.length c] 24)).heap.size (w.alloc (.cells #[.int .i64 n, .slice (some ⟨b, off, none⟩) L.length c] 24)) ((w.alloc (.cells #[.int .i64 n, .slice (some ⟨b, off, none⟩) L.length c] 24)).alloc (.cells (madeCells #[.int .u64 ((lw 0#128).toNat : Int), .int .u64 ((hw 0#128).toNat : Int)] (L.length * 2)) 42)) := (Below.refl _ _).alloc (Nat.le_refl _) _
  have HX3 := hid (HX.out.below hal)
  have HR0 := hid (show SetRow ((w.alloc (.cells #[.int .i64 n, .slice (some ⟨b, off, none⟩) L.length c] 24)).alloc (.cells (madeCells #[.int .u64 ((lw 0#128).toNat : Int), .int .u64 ((hw 0#128).toNat : Int)] (L.length * 2)) 42)) (w.heap.size + 1) (vsOf (L.take 0) ++ List.replicate (L.length - 0) 0) from by rw [World.size_alloc] at hrow; exact hrow)
  have HAL := hid (hB1.trans (hal.mono hB1.size))
  clear hrow hal hB1
  go_enter Tryd.func47, Tryd.ntmps47
  go_wp2_with fail
  have hsz2 : (w.alloc (.cells #[.int .i64 n, .slice (some ⟨b, off, none⟩) L.length c] 24)).heap.size = w.heap.size + 1 := World.size_alloc _ _
  have hB2 : Below w.heap.size w (w.alloc (.cells #[.int .i64 n, .slice (some ⟨b, off, none⟩) L.length c] 24)) := (Below.refl _ w).alloc (Nat.le_refl _) _
  have hAL2 : Below (w.alloc (.cells #[.int .i64 n, .slice (some ⟨b, off, none⟩) L.length c] 24)).heap.size (w.alloc (.cells #[.int .i64 n, .slice (some ⟨b, off, none⟩) L.length c] 24)) ((w.alloc (.cells #[.int .i64 n, .slice (some ⟨b, off, none⟩) L.length c] 24)).alloc (.cells (madeCells #[.int .u64 ((lw 0#128).toNat : Int), .int .u64 ((hw 0#128).toNat : Int)] (L.length * 2)) 42)) := (Below.refl _ _).alloc (Nat.le_refl _) _
  clear HX3 HAL x0 x1 hmk
  generalize w.alloc (.cells #[.int .i64 n, .slice (some ⟨b, off, none⟩) L.length c] 24) = w2 at *
  generalize w2.alloc (.cells (madeCells #[.int .u64 ((lw 0#128).toNat : Int), .int .u64 ((hw 0#128).toNat : Int)] (L.length * 2)) 42) = w3 at *
  obtain ⟨g, hg⟩ : ∃ g, g = w.heap.size + 1 := ⟨_, rfl⟩
  rw [← hg] at HR0 ⊢
  have HG := hid hg
  have HSZ := hid hsz2
  have HB2 := hid hB2
  have HAL := hid hAL2
  clear hg hsz2 hB2 hAL2 HB1
  go_loopw [4] (fun z wr => ∃ (k : Nat), k ≤ L.length ∧ z = .int .i64 k ∧ Hid (SetRow wr g (vsOf (L.take k) ++ List.replicate (L.length - k) 0)) ∧ Hid (Below w2.heap.size w2 wr)) (fun z _ => L.length - (intOf z).toNat)
  case atStart => exact ⟨0, Nat.zero_le _, rfl, HR0.out, HAL.out⟩
  case round =>
    clear HR0 HAL
    obtain ⟨k, hk, rfl, hrow, hbr⟩ := hrel
    obtain ⟨x0, x1⟩ := HX.out.below hbr.out
    by_cases hkl : k < L.length
    · obtain ⟨u, hu⟩ := HN.out k hkl
      have hbb : b < w.heap.size := cell_lt hu.kind
      have hu2 := hu.below HB2.out
      have hur := hu2.below hbr.out
      have d0 := hur.kind
      have d1 := hur.lit
      have d2 := hur.ins
      have HU := hid hu2
      have HIN := hid (ins_lt HFT.out hkl)
      have HFK := hid (HFT.out k hkl hkl)
      have hle := hur.len
      have HRV := hid (show SetRow wr g (rowV L k 0) from by rw [← rowV_start hkl]; exact hrow.out)
      have HNX := hid (fun s hs => rowV_next hkl (s := s) hs)
      have zk : (0 : Int) ≤ (k : Int) ∧ (k : Int) < (L.length : Int) := by omega
      have hlg := hrow.out.lt
      have HLW := hid (show w2.heap.size ≤ g from by rw [HG.out, HSZ.out]; exact Nat.le_refl _)
      clear hu hu2 hur hrow
      generalize hxx : L[k] = x at *
      obtain ⟨xk, xl, xi⟩ := x
      obtain ⟨p2, c2, e2, hdrop⟩ := HU.out.ints
      subst e2
      clear hdrop hxx
      have HBR := hid hbr.out
      clear hbr
      by_cases h2 : xk = 2
      · subst h2
        obtain ⟨hl1, hl2⟩ := litVar_yes HFK.out rfl
        obtain ⟨hmx0, hm1, hm2⟩ := max_abs hl1
        have hmx := max_if hmx0
        have hwn := wrap_neg hm1 hm2
        have hxi : xi = [] := by
          apply Classical.byContradiction; intro e
          have h1 := formed_ins (x := ⟨2, xl, xi⟩) (n := n) (k := k) (show (2 : Int) < 3 by decide) e
          have h3 : formed ⟨2, xl, xi⟩ n k = true := HFK.out
          rw [h1] at h3; cases h3
        subst hxi
        obtain ⟨t, ht, y0, y1, y2, y3⟩ := HRV.out.getS k (by rw [rowV_length _ hkl]; exact hkl)
        rw [rowV_at _ hkl] at ht
        obtain ⟨s1, hs1⟩ : ∃ s1 : VS, s1 = 0 := ⟨_, rfl⟩
        rw [← hs1] at ht
        subst ht
        have RK : Hid (wr.drew.cell? ⟨g, k * 2, none⟩ = some (.int .u64 ((lw s1).toNat : Int)) ∧ wr.drew.cell? ⟨g, k * 2 + 1, none⟩ = some (.int .u64 ((hw s1).toNat : Int))) := ⟨y0, y1⟩
        have XN : Hid (wr.drew.cell? ⟨w.heap.size, 1, none⟩ = some (.slice (some ⟨b, off, none⟩) L.length c)) := x1
        have RL : Hid (wr.drew.cell? ⟨b, off + k * 3 + 1, none⟩ = some (.int .i64 xl)) := d1
        have HRW := hid HRV.out
        have HS1 := hid hs1
        clear y0 y1 y2 y3 hs1
        go_wp2_with fail
        refine Go.Proofs.YtpdbfbjfodckgaaDoor.wp_region_L 23 20 (fun w' => (w'.cell? ⟨g, k * 2, none⟩ = some (.int .u64 ((lw (s1)).toNat : Int)) ∧ w'.cell? ⟨g, k * 2 + 1, none⟩ = some (.int .u64 ((hw (s1)).toNat : Int))) ∧ w'.cell? ⟨w.heap.size, 1, none⟩ = some (.slice (some ⟨b, off, none⟩) L.length c) ∧ w'.cell? ⟨b, off + k * 3 + 1, none⟩ = some (.int .i64 xl)) (by kernel_rfl) rfl ⟨RK.out, XN.out, RL.out⟩ (fun _ => ?_)
        refine wpAnyL_pure (i := 0) (v := .slice (some ⟨g, 0, none⟩) L.length L.length) (by simp only [List.getElem?_toArray, List.getElem?_cons_zero] <;> rfl) (by kernel_rfl) (by kernel_rfl) (by kernel_rfl) (by exact fun _ _ _ h => h) (by decide) (.inr ⟨RK.out, XN.out, RL.out⟩) (Or.inl ⟨by rfl, fun w _ => (by simp [execOp, go_sem, Act.eval])⟩) (fun _ => ?_)
        simp only [Act.put, List.setIfInBounds_toArray, List.set_cons_zero, List.set_cons_succ]
        refine wpAnyL_pure (i := 1) (v := .int .i64 (k : Int)) (by simp only [List.getElem?_toArray, List.getElem?_cons_zero, List.getElem?_cons_succ] <;> rfl) (by kernel_rfl) (by kernel_rfl) (by kernel_rfl) (by exact fun _ _ _ h => h) (by decide) (.inr ⟨RK.out, XN.out, RL.out⟩) (Or.inl ⟨by rfl, fun w _ => (by simp [execOp, go_sem, Act.eval])⟩) (fun _ => ?_)
        simp only [Act.put, List.setIfInBounds_toArray, List.set_cons_zero, List.set_cons_succ]
        refine wpAnyL_pure (i := 2) (v := .slice (some ⟨g, 0, none⟩) L.length L.length) (by simp only [List.getElem?_toArray, List.getElem?_cons_zero, List.getElem?_cons_succ] <;> rfl) (by kernel_rfl) (by kernel_rfl) (by kernel_rfl) (by exact fun _ _ _ h => h) (by decide) (.inr ⟨RK.out, XN.out, RL.out⟩) (Or.inl ⟨by rfl, fun w _ => (by simp [execOp, go_sem, Act.eval])⟩) (fun _ => ?_)
        simp only [Act.put, List.setIfInBounds_toArray, List.set_cons_zero, List.set_cons_succ]
        refine wpAnyL_pure (i := 3) (v := .int .i64 (k : Int)) (by simp only [List.getElem?_toArray, List.getElem?_cons_zero, List.getElem?_cons_succ] <;> rfl) (by kernel_rfl) (by kernel_rfl) (by kernel_rfl) (by exact fun _ _ _ h => h) (by decide) (.inr ⟨RK.out, XN.out, RL.out⟩) (Or.inl ⟨by rfl, fun w _ => (by simp [execOp, go_sem, Act.eval])⟩) (fun _ => ?_)
        simp only [Act.put, List.setIfInBounds_toArray, List.set_cons_zero, List.set_cons_succ]
        refine wpAnyL_pure (i := 4) (v := .pointer (some ⟨g, k * 2, none⟩)) (by simp only [List.getElem?_toArray, List.getElem?_cons_zero, List.getElem?_cons_succ] <;> rfl) (by kernel_rfl) (by kernel_rfl) (by kernel_rfl) (by exact fun _ _ _ h => h) (by decide) (.inr ⟨RK.out, XN.out, RL.out⟩) (Or.inl ⟨by rfl, fun w _ => (by simp [execOp, go_sem, Act.eval, zk])⟩) (fun _ => ?_)
        simp only [Act.put, List.setIfInBounds_toArray, List.set_cons_zero, List.set_cons_succ]
        refine wpAnyL_load2 (i := 5) (v := encS (s1)) (by simp only [List.getElem?_toArray, List.getElem?_cons_zero, List.getElem?_cons_succ] <;> rfl) (by kernel_rfl) (by kernel_rfl) (by kernel_rfl) (by exact fun _ _ _ h => h) (by decide) (Waits.one rfl ⟨⟨5, .data⟩, by simp, rfl, rfl⟩) (by kernel_rfl) (by kernel_rfl) (.inr ⟨RK.out, XN.out, RL.out⟩) (Or.inl ⟨by rfl, fun w hw => (by obtain ⟨⟨y0, z0⟩, _, _⟩ := hw; simp [execOp, go_sem, Act.eval, y0, z0])⟩) (fun _ => ?_)
        simp only [Act.put, List.setIfInBounds_toArray, List.set_cons_zero, List.set_cons_succ]
        refine wpAnyL_pure (i := 6) (v := .pointer (some ⟨w.heap.size, 1, none⟩)) (by simp only [List.getElem?_toArray, List.getElem?_cons_zero, List.getElem?_cons_succ] <;> rfl) (by kernel_rfl) (by kernel_rfl) (by kernel_rfl) (by exact fun _ _ _ h => h) (by decide) (.inr ⟨RK.out, XN.out, RL.out⟩) (Or.inl ⟨by rfl, fun w _ => (by simp [execOp, go_sem, Act.eval])⟩) (fun _ => ?_)
        simp only [Act.put, List.setIfInBounds_toArray, List.set_cons_zero, List.set_cons_succ]
        refine wpAnyL_load2 (i := 7) (v := .slice (some ⟨b, off, none⟩) L.length c) (by simp only [List.getElem?_toArray, List.getElem?_cons_zero, List.getElem?_cons_succ] <;> rfl) (by kernel_rfl) (by kernel_rfl) (by kernel_rfl) (by exact fun _ _ _ h => h) (by decide) (Waits.more (j := 19) rfl ⟨⟨19, .data⟩, by simp, rfl, rfl⟩ (Waits.more (j := 11) rfl ⟨⟨11, .data⟩, by simp, rfl, rfl⟩ (Waits.more (j := 10) rfl ⟨⟨10, .data⟩, by simp, rfl, rfl⟩ (Waits.more (j := 9) rfl ⟨⟨9, .data⟩, by simp, rfl, rfl⟩ (Waits.one rfl ⟨⟨7, .data⟩, by simp, rfl, rfl⟩))))) (by kernel_rfl) (by kernel_rfl) (.inr ⟨RK.out, XN.out, RL.out⟩) (Or.inl ⟨by rfl, fun w hw => (by obtain ⟨_, x1, _⟩ := hw; simp [execOp, go_sem, Act.eval, x1])⟩) (fun _ => ?_)
        simp only [Act.put, List.setIfInBounds_toArray, List.set_cons_zero, List.set_cons_succ]
        refine wpAnyL_pure (i := 8) (v := .int .i64 (k : Int)) (by simp only [List.getElem?_toArray, List.getElem?_cons_zero, List.getElem?_cons_succ] <;> rfl) (by kernel_rfl) (by kernel_rfl) (by kernel_rfl) (by exact fun _ _ _ h => h) (by decide) (.inr ⟨RK.out, XN.out, RL.out⟩) (Or.inl ⟨by rfl, fun w _ => (by simp [execOp, go_sem, Act.eval])⟩) (fun _ => ?_)
        simp only [Act.put, List.setIfInBounds_toArray, List.set_cons_zero, List.set_cons_succ]
        refine wpAnyL_pure (i := 9) (v := .pointer (some ⟨b, off + k * 3, none⟩)) (by simp only [List.getElem?_toArray, List.getElem?_cons_zero, List.getElem?_cons_succ] <;> rfl) (by kernel_rfl) (by kernel_rfl) (by kernel_rfl) (by exact fun _ _ _ h => h) (by decide) (.inr ⟨RK.out, XN.out, RL.out⟩) (Or.inl ⟨by rfl, fun w _ => (by simp [execOp, go_sem, Act.eval, zk])⟩) (fun _ => ?_)
        simp only [Act.put, List.setIfInBounds_toArray, List.set_cons_zero, List.set_cons_succ]
        refine wpAnyL_pure (i := 10) (v := .pointer (some ⟨b, off + k * 3 + 1, none⟩)) (by simp only [List.getElem?_toArray, List.getElem?_cons_zero, List.getElem?_cons_succ] <;> rfl) (by kernel_rfl) (by kernel_rfl) (by kernel_rfl) (by exact fun _ _ _ h => h) (by decide) (.inr ⟨RK.out, XN.out, RL.out⟩) (Or.inl ⟨by rfl, fun w _ => (by simp [execOp, go_sem, Act.eval])⟩) (fun _ => ?_)
        simp only [Act.put, List.setIfInBounds_toArray, List.set_cons_zero, List.set_cons_succ]
        refine wpAnyL_load2 (i := 11) (v := .int .i64 xl) (by simp only [List.getElem?_toArray, List.getElem?_cons_zero, List.getElem?_cons_succ] <;> rfl) (by kernel_rfl) (by kernel_rfl) (by kernel_rfl) (by exact fun _ _ _ h => h) (by decide) (Waits.more (j := 19) rfl ⟨⟨19, .data⟩, by simp, rfl, rfl⟩ (Waits.one rfl ⟨⟨11, .data⟩, by simp, rfl, rfl⟩)) (by kernel_rfl) (by kernel_rfl) (.inr ⟨RK.out, XN.out, RL.out⟩) (Or.inl ⟨by rfl, fun w hw => (by obtain ⟨_, _, x2⟩ := hw; simp [execOp, go_sem, Act.eval, x2])⟩) (fun _ => ?_)
        simp only [Act.put, List.setIfInBounds_toArray, List.set_cons_zero, List.set_cons_succ]
        refine wpAnyL_pure (i := 12) (v := .pointer (some ⟨w.heap.size, 1, none⟩)) (by simp only [List.getElem?_toArray, List.getElem?_cons_zero, List.getElem?_cons_succ] <;> rfl) (by kernel_rfl) (by kernel_rfl) (by kernel_rfl) (by exact fun _ _ _ h => h) (by decide) (.inr ⟨RK.out, XN.out, RL.out⟩) (Or.inl ⟨by rfl, fun w _ => (by simp [execOp, go_sem, Act.eval])⟩) (fun _ => ?_)
        simp only [Act.put, List.setIfInBounds_toArray, List.set_cons_zero, List.set_cons_succ]
        refine wpAnyL_load2 (i := 13) (v := .slice (some ⟨b, off, none⟩) L.length c) (by simp only [List.getElem?_toArray, List.getElem?_cons_zero, List.getElem?_cons_succ] <;> rfl) (by kernel_rfl) (by kernel_rfl) (by kernel_rfl) (by exact fun _ _ _ h => h) (by decide) (Waits.more (j := 19) rfl ⟨⟨19, .data⟩, by simp, rfl, rfl⟩ (Waits.more (j := 18) rfl ⟨⟨18, .data⟩, by simp, rfl, rfl⟩ (Waits.more (j := 17) rfl ⟨⟨17, .data⟩, by simp, rfl, rfl⟩ (Waits.more (j := 16) rfl ⟨⟨16, .data⟩, by simp, rfl, rfl⟩ (Waits.more (j := 15) rfl ⟨⟨15, .data⟩, by simp, rfl, rfl⟩ (Waits.one rfl ⟨⟨13, .data⟩, by simp, rfl, rfl⟩)))))) (by kernel_rfl) (by kernel_rfl) (.inr ⟨RK.out, XN.out, RL.out⟩) (Or.inl ⟨by rfl, fun w hw => (by obtain ⟨_, x1, _⟩ := hw; simp [execOp, go_sem, Act.eval, x1])⟩) (fun _ => ?_)
        simp only [Act.put, List.setIfInBounds_toArray, List.set_cons_zero, List.set_cons_succ]
        refine wpAnyL_pure (i := 14) (v := .int .i64 (k : Int)) (by simp only [List.getElem?_toArray, List.getElem?_cons_zero, List.getElem?_cons_succ] <;> rfl) (by kernel_rfl) (by kernel_rfl) (by kernel_rfl) (by exact fun _ _ _ h => h) (by decide) (.inr ⟨RK.out, XN.out, RL.out⟩) (Or.inl ⟨by rfl, fun w _ => (by simp [execOp, go_sem, Act.eval])⟩) (fun _ => ?_)
        simp only [Act.put, List.setIfInBounds_toArray, List.set_cons_zero, List.set_cons_succ]
        refine wpAnyL_pure (i := 15) (v := .pointer (some ⟨b, off + k * 3, none⟩)) (by simp only [List.getElem?_toArray, List.getElem?_cons_zero, List.getElem?_cons_succ] <;> rfl) (by kernel_rfl) (by kernel_rfl) (by kernel_rfl) (by exact fun _ _ _ h => h) (by decide) (.inr ⟨RK.out, XN.out, RL.out⟩) (Or.inl ⟨by rfl, fun w _ => (by simp [execOp, go_sem, Act.eval, zk])⟩) (fun _ => ?_)
        simp only [Act.put, List.setIfInBounds_toArray, List.set_cons_zero, List.set_cons_succ]
        refine wpAnyL_pure (i := 16) (v := .pointer (some ⟨b, off + k * 3 + 1, none⟩)) (by simp only [List.getElem?_toArray, List.getElem?_cons_zero, List.getElem?_cons_succ] <;> rfl) (by kernel_rfl) (by kernel_rfl) (by kernel_rfl) (by exact fun _ _ _ h => h) (by decide) (.inr ⟨RK.out, XN.out, RL.out⟩) (Or.inl ⟨by rfl, fun w _ => (by simp [execOp, go_sem, Act.eval])⟩) (fun _ => ?_)
        simp only [Act.put, List.setIfInBounds_toArray, List.set_cons_zero, List.set_cons_succ]
        refine wpAnyL_load2 (i := 17) (v := .int .i64 xl) (by simp only [List.getElem?_toArray, List.getElem?_cons_zero, List.getElem?_cons_succ] <;> rfl) (by kernel_rfl) (by kernel_rfl) (by kernel_rfl) (by exact fun _ _ _ h => h) (by decide) (Waits.more (j := 19) rfl ⟨⟨19, .data⟩, by simp, rfl, rfl⟩ (Waits.more (j := 18) rfl ⟨⟨18, .data⟩, by simp, rfl, rfl⟩ (Waits.one rfl ⟨⟨17, .data⟩, by simp, rfl, rfl⟩))) (by kernel_rfl) (by kernel_rfl) (.inr ⟨RK.out, XN.out, RL.out⟩) (Or.inl ⟨by rfl, fun w hw => (by obtain ⟨_, _, x2⟩ := hw; simp [execOp, go_sem, Act.eval, x2])⟩) (fun _ => ?_)
        simp only [Act.put, List.setIfInBounds_toArray, List.set_cons_zero, List.set_cons_succ]
        refine wpAnyL_pure (i := 18) (v := .int .i64 (-xl)) (by simp only [List.getElem?_toArray, List.getElem?_cons_zero, List.getElem?_cons_succ] <;> rfl) (by kernel_rfl) (by kernel_rfl) (by kernel_rfl) (by exact fun _ _ _ h => h) (by decide) (.inr ⟨RK.out, XN.out, RL.out⟩) (Or.inl ⟨by rfl, fun w _ => (by simp [execOp, go_sem, Act.eval, hwn])⟩) (fun _ => ?_)
        simp only [Act.put, List.setIfInBounds_toArray, List.set_cons_zero, List.set_cons_succ]
        refine wpAnyL_pure (i := 19) (v := .int .i64 (litVar xl)) (by simp only [List.getElem?_toArray, List.getElem?_cons_zero, List.getElem?_cons_succ] <;> rfl) (by kernel_rfl) (by kernel_rfl) (by kernel_rfl) (by exact fun _ _ _ h => h) (by decide) (.inr ⟨RK.out, XN.out, RL.out⟩) (Or.inl ⟨by rfl, fun w _ => (by simp [go_sem, Act.eval, hmx])⟩) (fun _ => ?_)
        simp only [Act.put, List.setIfInBounds_toArray, List.set_cons_zero, List.set_cons_succ]
        refine wpAnyL_one (i := 20) (by kernel_rfl) (by simp only [List.getElem?_toArray, List.getElem?_cons_zero, List.getElem?_cons_succ] <;> rfl) (by rfl) ?_
        refine opwp_call (f := 59) (args := #[encS (s1), .int .i64 (litVar xl)]) (w' := wr.drew) (by simp [go_sem, Act.eval]) ?_
        refine (with21_c s1 (litVar xl) wr.drew (by omega) (by omega)).mono ?_
        rintro e w7 ⟨rfl, hb6⟩
        refine .inl ⟨_, rfl, .inl (by kernel_rfl), ?_⟩
        simp only [Act.put, List.setIfInBounds_toArray, List.set_cons_zero, List.set_cons_succ]
        refine wpAnyL_pure (i := 21) (v := .pointer (some ⟨g, k * 2, none⟩)) (by simp only [List.getElem?_toArray, List.getElem?_cons_zero, List.getElem?_cons_succ] <;> rfl) (by kernel_rfl) (by kernel_rfl) (by kernel_rfl) (by exact fun _ _ _ h => h) (by decide) (.inl (by kernel_rfl)) (Or.inl ⟨by rfl, fun w _ => (by simp [execOp, go_sem, Act.eval, zk])⟩) (fun _ => ?_)
        simp only [Act.put, List.setIfInBounds_toArray, List.set_cons_zero, List.set_cons_succ]
        have hro7 := HRW.out.same ((((Below.refl _ wr).drew.trans hb6)).block g HRW.out.lt)
        obtain ⟨t2, ht2, y0, y1, y2, y3⟩ := hro7.getS k (by rw [rowV_length _ hkl]; exact hkl)
        refine wpAnyL_one (i := 22) (by kernel_rfl) (by simp only [List.getElem?_toArray, List.getElem?_cons_zero, List.getElem?_cons_succ] <;> rfl) (by rfl) ?_
        refine opwp_skip (w' := ((w7.setCell ⟨g, k * 2, none⟩ (.int .u64 ((lw (withV s1 (litVar xl))).toNat : Int))).setCell ⟨g, k * 2 + 1, none⟩ (.int .u64 ((hw (withV s1 (litVar xl))).toNat : Int)))) (by simp [execOp, go_sem, Act.eval, y0, y1, y2, y3]) ⟨.inl (by kernel_rfl), ?_⟩
        simp only [Act.put]
        refine wpAnyL_done (by kernel_rfl) ?_ _
        have HR2 := hid (hro7.store k (by rw [rowV_length _ hkl]; exact hkl) (withV s1 (litVar xl)))
        have HR3 := hid (show SetRow _ g (rowV L k (withV s1 (litVar xl))) from by rw [← rowV_set 0 _ hkl]; exact HR2.out)
        have hb7 := (Below.refl wr.heap.size wr).drew.trans hb6
        have HG2 := hid ((HBR.out.trans (hb7.mono HBR.out.size)).grown (grownBy_set2 w7 g (k * 2) (k * 2 + 1) (.int .u64 ((lw (withV s1 (litVar xl))).toNat : Int)) (.int .u64 ((hw (withV s1 (litVar xl))).toNat : Int))) (by have := HBR.out.size; have := hb7.size; omega) (by intro k e; have e2 := Option.some.inj e; have := HLW.out; omega))
        have HR4 := hid (show SetRow _ g (vsOf (L.take (k + 1)) ++ List.replicate (L.length - (k + 1)) 0) from by rw [HNX.out (withV s1 (litVar xl)) (by rw [HS1.out]; rfl)]; exact HR3.out)
        clear hro7 y0 y1 y2 y3 hb6 ht2 hb7 HR2 HR3 x0 x1 d0 d1 d2
        obtain ⟨x0, x1⟩ := HX.out.below HG2.out
        have d2 := (HU.out.below HG2.out).ins
        go_wp2_with fail
        go_rounds 1
        go_wp2_with fail
        go_roundw
        case rel => exact ⟨k + 1, by omega, by go_num, HR4.out, HG2.out⟩
        case measure => simp [intOf]; omega
      · have h2' : (xk == 2) = false := by simp [h2]
        have hl0 : litVar xl = 0 := litVar_no HFK.out h2
        have HL0 := hid hl0
        have HR6 := hid (show SetRow wr g (rowV L k (orIns (vsOf (L.take k)) (ofL [litVar xl]) (xi.take 0))) from by rw [hl0]; exact HRV.out)
        have HB6 := hid HBR.out
        clear h2 hl0
        go_wp2_with fail
        obtain ⟨wo, hwo⟩ : ∃ wo : World, wo = wr := ⟨_, rfl⟩
        subst hwo
        go_loopw [5] (fun z wq => ∃ (j : Nat), j ≤ xi.length ∧ z = .int .i64 j ∧ Hid (SetRow wq g (rowV L k (orIns (vsOf (L.take k)) (ofL [litVar xl]) (xi.take j)))) ∧ Hid (Below w2.heap.size w2 wq)) (fun z _ => xi.length - (intOf z).toNat)
        case atStart => exact ⟨0, Nat.zero_le _, rfl, HR6.out, HB6.out⟩
        case round =>
          clear HR6 HB6 x0 x1 d0 d1 d2
          obtain ⟨j, hj, rfl, hrow, hbr⟩ := hrel
          obtain ⟨x0, x1⟩ := HX.out.below hbr.out
          have d2 := (HU.out.below hbr.out).ins
          have hlg2 := hrow.out.lt
          by_cases hjl : j < xi.length
          · obtain ⟨p3, c3, e3, h3⟩ := show IntsAt wr (.slice p2 xi.length c2) xi from (HU.out.below hbr.out).ints
            injection e3 with e1 e4 e2
            clear e4
            subst e1; subst e2
            obtain ⟨b2, o2, rfl, hc⟩ := h3.resolve_left (by intro e; rw [e] at hjl; simp at hjl)
            have hcj := hc j hjl
            rw [List.getElem?_eq_getElem hjl, Option.getD_some] at hcj
            have hin := HIN.out _ (List.getElem_mem hjl)
            have HOR := hid (orIns_snoc (vsOf (L.take k)) (ofL [litVar xl]) (xi.take j) xi[j])
            rw [← List.take_succ_eq_append_getElem hjl] at HOR
            obtain ⟨u, hu⟩ : ∃ u : Nat, xi[j] = (u : Int) := ⟨xi[j].toNat, by omega⟩
            rw [hu] at hcj hin HOR
            have zj : (0 : Int) ≤ (j : Int) ∧ (j : Int) < (xi.length : Int) := by omega
            have zu : (0 : Int) ≤ (u : Int) ∧ (u : Int) < (L.length : Int) := by omega
            have hul : u < L.length := by omega
            obtain ⟨s1, hs1⟩ : ∃ s1, s1 = orIns (vsOf (L.take k)) (ofL [litVar xl]) (xi.take j) := ⟨_, rfl⟩
            rw [← hs1] at hrow HOR
            obtain ⟨t, ht, y0, y1, _, _⟩ := hrow.out.getS u (by rw [rowV_length _ hkl]; exact hul)
            obtain ⟨t', ht', z0, z1, _, _⟩ := hrow.out.getS k (by rw [rowV_length _ hkl]; exact hkl)
            rw [rowV_at _ hkl] at ht'
            subst ht'
            rw [rowV_low _ hkl _ (by omega)] at ht
            rw [ht] at HOR
            have RT : Hid (wr.drew.cell? ⟨g, u * 2, none⟩ = some (.int .u64 ((lw t).toNat : Int)) ∧ wr.drew.cell? ⟨g, u * 2 + 1, none⟩ = some (.int .u64 ((hw t).toNat : Int))) := ⟨y0, y1⟩
            have RK : Hid (wr.drew.cell? ⟨g, k * 2, none⟩ = some (.int .u64 ((lw s1).toNat : Int)) ∧ wr.drew.cell? ⟨g, k * 2 + 1, none⟩ = some (.int .u64 ((hw s1).toNat : Int))) := ⟨z0, z1⟩
            have XN : Hid (wr.drew.cell? ⟨w.heap.size, 1, none⟩ = some (.slice (some ⟨b, off, none⟩) L.length c)) := x1
            have RI : Hid (wr.drew.cell? ⟨b, off + k * 3 + 2, none⟩ = some (.slice (some ⟨b2, o2, none⟩) xi.length c2)) := d2
            have RJ : Hid (wr.drew.cell? ⟨b2, o2 + j, none⟩ = some (.int .i64 (u : Int))) := hcj
            have HRW := hid hrow.out
            have HBQ := hid hbr.out
            clear h3 hc hin hu hs1 y0 y1 z0 z1 ht hrow hbr
            go_wp2_with fail
            refine Go.Proofs.YtpdbfbjfodckgaaDoor.wp_region_L 21 18 (fun w' => (w'.cell? ⟨g, u * 2, none⟩ = some (.int .u64 ((lw (t)).toNat : Int)) ∧ w'.cell? ⟨g, u * 2 + 1, none⟩ = some (.int .u64 ((hw (t)).toNat : Int))) ∧ (w'.cell? ⟨g, k * 2, none⟩ = some (.int .u64 ((lw (s1)).toNat : Int)) ∧ w'.cell? ⟨g, k * 2 + 1, none⟩ = some (.int .u64 ((hw (s1)).toNat : Int))) ∧ w'.cell? ⟨w.heap.size, 1, none⟩ = some (.slice (some ⟨b, off, none⟩) L.length c) ∧ w'.cell? ⟨b, off + k * 3 + 2, none⟩ = some (.slice (some ⟨b2, o2, none⟩) xi.length c2) ∧ w'.cell? ⟨b2, o2 + j, none⟩ = some (.int .i64 (u : Int))) (by kernel_rfl) rfl ⟨RT.out, RK.out, XN.out, RI.out, RJ.out⟩ (fun _ => ?_)
            refine wpAnyL_pure (i := 0) (v := .slice (some ⟨g, 0, none⟩) L.length L.length) (by simp only [List.getElem?_toArray, List.getElem?_cons_zero] <;> rfl) (by kernel_rfl) (by kernel_rfl) (by kernel_rfl) (by exact fun _ _ _ h => h) (by decide) (.inr ⟨RT.out, RK.out, XN.out, RI.out, RJ.out⟩) (Or.inl ⟨by rfl, fun w _ => (by simp [execOp, go_sem, Act.eval])⟩) (fun _ => ?_)
            simp only [Act.put, List.setIfInBounds_toArray, List.set_cons_zero, List.set_cons_succ]
            refine wpAnyL_pure (i := 1) (v := .int .i64 (k : Int)) (by simp only [List.getElem?_toArray, List.getElem?_cons_zero, List.getElem?_cons_succ] <;> rfl) (by kernel_rfl) (by kernel_rfl) (by kernel_rfl) (by exact fun _ _ _ h => h) (by decide) (.inr ⟨RT.out, RK.out, XN.out, RI.out, RJ.out⟩) (Or.inl ⟨by rfl, fun w _ => (by simp [execOp, go_sem, Act.eval])⟩) (fun _ => ?_)
            simp only [Act.put, List.setIfInBounds_toArray, List.set_cons_zero, List.set_cons_succ]
            refine wpAnyL_pure (i := 2) (v := .slice (some ⟨g, 0, none⟩) L.length L.length) (by simp only [List.getElem?_toArray, List.getElem?_cons_zero, List.getElem?_cons_succ] <;> rfl) (by kernel_rfl) (by kernel_rfl) (by kernel_rfl) (by exact fun _ _ _ h => h) (by decide) (.inr ⟨RT.out, RK.out, XN.out, RI.out, RJ.out⟩) (Or.inl ⟨by rfl, fun w _ => (by simp [execOp, go_sem, Act.eval])⟩) (fun _ => ?_)
            simp only [Act.put, List.setIfInBounds_toArray, List.set_cons_zero, List.set_cons_succ]
            refine wpAnyL_pure (i := 3) (v := .int .i64 (k : Int)) (by simp only [List.getElem?_toArray, List.getElem?_cons_zero, List.getElem?_cons_succ] <;> rfl) (by kernel_rfl) (by kernel_rfl) (by kernel_rfl) (by exact fun _ _ _ h => h) (by decide) (.inr ⟨RT.out, RK.out, XN.out, RI.out, RJ.out⟩) (Or.inl ⟨by rfl, fun w _ => (by simp [execOp, go_sem, Act.eval])⟩) (fun _ => ?_)
            simp only [Act.put, List.setIfInBounds_toArray, List.set_cons_zero, List.set_cons_succ]
            refine wpAnyL_pure (i := 4) (v := .pointer (some ⟨g, k * 2, none⟩)) (by simp only [List.getElem?_toArray, List.getElem?_cons_zero, List.getElem?_cons_succ] <;> rfl) (by kernel_rfl) (by kernel_rfl) (by kernel_rfl) (by exact fun _ _ _ h => h) (by decide) (.inr ⟨RT.out, RK.out, XN.out, RI.out, RJ.out⟩) (Or.inl ⟨by rfl, fun w _ => (by simp [execOp, go_sem, Act.eval, zk])⟩) (fun _ => ?_)
            simp only [Act.put, List.setIfInBounds_toArray, List.set_cons_zero, List.set_cons_succ]
            refine wpAnyL_load2 (i := 5) (v := encS (s1)) (by simp only [List.getElem?_toArray, List.getElem?_cons_zero, List.getElem?_cons_succ] <;> rfl) (by kernel_rfl) (by kernel_rfl) (by kernel_rfl) (by exact fun _ _ _ h => h) (by decide) (Waits.one rfl ⟨⟨5, .data⟩, by simp, rfl, rfl⟩) (by kernel_rfl) (by kernel_rfl) (.inr ⟨RT.out, RK.out, XN.out, RI.out, RJ.out⟩) (Or.inl ⟨by rfl, fun w hw => (by obtain ⟨_, ⟨y1, z1⟩, _, _, _⟩ := hw; simp [execOp, go_sem, Act.eval, y1, z1])⟩) (fun _ => ?_)
            simp only [Act.put, List.setIfInBounds_toArray, List.set_cons_zero, List.set_cons_succ]
            refine wpAnyL_pure (i := 6) (v := .slice (some ⟨g, 0, none⟩) L.length L.length) (by simp only [List.getElem?_toArray, List.getElem?_cons_zero, List.getElem?_cons_succ] <;> rfl) (by kernel_rfl) (by kernel_rfl) (by kernel_rfl) (by exact fun _ _ _ h => h) (by decide) (.inr ⟨RT.out, RK.out, XN.out, RI.out, RJ.out⟩) (Or.inl ⟨by rfl, fun w _ => (by simp [execOp, go_sem, Act.eval])⟩) (fun _ => ?_)
            simp only [Act.put, List.setIfInBounds_toArray, List.set_cons_zero, List.set_cons_succ]
            refine wpAnyL_pure (i := 7) (v := .pointer (some ⟨w.heap.size, 1, none⟩)) (by simp only [List.getElem?_toArray, List.getElem?_cons_zero, List.getElem?_cons_succ] <;> rfl) (by kernel_rfl) (by kernel_rfl) (by kernel_rfl) (by exact fun _ _ _ h => h) (by decide) (.inr ⟨RT.out, RK.out, XN.out, RI.out, RJ.out⟩) (Or.inl ⟨by rfl, fun w _ => (by simp [execOp, go_sem, Act.eval])⟩) (fun _ => ?_)
            simp only [Act.put, List.setIfInBounds_toArray, List.set_cons_zero, List.set_cons_succ]
            refine wpAnyL_load2 (i := 8) (v := .slice (some ⟨b, off, none⟩) L.length c) (by simp only [List.getElem?_toArray, List.getElem?_cons_zero, List.getElem?_cons_succ] <;> rfl) (by kernel_rfl) (by kernel_rfl) (by kernel_rfl) (by exact fun _ _ _ h => h) (by decide) (Waits.more (j := 17) rfl ⟨⟨17, .data⟩, by simp, rfl, rfl⟩ (Waits.more (j := 16) rfl ⟨⟨16, .data⟩, by simp, rfl, rfl⟩ (Waits.more (j := 15) rfl ⟨⟨15, .data⟩, by simp, rfl, rfl⟩ (Waits.more (j := 14) rfl ⟨⟨14, .data⟩, by simp, rfl, rfl⟩ (Waits.more (j := 12) rfl ⟨⟨12, .data⟩, by simp, rfl, rfl⟩ (Waits.more (j := 11) rfl ⟨⟨11, .data⟩, by simp, rfl, rfl⟩ (Waits.more (j := 10) rfl ⟨⟨10, .data⟩, by simp, rfl, rfl⟩ (Waits.one rfl ⟨⟨8, .data⟩, by simp, rfl, rfl⟩)))))))) (by kernel_rfl) (by kernel_rfl) (.inr ⟨RT.out, RK.out, XN.out, RI.out, RJ.out⟩) (Or.inl ⟨by rfl, fun w hw => (by obtain ⟨_, _, x2, _, _⟩ := hw; simp [execOp, go_sem, Act.eval, x2])⟩) (fun _ => ?_)
            simp only [Act.put, List.setIfInBounds_toArray, List.set_cons_zero, List.set_cons_succ]
            refine wpAnyL_pure (i := 9) (v := .int .i64 (k : Int)) (by simp only [List.getElem?_toArray, List.getElem?_cons_zero, List.getElem?_cons_succ] <;> rfl) (by kernel_rfl) (by kernel_rfl) (by kernel_rfl) (by exact fun _ _ _ h => h) (by decide) (.inr ⟨RT.out, RK.out, XN.out, RI.out, RJ.out⟩) (Or.inl ⟨by rfl, fun w _ => (by simp [execOp, go_sem, Act.eval])⟩) (fun _ => ?_)
            simp only [Act.put, List.setIfInBounds_toArray, List.set_cons_zero, List.set_cons_succ]
            refine wpAnyL_pure (i := 10) (v := .pointer (some ⟨b, off + k * 3, none⟩)) (by simp only [List.getElem?_toArray, List.getElem?_cons_zero, List.getElem?_cons_succ] <;> rfl) (by kernel_rfl) (by kernel_rfl) (by kernel_rfl) (by exact fun _ _ _ h => h) (by decide) (.inr ⟨RT.out, RK.out, XN.out, RI.out, RJ.out⟩) (Or.inl ⟨by rfl, fun w _ => (by simp [execOp, go_sem, Act.eval, zk])⟩) (fun _ => ?_)
            simp only [Act.put, List.setIfInBounds_toArray, List.set_cons_zero, List.set_cons_succ]
            refine wpAnyL_pure (i := 11) (v := .pointer (some ⟨b, off + k * 3 + 2, none⟩)) (by simp only [List.getElem?_toArray, List.getElem?_cons_zero, List.getElem?_cons_succ] <;> rfl) (by kernel_rfl) (by kernel_rfl) (by kernel_rfl) (by exact fun _ _ _ h => h) (by decide) (.inr ⟨RT.out, RK.out, XN.out, RI.out, RJ.out⟩) (Or.inl ⟨by rfl, fun w _ => (by simp [execOp, go_sem, Act.eval])⟩) (fun _ => ?_)
            simp only [Act.put, List.setIfInBounds_toArray, List.set_cons_zero, List.set_cons_succ]
            refine wpAnyL_load2 (i := 12) (v := .slice (some ⟨b2, o2, none⟩) xi.length c2) (by simp only [List.getElem?_toArray, List.getElem?_cons_zero, List.getElem?_cons_succ] <;> rfl) (by kernel_rfl) (by kernel_rfl) (by kernel_rfl) (by exact fun _ _ _ h => h) (by decide) (Waits.more (j := 17) rfl ⟨⟨17, .data⟩, by simp, rfl, rfl⟩ (Waits.more (j := 16) rfl ⟨⟨16, .data⟩, by simp, rfl, rfl⟩ (Waits.more (j := 15) rfl ⟨⟨15, .data⟩, by simp, rfl, rfl⟩ (Waits.more (j := 14) rfl ⟨⟨14, .data⟩, by simp, rfl, rfl⟩ (Waits.one rfl ⟨⟨12, .data⟩, by simp, rfl, rfl⟩))))) (by kernel_rfl) (by kernel_rfl) (.inr ⟨RT.out, RK.out, XN.out, RI.out, RJ.out⟩) (Or.inl ⟨by rfl, fun w hw => (by obtain ⟨_, _, _, x3, _⟩ := hw; simp [execOp, go_sem, Act.eval, x3])⟩) (fun _ => ?_)
            simp only [Act.put, List.setIfInBounds_toArray, List.set_cons_zero, List.set_cons_succ]
            refine wpAnyL_pure (i := 13) (v := .int .i64 (j : Int)) (by simp only [List.getElem?_toArray, List.getElem?_cons_zero, List.getElem?_cons_succ] <;> rfl) (by kernel_rfl) (by kernel_rfl) (by kernel_rfl) (by exact fun _ _ _ h => h) (by decide) (.inr ⟨RT.out, RK.out, XN.out, RI.out, RJ.out⟩) (Or.inl ⟨by rfl, fun w _ => (by simp [execOp, go_sem, Act.eval])⟩) (fun _ => ?_)
            simp only [Act.put, List.setIfInBounds_toArray, List.set_cons_zero, List.set_cons_succ]
            refine wpAnyL_pure (i := 14) (v := .pointer (some ⟨b2, o2 + j, none⟩)) (by simp only [List.getElem?_toArray, List.getElem?_cons_zero, List.getElem?_cons_succ] <;> rfl) (by kernel_rfl) (by kernel_rfl) (by kernel_rfl) (by exact fun _ _ _ h => h) (by decide) (.inr ⟨RT.out, RK.out, XN.out, RI.out, RJ.out⟩) (Or.inl ⟨by rfl, fun w _ => (by simp [execOp, go_sem, Act.eval, zj])⟩) (fun _ => ?_)
            simp only [Act.put, List.setIfInBounds_toArray, List.set_cons_zero, List.set_cons_succ]
            refine wpAnyL_load2 (i := 15) (v := .int .i64 (u : Int)) (by simp only [List.getElem?_toArray, List.getElem?_cons_zero, List.getElem?_cons_succ] <;> rfl) (by kernel_rfl) (by kernel_rfl) (by kernel_rfl) (by exact fun _ _ _ h => h) (by decide) (Waits.more (j := 17) rfl ⟨⟨17, .data⟩, by simp, rfl, rfl⟩ (Waits.more (j := 16) rfl ⟨⟨16, .data⟩, by simp, rfl, rfl⟩ (Waits.one rfl ⟨⟨15, .data⟩, by simp, rfl, rfl⟩))) (by kernel_rfl) (by kernel_rfl) (.inr ⟨RT.out, RK.out, XN.out, RI.out, RJ.out⟩) (Or.inl ⟨by rfl, fun w hw => (by obtain ⟨_, _, _, _, x4⟩ := hw; simp [execOp, go_sem, Act.eval, x4])⟩) (fun _ => ?_)
            simp only [Act.put, List.setIfInBounds_toArray, List.set_cons_zero, List.set_cons_succ]
            refine wpAnyL_pure (i := 16) (v := .pointer (some ⟨g, u * 2, none⟩)) (by simp only [List.getElem?_toArray, List.getElem?_cons_zero, List.getElem?_cons_succ] <;> rfl) (by kernel_rfl) (by kernel_rfl) (by kernel_rfl) (by exact fun _ _ _ h => h) (by decide) (.inr ⟨RT.out, RK.out, XN.out, RI.out, RJ.out⟩) (Or.inl ⟨by rfl, fun w _ => (by simp [execOp, go_sem, Act.eval, zu])⟩) (fun _ => ?_)
            simp only [Act.put, List.setIfInBounds_toArray, List.set_cons_zero, List.set_cons_succ]
            refine wpAnyL_load2 (i := 17) (v := encS (t)) (by simp only [List.getElem?_toArray, List.getElem?_cons_zero, List.getElem?_cons_succ] <;> rfl) (by kernel_rfl) (by kernel_rfl) (by kernel_rfl) (by exact fun _ _ _ h => h) (by decide) (Waits.one rfl ⟨⟨17, .data⟩, by simp, rfl, rfl⟩) (by kernel_rfl) (by kernel_rfl) (.inr ⟨RT.out, RK.out, XN.out, RI.out, RJ.out⟩) (Or.inl ⟨by rfl, fun w hw => (by obtain ⟨⟨y0, z0⟩, _, _, _, _⟩ := hw; simp [execOp, go_sem, Act.eval, y0, z0])⟩) (fun _ => ?_)
            simp only [Act.put, List.setIfInBounds_toArray, List.set_cons_zero, List.set_cons_succ]
            refine wpAnyL_one (i := 18) (by kernel_rfl) (by simp only [List.getElem?_toArray, List.getElem?_cons_zero, List.getElem?_cons_succ] <;> rfl) (by rfl) ?_
            refine opwp_call (f := 53) (args := #[encS (s1), encS (t)]) (w' := wr.drew) (by simp [go_sem, Act.eval]) ?_
            refine (union21_c s1 t wr.drew).mono ?_
            rintro e w7 ⟨rfl, hb6⟩
            refine .inl ⟨_, rfl, .inl (by kernel_rfl), ?_⟩
            simp only [Act.put, List.setIfInBounds_toArray, List.set_cons_zero, List.set_cons_succ]
            refine wpAnyL_pure (i := 19) (v := .pointer (some ⟨g, k * 2, none⟩)) (by simp only [List.getElem?_toArray, List.getElem?_cons_zero, List.getElem?_cons_succ] <;> rfl) (by kernel_rfl) (by kernel_rfl) (by kernel_rfl) (by exact fun _ _ _ h => h) (by decide) (.inl (by kernel_rfl)) (Or.inl ⟨by rfl, fun w _ => (by simp [execOp, go_sem, Act.eval, zk])⟩) (fun _ => ?_)
            simp only [Act.put, List.setIfInBounds_toArray, List.set_cons_zero, List.set_cons_succ]
            have hro7 := HRW.out.same ((((Below.refl _ wr).drew.trans hb6)).block g HRW.out.lt)
            obtain ⟨t2, ht2, y0, y1, y2, y3⟩ := hro7.getS k (by rw [rowV_length _ hkl]; exact hkl)
            refine wpAnyL_one (i := 20) (by kernel_rfl) (by simp only [List.getElem?_toArray, List.getElem?_cons_zero, List.getElem?_cons_succ] <;> rfl) (by rfl) ?_
            refine opwp_skip (w' := ((w7.setCell ⟨g, k * 2, none⟩ (.int .u64 ((lw (s1 ||| t)).toNat : Int))).setCell ⟨g, k * 2 + 1, none⟩ (.int .u64 ((hw (s1 ||| t)).toNat : Int)))) (by simp [execOp, go_sem, Act.eval, y0, y1, y2, y3]) ⟨.inl (by kernel_rfl), ?_⟩
            simp only [Act.put]
            refine wpAnyL_done (by kernel_rfl) ?_ _
            have HR2 := hid (hro7.store k (by rw [rowV_length _ hkl]; exact hkl) (s1 ||| t))
            have HR3 := hid (show SetRow _ g (rowV L k (s1 ||| t)) from by rw [← rowV_set s1 _ hkl]; exact HR2.out)
            have hb7 := (Below.refl wr.heap.size wr).drew.trans hb6
            have HG2 := hid ((HBQ.out.trans (hb7.mono HBQ.out.size)).grown (grownBy_set2 w7 g (k * 2) (k * 2 + 1) (.int .u64 ((lw (s1 ||| t)).toNat : Int)) (.int .u64 ((hw (s1 ||| t)).toNat : Int))) (by have := HBQ.out.size; have := hb7.size; omega) (by intro k e; have e2 := Option.some.inj e; have := HLW.out; omega))
            clear hro7 y0 y1 y2 y3 hb6 ht2 hb7 HR2 x0 x1 d2
            go_wp2_with fail
            go_roundw
            case rel => exact ⟨j + 1, by omega, by go_num, (by rw [HOR.out]; exact HR3.out), HG2.out⟩
            case measure => simp [intOf]; omega
          · obtain rfl : j = xi.length := by omega
            rw [List.take_length] at hrow
            have HN2 := HNX.out (orIns (vsOf (L.take k)) (ofL [litVar xl]) xi) rfl
            have HRW := hid (show SetRow wr g (vsOf (L.take (k + 1)) ++ List.replicate (L.length - (k + 1)) 0) from by rw [HN2]; exact hrow.out)
            have HBQ := hid hbr.out
            clear hrow hbr HN2 HNX HIN
            go_wp2_with fail
            go_roundw
            case rel => exact ⟨k + 1, by omega, by go_num, HRW.out, HBQ.out⟩
            case measure => simp [intOf]; omega
    · obtain rfl : k = L.length := by omega
      rw [List.take_length, Nat.sub_self, List.replicate_zero, List.append_nil] at hrow
      have HRW := hid hrow.out
      have HBQ := hid hbr.out
      clear hrow hbr
      go_wp2_with fail
      go_ret
      refine ⟨g, rfl, ?_, HRW.out, ?_⟩
      · have := HG.out; omega
      · exact HB2.out.trans (HBQ.out.mono HB2.out.size)
end Go.Proofs.YtpdbfbjfodckgaaDoor
