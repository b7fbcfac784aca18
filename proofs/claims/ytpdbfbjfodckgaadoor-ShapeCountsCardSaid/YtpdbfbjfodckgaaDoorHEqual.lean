/- Walk of censuslaw21.equal; plain facts on the smooth form's values. -/
import Derived.Test.YtpdbfbjfodckgaaDoorHEval
namespace Go.Proofs.YtpdbfbjfodckgaaDoor
open Go.RowKit

theorem enc_setW {k : Nat} (h : k < 18446744073709551616) : encS (setW k) = .agg #[.int .u64 (k : Int), .int .u64 0] := by
  have h1 : (lw (setW k)).toNat = k := by
    unfold lw setW
    rw [BitVec.toNat_setWidth, BitVec.toNat_ofNat]
    omega
  have h2 : (hw (setW k)).toNat = 0 := by
    unfold hw setW
    rw [BitVec.toNat_setWidth, BitVec.toNat_ushiftRight, BitVec.toNat_ofNat, Nat.shiftRight_eq_div_pow]
    omega
  unfold encS
  rw [h1, h2]; rfl
theorem Eval_k (n : Int) (L : List NodeT) (v : Value) (k : Nat) (w : World) (hN : NodesAt w v L) (hv : validNet ⟨n, L⟩ = true) (hk : k < 18446744073709551616) :
    Calls Tryd.prog 36 #[.agg #[.int .i64 n, v], .agg #[.int .u64 (k : Int), .int .u64 0]] w (DecPost (bOf (bsOf (has (setW k)) L) ((L.length : Int) - 1)) w) := by
  have := Eval_c n L v (setW k) w hN hv
  rw [enc_setW hk] at this
  exact this
theorem small_pow {m : Nat} (h : m ≤ 8) : 2 ^ m ≤ 256 := Nat.pow_le_pow_right (n := 2) (by decide) h
set_option maxRecDepth 100000 in
set_option maxHeartbeats 4000000 in
theorem equalN_c (m : Nat) (hm : m ≤ 8) (La Lb : List NodeT) (va vb : Value) (w : World) (hA : NodesAt w va La) (hB : NodesAt w vb Lb) (hva : validNet ⟨m, La⟩ = true) (hvb : validNet ⟨m, Lb⟩ = true)
    (he : ∀ A, bOf (bsOf A La) ((La.length : Int) - 1) = bOf (bsOf A Lb) ((Lb.length : Int) - 1)) :
    Calls Tryd.prog 34 #[.agg #[.int .i64 (m : Int), va], .agg #[.int .i64 (m : Int), vb]] w (DecPost true w) := by
  have hb1 : Below w.heap.size w (w.alloc (.cells #[.int .i64 (m : Int), va] 24)) := (Below.refl _ w).alloc (Nat.le_refl _) _
  have hb12 : Below (w.alloc (.cells #[.int .i64 (m : Int), va] 24)).heap.size (w.alloc (.cells #[.int .i64 (m : Int), va] 24)) ((w.alloc (.cells #[.int .i64 (m : Int), va] 24)).alloc (.cells #[.int .i64 (m : Int), vb] 24)) := (Below.refl _ _).alloc (Nat.le_refl _) _
  have hx := (NetVar.new w m va 24).below hb12
  have hy := NetVar.new (w.alloc (.cells #[.int .i64 (m : Int), va] 24)) m vb 24
  rw [World.size_alloc] at hy
  obtain ⟨N, hN⟩ : ∃ N, N = 2 ^ m := ⟨_, rfl⟩
  have hN2 : N ≤ 256 := by rw [hN]; exact small_pow hm
  have hsh : IntKind.u64.wrap (2 ^ m) = (N : Int) := by
    have e : (2 : Int) ^ m = (N : Int) := by rw [hN]; exact (Int.natCast_pow 2 _).symm
    rw [e, IntKind.wrap_u64]; omega
  have HX := hid hx
  have HY := hid hy
  have HA := hid ((hA.below hb1).below hb12)
  have HB := hid ((hB.below hb1).below hb12)
  have HVA := hid hva
  have HVB := hid hvb
  have HE := hid he
  have HBB := hid (hb1.trans (hb12.mono hb1.size))
  obtain ⟨x0, x1⟩ := hx
  obtain ⟨y0, y1⟩ := hy
  clear hb1 hb12 hA hB hva hvb he hN
  go_enter Tryd.func34, Tryd.ntmps34
  go_wp2_with fail
  generalize (w.alloc (.cells #[.int .i64 (m : Int), va] 24)).alloc (.cells #[.int .i64 (m : Int), vb] 24) = w2 at *
  clear x0 x1 y0 y1 hsh
  go_loopw [10] (fun z wr => ∃ (k : Nat), k ≤ N ∧ z = .int .u64 k ∧ Hid (Below w2.heap.size w2 wr)) (fun z _ => N - (intOf z).toNat)
  case atStart => exact ⟨0, Nat.zero_le _, rfl, Below.refl _ _⟩
  case round =>
    obtain ⟨k, hk, rfl, hbr⟩ := hrel
    obtain ⟨x0, x1⟩ := HX.out.below hbr.out
    obtain ⟨y0, y1⟩ := HY.out.below hbr.out
    by_cases hkl : k < N
    · have zk : (k : Int) < (N : Int) := by omega
      obtain ⟨bb, hbb⟩ : ∃ bb, bb = bOf (bsOf (has (setW k)) La) ((La.length : Int) - 1) := ⟨_, rfl⟩
      have q1 := fun x => Eval_k m La va k (ext wr x) ((HA.out.below hbr.out).below (ext_below wr x)) HVA.out (by omega)
      have q2 := fun x => Eval_k m Lb vb k (ext wr x) ((HB.out.below hbr.out).below (ext_below wr x)) HVB.out (by omega)
      rw [← hbb] at q1
      rw [← HE.out, ← hbb] at q2
      have HBR := hid hbr.out
      have d1 : (bb == bb) = true := by simp
      have lx : w.heap.size < wr.heap.size := cell_lt x0
      have ly : w.heap.size + 1 < wr.heap.size := cell_lt y0
      clear hbr hbb
      go_wp2_with fail
      refine wp_region_pure (by kernel_rfl) (by kernel_rfl) ?_
      repeat (go_big_quiet_step ((first | (go_at_call 36; with_reducible exact Calls.ext_of (q1 _)) | (go_at_call 36; with_reducible exact Calls.ext_of (q2 _)))))
      refine wpQuiet_nil ?_
      intro w3 hb3
      go_wp2_with fail
      go_roundw
      case rel => exact ⟨k + 1, by omega, by go_num, HBR.out.trans (hb3.mono HBR.out.size)⟩
      case measure => simp [intOf]; omega
    · obtain rfl : k = N := by omega
      have HBR := hid hbr.out
      clear hbr
      go_wp2_with fail
      go_ret
      exact ⟨by first | rfl | simp, HBB.out.trans (HBR.out.mono HBB.out.size)⟩
end Go.Proofs.YtpdbfbjfodckgaaDoor
