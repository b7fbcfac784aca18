/- Walks: the check sum, of the program and of the reference. -/
import Derived.Test.YtkfmblpcfgdgpaaFMem
namespace Go.Proofs.Ytkfmblpcfgdgpaa
open Go.RowKit

/-- The state behind k bytes. -/
def crcN (l : List UInt8) (k : Nat) : BitVec 32 := crcFrom (BitVec.allOnes 32) (l.take k)
theorem crc_take (l : List UInt8) (k : Nat) (h : k < l.length) : crcN l (k + 1) = stepN 8 (xor32 (crcN l k) (byte32 l[k])) := by
  unfold crcN
  rw [List.take_succ_eq_append_getElem h, crcFrom_snoc]
theorem not_prog (s : BitVec 32) : bits .xor .u32 IntKind.u32.max (s.toNat : Int) = ((not32 s).toNat : Int) := by
  rw [show IntKind.u32.max = ((BitVec.allOnes 32).toNat : Int) from rfl, bits_xor32]
  unfold xor32 not32
  rw [BitVec.allOnes_xor]
theorem step_prog' (s : BitVec 32) : bits .xor .u32 ((s.toNat : Int) / 2) (bits .and .u32 3988292384 (-bits .and .u32 (s.toNat : Int) 1 % 4294967296)) = ((step1 s).toNat : Int) := by
  rw [← step_prog]
  congr 2
theorem xor_byte (s : BitVec 32) (c : UInt8) : bits .xor .u32 (s.toNat : Int) (c.toNat : Int) = ((xor32 s (byte32 c)).toNat : Int) := by
  rw [← byte32_toNat, bits_xor32]
set_option maxRecDepth 100000 in
set_option maxHeartbeats 1000000 in
theorem Sum_c (v : Value) (l : List UInt8) (w : World) (hI : BytesAt w v l) (hl : l.length ≤ 140737488355328) :
    Calls Try.prog 25 #[v] w fun e w' => e = .returned (.int .u32 ((crc l).toNat : Int)) ∧ w = w' := by
  obtain ⟨p, c, rfl, hI⟩ := hI
  have HI := hid hI
  clear hI
  go_enter Try.func25, Try.ntmps25
  go_wp2
  go_loop [3, 8] (fun s i => ∃ k : Nat, k ≤ l.length ∧ i = .int .i64 k ∧ s = .int .u32 ((crcN l k).toNat : Int)) (fun _ i => l.length - (intOf i).toNat)
  case atStart => exact ⟨0, Nat.zero_le _, rfl, rfl⟩
  case round =>
    obtain ⟨k, hk, rfl, rfl⟩ := hrel
    by_cases hlt : k < l.length
    · obtain ⟨b, off, rfl, hI⟩ := HI.out.resolve_left (by intro e; rw [e] at hlt; simp at hlt)
      have hc := hI k hlt
      have hx := xor_byte (crcN l k) l[k]
      have HK := hid (crc_take l k hlt)
      have hr : (0 : Int) ≤ (l[k].toNat : Int) := by omega
      have hr2 : (l[k].toNat : Int) < 256 := by have := l[k].toNat_lt; omega
      clear hI
      go_wp2
      rw [show xor32 (crcN l k) (byte32 l[k]) = stepN 0 (xor32 (crcN l k) (byte32 l[k])) from rfl]
      generalize xor32 (crcN l k) (byte32 l[k]) = s0 at *
      go_loop [3, 16] (fun s i => ∃ j : Nat, j ≤ 8 ∧ i = .int .i64 j ∧ s = .int .u32 ((stepN j s0).toNat : Int)) (fun _ i => 8 - (intOf i).toNat)
      case atStart => exact ⟨0, by omega, rfl, rfl⟩
      case round =>
        obtain ⟨j, hj, rfl, rfl⟩ := hrel
        by_cases hlt8 : j < 8
        · have hs := hid (step_prog' (stepN j s0))
          have HS := hid (show step1 (stepN j s0) = stepN (j + 1) s0 from rfl)
          clear hx
          go_wp2
          go_round
          case rel => exact ⟨j + 1, by omega, by go_num, by rw [← HS.out]; exact congrArg (Value.int .u32) hs.out⟩
          case measure => simp [intOf]; omega
        · obtain rfl : j = 8 := by omega
          clear hx
          go_wp2
          go_round
          case rel => exact ⟨k + 1, by omega, by go_num, by rw [HK.out]⟩
          case measure => simp [intOf]; omega
    · obtain rfl : k = l.length := by omega
      have HC : Hid (not32 (crcN l l.length) = crc l) := by
        show not32 (crcN l l.length) = crc l
        unfold crcN crc; rw [List.take_length]
      have hn := not_prog (crcN l l.length)
      go_wp2
      go_ret
      exact ⟨by rw [HC.out]; rfl, rfl⟩
set_option maxRecDepth 100000 in
set_option maxHeartbeats 1000000 in
theorem rSum_c (v : Value) (l : List UInt8) (w : World) (hI : BytesAt w v l) (hl : l.length ≤ 140737488355328) :
    Calls Try.prog 26 #[v] w fun e w' => e = .returned (.int .u32 ((crc l).toNat : Int)) ∧ w = w' := by
  obtain ⟨p, c, rfl, hI⟩ := hI
  have HI := hid hI
  clear hI
  go_enter Try.func26, Try.ntmps26
  go_wp2
  go_loop [3, 4] (fun s i => ∃ k : Nat, k ≤ l.length ∧ i = .int .i64 k ∧ s = .int .u32 ((crcN l k).toNat : Int)) (fun _ i => l.length - (intOf i).toNat)
  case atStart => exact ⟨0, Nat.zero_le _, rfl, rfl⟩
  case round =>
    obtain ⟨k, hk, rfl, rfl⟩ := hrel
    by_cases hlt : k < l.length
    · obtain ⟨b, off, rfl, hI⟩ := HI.out.resolve_left (by intro e; rw [e] at hlt; simp at hlt)
      have hc := hI k hlt
      have hx := xor_byte (crcN l k) l[k]
      have HK := hid (crc_take l k hlt)
      have hr : (0 : Int) ≤ (l[k].toNat : Int) := by omega
      have hr2 : (l[k].toNat : Int) < 256 := by have := l[k].toNat_lt; omega
      clear hI
      go_wp2
      rw [show xor32 (crcN l k) (byte32 l[k]) = stepN 0 (xor32 (crcN l k) (byte32 l[k])) from rfl]
      generalize xor32 (crcN l k) (byte32 l[k]) = s0 at *
      go_loop [3, 5] (fun s i => ∃ j : Nat, j ≤ 8 ∧ i = .int .i64 j ∧ s = .int .u32 ((stepN j s0).toNat : Int)) (fun _ i => 8 - (intOf i).toNat)
      case atStart => exact ⟨0, by omega, rfl, rfl⟩
      case round =>
        obtain ⟨j, hj, rfl, rfl⟩ := hrel
        by_cases hlt8 : j < 8
        · have HS := hid (show step1 (stepN j s0) = stepN (j + 1) s0 from rfl)
          clear hx
          cases hb : (stepN j s0).getLsbD 0
          · have ht := step_ref (stepN j s0)
            rw [hb] at ht
            have hs := step_ref_no (stepN j s0) hb
            go_wp2
            go_round
            case rel => exact ⟨j + 1, by omega, by go_num, by rw [← HS.out]⟩
            case measure => simp [intOf]; omega
          · have ht := step_ref (stepN j s0)
            rw [hb] at ht
            have hs := step_ref_yes (stepN j s0) hb
            go_wp2
            go_round
            case rel => exact ⟨j + 1, by omega, by go_num, by rw [← HS.out]⟩
            case measure => simp [intOf]; omega
        · obtain rfl : j = 8 := by omega
          clear hx
          go_wp2
          go_round
          case rel => exact ⟨k + 1, by omega, by go_num, by rw [HK.out]⟩
          case measure => simp [intOf]; omega
    · obtain rfl : k = l.length := by omega
      have HC : Hid (not32 (crcN l l.length) = crc l) := by
        show not32 (crcN l l.length) = crc l
        unfold crcN crc; rw [List.take_length]
      have hn := not_ref (crcN l l.length)
      go_wp2
      go_ret
      exact ⟨by rw [HC.out]; rfl, rfl⟩
end Go.Proofs.Ytkfmblpcfgdgpaa
