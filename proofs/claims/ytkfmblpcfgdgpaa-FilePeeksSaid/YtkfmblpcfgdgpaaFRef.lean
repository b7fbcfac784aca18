/- Walks: the reference's numbers, sealed bytes. -/
import Derived.Test.YtkfmblpcfgdgpaaFRow2
import Derived.Test.YtkfmblpcfgdgpaaFEnc
namespace Go.Proofs.Ytkfmblpcfgdgpaa
open Go.RowKit

theorem newB_of {w w' : World} {v : Value} {l l' : List UInt8} (e : l = l') (h : Row w' w.heap.size v l) (hb : Below w.heap.size w w') : NewB w l' (.returned v) w' := ⟨v, rfl, by rw [← e]; exact h, hb⟩
set_option maxRecDepth 100000 in
set_option maxHeartbeats 1000000 in
theorem Number_c (n : Nat) : ∀ (_hn : n < 9223372036854775808) (w : World), Calls Try.prog 33 #[.int .i64 n] w (NewB w (encNum n)) := by
  induction n using Nat.strongRecOn with
  | _ n ih =>
    intro hn w
    by_cases h : n < 128
    · have hr := Row.lit w [UInt8.ofNat n] (by simp [maxLen])
      have hb1 : Below w.heap.size w (w.alloc (.cells ([UInt8.ofNat n].map encB).toArray 5)) := (Below.refl _ w).alloc (Nat.le_refl _) _
      have e : ([UInt8.ofNat n].map encB).toArray = #[.int .u8 (n : Int)] := by simp [byte_of (show n < 256 by omega)]
      rw [e] at hr hb1
      have H := hid (encNum_lt h).symm
      have z : (n : Int) % 256 = (n : Int) := by omega
      clear ih e
      go_enter Try.func33, Try.ntmps33
      go_wp2_with fail
      go_ret
      exact newB_of H.out hr hb1
    · have hr := Row.lit w [UInt8.ofNat (n % 128 + 128)] (by simp [maxLen])
      have hb1 : Below w.heap.size w (w.alloc (.cells ([UInt8.ofNat (n % 128 + 128)].map encB).toArray 5)) := (Below.refl _ w).alloc (Nat.le_refl _) _
      have e : ([UInt8.ofNat (n % 128 + 128)].map encB).toArray = #[.int .u8 ((n : Int) % 128 + 128)] := by
        simp; omega
      rw [e] at hr hb1
      have H := hid (show [UInt8.ofNat (n % 128 + 128)] ++ encNum (n / 128) = encNum n from (encNum_ge h).symm)
      have IH := hid (ih (n / 128) (by omega) (by omega))
      have hl := encNum10 (n := n / 128) (by omega)
      have z : (128 : Int) ≤ (n : Int) := by omega
      have hz : ((n : Int) / 128) = ((n / 128 : Nat) : Int) := by omega
      have HZ := hid hz
      clear ih e hz
      go_enter Try.func33, Try.ntmps33
      go_wp2_with fail
      rw [HZ.out]
      generalize hw1 : w.alloc (.cells #[.int .u8 ((n : Int) % 128 + 128)] 5) = w1 at *
      refine (IH.out w1).mono ?_
      rintro e w2 ⟨u, rfl, hu, hb2⟩
      have hr2 := hr.below hb2
      have hs := hb1.size
      have hs2 := hb2.size
      have hu2 := hu.bytes
      go_wp2_with (at_builtin; refine wpList_append_bytes rfl _ _ rfl w.heap.size _ [UInt8.ofNat (n % 128 + 128)] rfl hr2 _ (encNum (n / 128)) rfl hu2 (by simp; omega) (by omega) ?_; intro v' w3 hrow hb3 _)
      go_ret
      exact newB_of H.out hrow (hb1.trans ((hb2.mono hs).trans hb3))
theorem le32_take (s : BitVec 32) (k : Nat) (h : k < 4) : (le32 s).take (k + 1) = (le32 s).take k ++ [UInt8.ofNat (s.toNat / 256 ^ k % 256)] := by
  obtain rfl | rfl | rfl | rfl : k = 0 ∨ k = 1 ∨ k = 2 ∨ k = 3 := by omega
  all_goals simp [le32]
theorem div_next (n k : Nat) : n / 256 ^ (k + 1) = n / 256 ^ k / 256 := by rw [Nat.pow_succ, Nat.div_div_eq_div_mul]
set_option maxRecDepth 100000 in
set_option maxHeartbeats 1000000 in
theorem Seal_c (v : Value) (l : List UInt8) (w : World) (hI : BytesAt w v l) (hl : l.length ≤ 70368744177664) :
    Calls Try.prog 22 #[v] w (NewB w (sealOf l)) := by
  have hS := rSum_c v l w hI (by omega)
  have HC : Hid (sealOf l = l ++ le32 (crc l)) := rfl
  have hlt := (crc l).isLt
  generalize crc l = cs at *
  have hr0 := Row.lit w [] (by simp)
  have hb0 : Below w.heap.size w (w.alloc (.cells #[] 5)) := (Below.refl _ w).alloc (Nat.le_refl _) _
  have hI0 := hI.below hb0
  have hS := hid hS
  obtain ⟨p, c, rfl, _⟩ := hI
  go_enter Try.func22, Try.ntmps22
  go_wp2_with fail
  refine hS.out.mono ?_
  rintro e w1 ⟨rfl, rfl⟩
  change Row (w.alloc (.cells #[] 5)) w.heap.size (.slice (some ⟨w.heap.size, 0, none⟩) 0 0) [] at hr0
  go_wp2_with (at_builtin; refine wpList_append_bytes rfl _ _ rfl w.heap.size _ [] rfl hr0 _ l rfl hI0 (by simp; omega) (by simp) ?_; intro v' w2 hrow hb2 _)
  rw [List.nil_append] at hrow
  have hB := hb0.trans hb2
  clear hb2 hb0 hr0 hI0
  go_loopw [3, 4, 5] (fun s o i wr => ∃ k : Nat, k ≤ 4 ∧ i = .int .i64 k ∧ s = .int .u32 ((cs.toNat / 256 ^ k : Nat) : Int) ∧ Row wr w.heap.size o (l ++ (le32 cs).take k) ∧ Below w.heap.size w wr) (fun _ _ i _ => 4 - (intOf i).toNat)
  case atStart => exact ⟨0, by omega, rfl, by simp, by simpa using hrow, hB⟩
  case round =>
    clear hrow hB
    obtain ⟨k, hk, rfl, rfl, hrow, hB⟩ := hrel
    by_cases hlt4 : k < 4
    · have HT := hid (le32_take cs k hlt4)
      have HD := hid (div_next cs.toNat k)
      have hll : (l ++ (le32 cs).take k).length ≤ l.length + 4 := by simp; omega
      have hdl : cs.toNat / 256 ^ k < 4294967296 := Nat.lt_of_le_of_lt (Nat.div_le_self _ _) hlt
      generalize cs.toNat / 256 ^ k = d at *
      generalize hl0 : l ++ (le32 cs).take k = lk at *
      have HL0 := hid hl0
      clear hl0
      have hbs := hB.size
      go_wp2_with (at_builtin; refine wpList_append_row rfl _ _ rfl w.heap.size _ lk rfl (hrow.alloc _) ⟨wr.heap.size, 0, none⟩ 1 1 [.int .u8 ((d : Int) % 256)] rfl rfl (cell_one_new _ _ _) (by simp [Value.oneCell']) (by omega) (by omega) (by simp; omega) ?_; intro v' w3 hown' hgrow)
      have hB3 := hB.trans (((Below.refl _ wr).alloc hbs _).trans ((hrow.alloc _).grown hgrow (by simp; omega)))
      go_roundw
      case rel =>
        refine ⟨k + 1, by omega, by go_num, ?_, ?_, hB3⟩
        · rw [HD.out]; exact congrArg (Value.int .u32) (by omega)
        · rw [HT.out, ← List.append_assoc, HL0.out]
          refine .inl ?_
          have e : [UInt8.ofNat (d % 256)].map encB = [.int .u8 ((d : Int) % 256)] := by simp [byte_of (show d % 256 < 256 by omega)]
          rw [List.map_append, e, List.length_append]
          exact hown'
      case measure => simp [intOf]; omega
    · obtain rfl : k = 4 := by omega
      go_wp2_with fail
      go_ret
      refine newB_of ?_ hrow hB
      rw [HC.out]; rfl
end Go.Proofs.Ytkfmblpcfgdgpaa
