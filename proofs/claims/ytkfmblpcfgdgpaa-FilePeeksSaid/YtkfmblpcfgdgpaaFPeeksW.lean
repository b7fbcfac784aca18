/- The walk of the law FilePeeks. -/
import Derived.Test.YtkfmblpcfgdgpaaGPeek2
import Derived.Test.YtkfmblpcfgdgpaaFOneW
namespace Go.Proofs.Ytkfmblpcfgdgpaa
open Go.RowKit

set_option maxRecDepth 100000 in
set_option maxHeartbeats 4000000 in
theorem filePeeks_walk (p : Option Addr) (c : Nat) (l : List UInt8) (w : World) (hI : BytesAt w (.slice p l.length c) l) (hc : l.length ≤ c) (hcm : c ≤ 9223372036854775807) :
    Calls Try.prog 10 #[.slice p l.length c] w (LawPost w) := by
  by_cases hgt : 5000 < l.length
  · have hg : decide ((5000 : Int) < (l.length : Int)) = true := decide_eq_true (by omega)
    go_enter Try.func10, Try.ntmps10
    go_wp2_with fail
    refine (works_c w).mono ?_
    rintro e w2 ⟨rfl, hb2⟩
    go_wp2_with fail
    go_ret
    exact ⟨rfl, hb2⟩
  · have hg : decide ((5000 : Int) < (l.length : Int)) = false := decide_eq_false (by omega)
    have hcv := conv_bytes
    have hr1 : Row (w.alloc (.cells #[.int .u8 67, .int .u8 78, .int .u8 69, .int .u8 84] 5 (4, 5))) w.heap.size (.slice (some ⟨w.heap.size, 0, none⟩) 4 4) magic :=
      .inr ⟨w.heap.size, _, (4, 5), rfl, Nat.le_refl _, heap_alloc_new w _, by decide, rfl⟩
    have hb1 : Below w.heap.size w (w.alloc (.cells #[.int .u8 67, .int .u8 78, .int .u8 69, .int .u8 84] 5 (4, 5))) := (Below.refl _ w).alloc (Nat.le_refl _) _
    have hI1 := hI.below hb1
    have hml : magic.length = 4 := rfl
    go_enter Try.func10, Try.ntmps10
    go_wp2_with (at_builtin; refine wpList_append_bytes rfl _ _ rfl w.heap.size _ magic rfl hr1 _ l rfl hI1 (by omega) (by simp) ?_; intro v2 w2 hr2 hb2 hg2; have hB3 := hb1.trans hb2; obtain ⟨p3, c3, rfl, hc3, hm3⟩ := hr2.capOk (by rw [List.length_append]; omega); generalize hl1 : magic ++ l = l1 at *)
    have hsl : l1.length ≤ 5004 := by rw [← hl1, List.length_append]; omega
    have hI3 := hI.below hB3
    have hby3 := hr2.bytes
    clear hl1 hr2 hb2 hg2 hI1 hb1 hr1
    have hbe : Below w2.heap.size w2 (w2.alloc (.cells #[.slice p l.length c, .slice p3 l1.length c3] 28)) := (Below.refl _ w2).alloc (Nat.le_refl _) _
    have htw : Two (w2.alloc (.cells #[.slice p l.length c, .slice p3 l1.length c3] 28)) w2.heap.size l l1 := by
      refine ⟨fun k hk => ?_⟩
      obtain rfl | rfl : k = 0 ∨ k = 1 := by omega
      · exact ⟨p, c, by simp [go_sem], hI3.below hbe, hc, hcm⟩
      · exact ⟨p3, c3, by simp [go_sem], hby3.below hbe, hc3, hm3⟩
    have hB4 := hB3.trans (hbe.mono hB3.size)
    have hsz4 : w2.heap.size < (w2.alloc (.cells #[.slice p l.length c, .slice p3 l1.length c3] 28)).heap.size := by simp
    clear hbe hI3 hby3 hI hB3
    generalize w2.alloc (.cells #[.slice p l.length c, .slice p3 l1.length c3] 28) = w4 at *
    generalize w2.heap.size = t at *
    go_loopw [22] (fun i wr => ∃ k : Nat, k ≤ 2 ∧ i = .int .i64 k ∧ Two wr t l l1 ∧ Below w.heap.size w wr) (fun i _ => 2 - (intOf i).toNat)
    case atStart => exact ⟨0, by omega, rfl, htw, hB4⟩
    case round =>
      clear htw hB4
      obtain ⟨k, hk, rfl, htw, hB⟩ := hrel
      by_cases hlt : k < 2
      · obtain ⟨px, cx, hcell, hbx, hcx, hmx⟩ := htw.row k hlt
        have hlx : (if k = 0 then l else l1).length ≤ 5008 := by split <;> omega
        generalize (if k = 0 then l else l1) = x at *
        have hBs := hB.size
        go_wp2_with fail
        refine (Peek_c px cx x wr hbx hcx (by omega)).mono ?_
        rintro e w5 ⟨rfl, hb5⟩
        have hB5 := hB.trans (hb5.mono hBs)
        have htw5 := htw.below hb5
        have hbx5 := hbx.below hb5
        clear hb5 hbx
        have HPR := hid (rPeek_c px cx x w5 hbx5 (by omega))
        have hS1 := hid (fun w' (h : BytesAt w' (.slice px x.length cx) x) => Sum_c _ x w' h (show x.length ≤ 140737488355328 by omega))
        have hS2 := hid (fun w' (h : BytesAt w' (.slice px x.length cx) x) => rSum_c _ x w' h (show x.length ≤ 140737488355328 by omega))
        go_wp2_with fail
        refine HPR.out.mono ?_
        rintro e w6 ⟨rfl, hb6⟩
        have hB6 := hB5.trans (hb6.mono hB5.size)
        have htw6 := htw5.below hb6
        have hbx6 := hbx5.below hb6
        clear hb6 hbx5 htw5 hB5 htw hB hBs HPR
        go_wp2_with (first | (go_at_call 25; refine (hS1.out _ hbx6).mono ?_; rintro e w7 ⟨rfl, rfl⟩) | (go_at_call 26; refine (hS2.out _ hbx6).mono ?_; rintro e w7 ⟨rfl, rfl⟩))
        go_roundw
        case rel => exact ⟨k + 1, by omega, by go_num, htw6, hB6⟩
        case measure => simp [intOf]; omega
      · obtain rfl : k = 2 := by omega
        go_wp2_with fail
        refine (works_c wr).mono ?_
        rintro e w5 ⟨rfl, hb5⟩
        have hB5 := hB.trans (hb5.mono hB.size)
        clear hB hb5
        go_wp2_with fail
        go_ret
        exact ⟨rfl, hB5⟩
end Go.Proofs.Ytkfmblpcfgdgpaa
