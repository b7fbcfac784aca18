/- The walk of the law FileOne. -/
import Derived.Test.YtkfmblpcfgdgpaaFBackW
import Derived.Test.YtkfmblpcfgdgpaaFRef
namespace Go.Proofs.Ytkfmblpcfgdgpaa
open Go.RowKit

/-- The two slices of bytes that the law looks at. -/
structure Two (w : World) (t : Nat) (l0 l1 : List UInt8) : Prop where
  row : ∀ k, k < 2 → ∃ p c, w.cell? ⟨t, k, none⟩ = some (.slice p (if k = 0 then l0 else l1).length c) ∧ BytesAt w (.slice p (if k = 0 then l0 else l1).length c) (if k = 0 then l0 else l1) ∧ (if k = 0 then l0 else l1).length ≤ c ∧ c ≤ 9223372036854775807
theorem Two.below {w w' : World} {t : Nat} {l0 l1 : List UInt8} (h : Two w t l0 l1) (hb : Below w.heap.size w w') : Two w' t l0 l1 :=
  ⟨fun k hk => by
    obtain ⟨p, c, h1, h2, h3, h4⟩ := h.row k hk
    exact ⟨p, c, (hb.cell (cell_lt h1)).trans h1, h2.below hb, h3, h4⟩⟩
theorem Row.capOk {w : World} {base : Nat} {v : Value} {l : List UInt8} (h : Row w base v l) (hl : l.length ≤ 9223372036854775807) : ∃ p c, v = .slice p l.length c ∧ l.length ≤ c ∧ c ≤ 9223372036854775807 := by
  rcases h with h | ⟨g, cur, fz, rfl, _⟩
  · rcases h.2 with ⟨rfl, h0⟩ | ⟨g, cap, cur, rfl, _, _, hn, hm, _⟩
    · exact ⟨none, 0, by rw [h0], by omega, by decide⟩
    · exact ⟨_, cap, rfl, hn, by unfold maxLen at hm; omega⟩
  · exact ⟨_, _, rfl, Nat.le_refl _, hl⟩
set_option maxRecDepth 100000 in
set_option maxHeartbeats 4000000 in
theorem fileOne_walk (p : Option Addr) (c : Nat) (l : List UInt8) (w : World) (hI : BytesAt w (.slice p l.length c) l) (hc : l.length ≤ c) (hcm : c ≤ 9223372036854775807) :
    Calls Try.prog 7 #[.slice p l.length c] w (LawPost w) := by
  by_cases hgt : 5000 < l.length
  · have hg : decide ((5000 : Int) < (l.length : Int)) = true := decide_eq_true (by omega)
    go_enter Try.func7, Try.ntmps7
    go_wp2_with fail
    refine (works_c w).mono ?_
    rintro e w2 ⟨rfl, hb2⟩
    go_wp2_with fail
    go_ret
    exact ⟨rfl, hb2⟩
  · have hg : decide ((5000 : Int) < (l.length : Int)) = false := decide_eq_false (by omega)
    have hcv := conv_bytes
    have hr1 : Row (w.alloc (.cells #[.int .u8 67, .int .u8 78, .int .u8 69, .int .u8 84] 5 (4, 5))) w.heap.size (.slice (some ⟨w.heap.size, 0, none⟩) 4 4) magic :=
      .inr ⟨w.heap.size, _, (4, 5), rfl, Nat.le_refl _, heap_alloc_new w _, by decide, rfl⟩
    have hb1 : Below w.heap.size w (w.alloc (.cells #[.int .u8 67, .int .u8 78, .int .u8 69, .int .u8 84] 5 (4, 5))) := (Below.refl _ w).alloc (Nat.le_refl _) _
    have hI1 := hI.below hb1
    have hml : magic.length = 4 := rfl
    go_enter Try.func7, Try.ntmps7
    go_wp2_with (at_builtin; refine wpList_append_bytes rfl _ _ rfl w.heap.size _ magic rfl hr1 _ l rfl hI1 (by omega) (by simp) ?_; intro v2 w2 hr2 hb2 hg2; have hB2 := hb1.trans hb2)
    refine (Seal_c v2 (magic ++ l) w2 hr2.bytes (by simp only [List.length_append]; omega)).mono ?_
    rintro e w3 ⟨v3, rfl, hr3, hb3⟩
    have hB3 := hB2.trans (hb3.mono hB2.size)
    have hsl : (sealOf (magic ++ l)).length ≤ 5008 := by rw [sealOf_length, List.length_append]; omega
    obtain ⟨p3, c3, rfl, hc3, hm3⟩ := hr3.capOk (by omega)
    have hI3 := hI.below hB3
    have hby3 := hr3.bytes
    generalize hl1 : sealOf (magic ++ l) = l1 at *
    clear hl1 hr3 hb3 hB2 hr2 hb2 hg2 hI1 hb1 hr1
    have hbe : Below w3.heap.size w3 (w3.alloc (.cells #[.slice p l.length c, .slice p3 l1.length c3] 28)) := (Below.refl _ w3).alloc (Nat.le_refl _) _
    have htw : Two (w3.alloc (.cells #[.slice p l.length c, .slice p3 l1.length c3] 28)) w3.heap.size l l1 := by
      refine ⟨fun k hk => ?_⟩
      obtain rfl | rfl : k = 0 ∨ k = 1 := by omega
      · exact ⟨p, c, by simp [go_sem], hI3.below hbe, hc, hcm⟩
      · exact ⟨p3, c3, by simp [go_sem], hby3.below hbe, hc3, hm3⟩
    have hB4 := hB3.trans (hbe.mono hB3.size)
    have hsz4 : w3.heap.size < (w3.alloc (.cells #[.slice p l.length c, .slice p3 l1.length c3] 28)).heap.size := by simp
    clear hbe hI3 hby3 hI hB3
    go_wp2_with fail
    generalize w3.alloc (.cells #[.slice p l.length c, .slice p3 l1.length c3] 28) = w4 at *
    generalize w3.heap.size = t at *
    go_loopw [21] (fun i wr => ∃ k : Nat, k ≤ 2 ∧ i = .int .i64 k ∧ Two wr t l l1 ∧ Below w.heap.size w wr) (fun i _ => 2 - (intOf i).toNat)
    case atStart => exact ⟨0, by omega, rfl, htw, hB4⟩
    case round =>
      clear htw hB4
      obtain ⟨k, hk, rfl, htw, hB⟩ := hrel
      by_cases hlt : k < 2
      · obtain ⟨px, cx, hcell, hbx, hcx, hmx⟩ := htw.row k hlt
        have hlx : (if k = 0 then l else l1).length ≤ 5008 := by split <;> omega
        generalize (if k = 0 then l else l1) = x at *
        have hBs := hB.size
        go_wp2_with fail
        refine (Decode_c px cx x wr hbx hcx hmx (by omega)).mono ?_
        rintro e w5 ⟨v5, vs5, rfl, ho5, hb5⟩
        have hB5 := hB.trans (hb5.mono hBs)
        have htw5 := htw.below hb5
        have hbx5 := hbx.below hb5
        have hN5 := ho5.nodes
        obtain ⟨p5, c5, rfl, hdrop⟩ := id hN5
        clear hdrop ho5 hb5 hbx
        by_cases h0 : decNo x = 0
        · obtain ⟨he1, he2⟩ := enc_dec h0
          rw [h0]
          have hbe5 : Below w5.heap.size w5 (w5.alloc (.cells #[.int .i64 (decNet x).n, .slice p5 (decNet x).l.length c5] 24)) := (Below.refl _ w5).alloc (Nat.le_refl _) _
          have HE := hid (Encode_c (decNet x).n (decNet x).l _ _ (hN5.below hbe5))
          have HE1 := hid (show encNo ⟨(decNet x).n, (decNet x).l⟩ = 0 from he1)
          have HE2 := hid (show encBytes ⟨(decNet x).n, (decNet x).l⟩ = x from he2)
          have hB6 := hB5.trans (hbe5.mono hB5.size)
          have htw6 := htw5.below hbe5
          have hbx6 := hbx5.below hbe5
          clear he1 he2 h0 hbe5 hN5 htw5 hbx5
          generalize (decNet x).n = nn at *
          generalize (decNet x).l = LL at *
          go_wp2_with fail
          refine HE.out.mono ?_
          rintro e w7 ⟨v7, rfl, ho7, hb7⟩
          rw [HE1.out]
          rw [HE2.out] at ho7
          have hB7 := hB6.trans (hb7.mono hB6.size)
          have htw7 := htw6.below hb7
          have hc1 := conv_str ho7.bytes
          have hc2 := conv_str (hbx6.below hb7)
          have hbq : ((strB x).toList != (strB x).toList) = false := by simp
          clear ho7 hb7 hB6 htw6 hbx6 hcell
          go_wp2_with fail
          go_roundw
          case rel => exact ⟨k + 1, by omega, by go_num, htw7, hB7⟩
          case measure => simp [intOf]; omega
        · have hne : (decNo x != 0) = true := by simpa using h0
          have hdn := dec_bad h0
          rw [hdn]
          have hBe := hB5.alloc hB5.size (.cells #[.int .i64 0, .slice p5 0 c5] 24)
          have htwe := htw5.below ((Below.refl _ w5).alloc (Nat.le_refl _) (.cells #[.int .i64 0, .slice p5 0 c5] 24))
          clear h0 hdn hN5 htw5 hbx5
          generalize decNo x = dn at *
          go_wp2_with fail
          go_roundw
          case rel => exact ⟨k + 1, by omega, by go_num, htwe, hBe⟩
          case measure => simp [intOf]; omega
      · obtain rfl : k = 2 := by omega
        go_wp2_with fail
        refine (works_c wr).mono ?_
        rintro e w5 ⟨rfl, hb5⟩
        have hB5 := hB.trans (hb5.mono hB.size)
        clear hB hb5
        go_wp2_with fail
        go_ret
        exact ⟨rfl, hB5⟩
end Go.Proofs.Ytkfmblpcfgdgpaa
