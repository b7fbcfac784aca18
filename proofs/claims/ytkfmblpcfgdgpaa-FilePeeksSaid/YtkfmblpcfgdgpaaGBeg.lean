/- The reference's begins; plain: what the reference's Decode answers. -/
import Derived.Test.YtkfmblpcfgdgpaaFDec2
import Derived.Test.YtkfmblpcfgdgpaaFStr
namespace Go.Proofs.Ytkfmblpcfgdgpaa
open Go.RowKit

def headB (l : List UInt8) : Bool := decide (11 ≤ l.length) && decide (l.take 4 = magic)
theorem headB_short {l : List UInt8} (h : l.length < 11) : headB l = false := by unfold headB; rw [decide_eq_false (by omega)]; rfl
theorem headB_bytes {x0 x1 x2 x3 : UInt8} {t : List UInt8} (h : 11 ≤ (x0 :: x1 :: x2 :: x3 :: t).length) :
    headB (x0 :: x1 :: x2 :: x3 :: t) = (decide (x0.toNat = 67) && decide (x1.toNat = 78) && decide (x2.toNat = 69) && decide (x3.toNat = 84)) := by
  unfold headB magic
  rw [decide_eq_true h, Bool.true_and, Bool.eq_iff_iff]
  simp only [List.take, decide_eq_true_eq, List.cons.injEq, and_true, Bool.and_eq_true, ← UInt8.toNat_inj]
  constructor
  · rintro ⟨h0, h1, h2, h3⟩; exact ⟨⟨⟨h0, h1⟩, h2⟩, h3⟩
  · rintro ⟨⟨⟨h0, h1⟩, h2⟩, h3⟩; exact ⟨h0, h1, h2, h3⟩
theorem beginsNo_head {l : List UInt8} (h : ¬ 16777216 < l.length) : beginsNo l = if headB l = true then 0 else 5 := by
  unfold beginsNo headB maxFile
  rw [if_neg h]
  by_cases h1 : l.length < 11
  · rw [if_pos (.inl h1), decide_eq_false (show ¬ 11 ≤ l.length by omega)]; rfl
  · by_cases h2 : l.take 4 = magic
    · rw [if_neg (by simp [h2]; omega), decide_eq_true (show 11 ≤ l.length by omega), decide_eq_true h2]; rfl
    · rw [if_pos (.inr h2), decide_eq_false h2]; simp
set_option maxRecDepth 100000 in
set_option maxHeartbeats 1000000 in
theorem rbegins_c (v : Value) (l : List UInt8) (w : World) (hI : BytesAt w v l) (hl : l.length ≤ 140737488355328) :
    Calls Try.prog 41 #[v] w fun e w' => e = .returned (.bool (headB l)) ∧ w = w' := by
  obtain ⟨p, c, rfl, hp⟩ := hI
  by_cases h : 11 ≤ l.length
  · obtain ⟨b, off, rfl, hc⟩ := hp.resolve_left (by intro e; rw [e] at h; simp at h)
    have c0 := hc 0 (by omega)
    have c1 := hc 1 (by omega)
    have c2 := hc 2 (by omega)
    have c3 := hc 3 (by omega)
    obtain ⟨x0, x1, x2, x3, t, rfl⟩ : ∃ x0 x1 x2 x3 t, l = x0 :: x1 :: x2 :: x3 :: t := by
      match l, h with
      | x0 :: x1 :: x2 :: x3 :: t, _ => exact ⟨x0, x1, x2, x3, t, rfl⟩
    clear hc hp
    have HB := hid (headB_bytes h)
    have e0 : w.cell? ⟨b, off, none⟩ = some (.int .u8 (x0.toNat : Int)) := c0
    have e1 : w.cell? ⟨b, off + 1, none⟩ = some (.int .u8 (x1.toNat : Int)) := c1
    have e2 : w.cell? ⟨b, off + 2, none⟩ = some (.int .u8 (x2.toNat : Int)) := c2
    have e3 : w.cell? ⟨b, off + 3, none⟩ = some (.int .u8 (x3.toNat : Int)) := c3
    clear c0 c1 c2 c3
    generalize hn : (x0 :: x1 :: x2 :: x3 :: t).length = n at *
    have hg : decide ((11 : Int) ≤ (n : Int)) = true := decide_eq_true (by omega)
    have b0 : (0 : Int) < (n : Int) := by omega
    have b1 : (1 : Int) < (n : Int) := by omega
    have b2 : (2 : Int) < (n : Int) := by omega
    have b3 : (3 : Int) < (n : Int) := by omega
    generalize x0.toNat = n0 at *
    generalize x1.toNat = n1 at *
    generalize x2.toNat = n2 at *
    generalize x3.toNat = n3 at *
    generalize headB (x0 :: x1 :: x2 :: x3 :: t) = hb at *
    clear hn
    by_cases g0 : n0 = 67
    · subst g0
      by_cases g1 : n1 = 78
      · subst g1
        by_cases g2 : n2 = 69
        · subst g2
          by_cases g3 : n3 = 84
          · subst g3
            go_enter Try.func41, Try.ntmps41
            go_wp2_with fail
            go_ret
            exact ⟨by rw [HB.out]; rfl, rfl⟩
          · have d3 : ((n3 : Int) == 84) = false := by simp; omega
            have HD := hid (decide_eq_false g3)
            clear g3
            go_enter Try.func41, Try.ntmps41
            go_wp2_with fail
            go_ret
            exact ⟨by rw [HB.out, HD.out]; rfl, rfl⟩
        · have d3 : ((n2 : Int) == 69) = false := by simp; omega
          have HD := hid (decide_eq_false g2)
          clear g2
          go_enter Try.func41, Try.ntmps41
          go_wp2_with fail
          go_ret
          exact ⟨by rw [HB.out, HD.out]; rfl, rfl⟩
      · have d3 : ((n1 : Int) == 78) = false := by simp; omega
        have HD := hid (decide_eq_false g1)
        clear g1
        go_enter Try.func41, Try.ntmps41
        go_wp2_with fail
        go_ret
        exact ⟨by rw [HB.out, HD.out]; rfl, rfl⟩
    · have d3 : ((n0 : Int) == 67) = false := by simp; omega
      have HD := hid (decide_eq_false g0)
      clear g0
      go_enter Try.func41, Try.ntmps41
      go_wp2_with fail
      go_ret
      exact ⟨by rw [HB.out, HD.out]; rfl, rfl⟩
  · have HH := hid (headB_short (l := l) (by omega))
    have hg : decide ((11 : Int) ≤ (l.length : Int)) = false := decide_eq_false (by omega)
    clear hp
    go_enter Try.func41, Try.ntmps41
    go_wp2_with fail
    go_ret
    exact ⟨by rw [HH.out]; rfl, rfl⟩
/-! ### plain -/
def netOf (n : Int) : Option (List NodeT × List UInt8) → Option (NetT × List UInt8)
  | none => none
  | some (l, r) => some (⟨n, l⟩, r)
theorem rdNet_none0 {b : List UInt8} (h : rd 128 0 0 b = none) : rdNet b = none := by unfold rdNet; rw [h]
theorem rdNet_none1 {b b1 : List UInt8} {n : Nat} (h : rd 128 0 0 b = some (n, b1)) (h2 : rd 65536 0 0 b1 = none) : rdNet b = none := by
  unfold rdNet; rw [h]; simp only []; rw [h2]
theorem rdNet_nodes {b b1 b2 : List UInt8} {n m : Nat} (h : rd 128 0 0 b = some (n, b1)) (h2 : rd 65536 0 0 b1 = some (m, b2)) : rdNet b = netOf (n : Int) (prepN [] (rdNodes 0 m b2)) := by
  unfold rdNet; rw [h]; simp only []; rw [h2]; simp only []
  cases rdNodes 0 m b2 with
  | none => rfl
  | some q => rfl
theorem ref_yes {b : List UInt8} {x : NetT} (he : encNo x = 0) (hb : encBytes x = b) : decNo b = 0 ∧ decNet b = x := by
  obtain ⟨h1, h2⟩ := encNo_zero.1 he
  have h3 : b = encodeOf x := by rw [← hb]; unfold encBytes; rw [if_pos he]
  exact dec_iff.2 ⟨h1, h3, by rw [h3]; exact h2⟩
theorem ref_bad {b : List UInt8} (h0 : beginsNo b = 0) (hs : sealOf (b.take (b.length - 4)) = b) (hr : rdNet ((b.take (b.length - 4)).drop 4) = none) : decNo b = 5 ∧ decNet b = noNet :=
  dec_form h0 hs (by unfold bodyRes; rw [hr])
theorem ref_no {b r : List UInt8} {x : NetT} (h0 : beginsNo b = 0) (hs : sealOf (b.take (b.length - 4)) = b) (hr : rdNet ((b.take (b.length - 4)).drop 4) = some (x, r)) (h : ¬ (encNo x = 0 ∧ encBytes x = b)) : decNo b = 5 ∧ decNet b = noNet := by
  refine dec_form h0 hs ?_
  cases hb : bodyRes (b.take (b.length - 4)) with
  | none => rfl
  | some y =>
    exfalso
    have hy : y = x := by
      unfold bodyRes at hb
      rw [hr] at hb
      cases r with
      | cons a r => cases hb
      | nil =>
        simp only [] at hb
        split at hb
        · injection hb with hb; exact hb.symm
        · cases hb
    subst hy
    obtain ⟨h1, h2⟩ := dec_good h0 hs hb
    have := enc_dec h1
    rw [h2] at this
    exact h this
end Go.Proofs.Ytkfmblpcfgdgpaa
