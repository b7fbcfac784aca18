/- Walk: the reference's look for cycles, in forests. -/
import Derived.Test.YthgkklahiclcpaaDoorSRef6
import Derived.Test.YthgkklahiclcpaaDoorSMoreP
namespace Go.Proofs.YthgkklahiclcpaaDoor
open Go.RowKit

theorem len_le_one {s : VS} {p : Int} (h : ∀ x, has s x = true → x = p) : len s ≤ 1 := by
  have hm := len_mono (a := s) (b := one p) (fun v hv => by
    have hr := has_range hv
    have e := h v hv
    subst e
    rw [has_one]; simp [hr.1, hr.2])
  have h1 : len (one p) ≤ 1 := by
    have e := len_with_le 0 p
    rw [len_zero] at e
    have e2 : withV 0 p = one p := by
      apply ext_has; intro u _ _; rw [has_withV, has_zero, has_one]; simp
    rw [e2] at e
    split at e <;> omega
  omega
/-- Vertices above t have no neighbours left. -/
structure CyIn (L M : List VS) (t : Nat) : Prop where
  len : M.length = L.length
  ok : ValidG M
  sub : ∀ u x, has (gOf M u) x = true → has (gOf L u) x = true
  top : ∀ v : Int, (t : Int) < v → gOf M v = 0
theorem CyIn.step {L M : List VS} {t : Nat} (h : CyIn L M t) {v : Int} (h1 : 0 ≤ v) (h2 : v < (L.length : Int)) (hl : Go.Proofs.YthgkklahiclcpaaDoor.len (gOf M v) ≤ 1) : CyIn L (elR M v) t ∧ gOf (elR M v) v = 0 := by
  have hs : Simp (gOf M) v := fun u x hu hx hne => absurd (len_one hl hu hx) hne
  have e : gOf (elR M v) = rem (gOf M) v := by rw [gOf_elR h.ok h1 (by rw [h.len]; exact h2), el_simp h.ok.sym hs]
  refine ⟨⟨(elR_length M v).trans h.len, elR_valid h.ok h1 (by rw [h.len]; exact h2), fun u x hx => ?_, fun u hu => ?_⟩, ?_⟩
  · rw [e] at hx; exact h.sub u x ((has_rem _ _ _ _).1 hx).2.2
  · rw [e]
    apply zero_of_none
    intro x
    cases hx : has (rem (gOf M) v u) x with
    | false => rfl
    | true => have := ((has_rem _ _ _ _).1 hx).2.2; rw [h.top u hu, has_zero] at this; cases this
  · rw [e]; unfold rem; rw [if_pos rfl]
theorem CyIn.deg {L M : List VS} {t : Nat} (h : CyIn L M (t + 1)) {par : Int → Int} (hp : ∀ u x, has (gOf L u) x = true → x < u → x = par u) : Go.Proofs.YthgkklahiclcpaaDoor.len (gOf M ((t : Int) + 1)) ≤ 1 := by
  refine len_le_one (p := par ((t : Int) + 1)) fun x hx => hp _ _ (h.sub _ _ hx) ?_
  have hne := h.ok.sym.ne hx
  have hb := h.ok.sym.sym _ _ hx
  rcases Int.lt_or_le ((t : Int) + 1) x with h1 | h1
  · rw [h.top x (by push_cast; exact h1), has_zero] at hb; cases hb
  · omega
theorem CyIn.down {L M : List VS} {t : Nat} (h : CyIn L M (t + 1)) (h0 : gOf M ((t : Int) + 1) = 0) : CyIn L M t :=
  ⟨h.len, h.ok, h.sub, fun v hv => by
    rcases Int.lt_or_le ((t : Int) + 1) v with h1 | h1
    · exact h.top v (by push_cast; exact h1)
    · rw [show v = (t : Int) + 1 by omega]; exact h0⟩
structure CySt (L : List VS) (w wr : World) (u : Value) (M : List VS) (t : Nat) : Prop where
  inv : CyIn L M t
  row : SetsAt wr u M
  low : Below w.heap.size w wr
set_option maxRecDepth 100000 in
set_option maxHeartbeats 8000000 in
theorem rCycle_c (v : Value) (L : List VS) (par : Int → Int) (w : World) (hI : SetsAt w v L) (hV : ValidG L) (hp : ∀ u x, has (gOf L u) x = true → x < u → x = par u) :
    Calls Tryd.prog 29 #[v] w fun e w' => e = .returned (.bool false) ∧ Below w.heap.size w w' := by
  have hpos := hV.pos
  have hle := hV.le
  have hst0 : CySt L w w v L (L.length - 1) := ⟨⟨rfl, hV, fun _ _ e => e, fun x hx => by
    apply zero_of_none
    intro y
    cases e : has (gOf L x) y with
    | false => rfl
    | true => have := (hV.range (hV.sym.sym _ _ e)).2; omega⟩, hI, Below.refl _ _⟩
  obtain ⟨b0, o0, c, rfl, hdrop⟩ := hI.form (by omega)
  have HPAR := hid hp
  clear hdrop hI hV hp
  go_enter Tryd.func29, Tryd.ntmps29
  go_wp2_with fail
  go_loopw [3, 4] (fun u i wr => ∃ (k : Nat) (M : List VS), k + 1 ≤ L.length ∧ i = .int .i64 ((k : Int) + 1) ∧ CySt L w wr u M (L.length - 1 - k)) (fun _ i _ => L.length - (intOf i).toNat)
  case atStart => exact ⟨0, L, by omega, rfl, hst0⟩
  case round =>
    clear hst0
    obtain ⟨k, M, hk, rfl, st⟩ := hrel
    by_cases hkn : (k : Int) + 1 < (L.length : Int)
    · obtain ⟨t, ht⟩ : ∃ t : Nat, L.length - 1 - k = t + 1 := ⟨L.length - 2 - k, by omega⟩
      rw [ht] at st
      have HT := hid ht
      clear ht
      obtain ⟨wo, hwo⟩ : ∃ wo : World, wo = wr := ⟨_, rfl⟩
      clear hwo
      go_wp2_with fail
      go_loopw [3, 5] (fun u j wq => ∃ (m : Nat) (N : List VS), m + 1 ≤ L.length ∧ j = .int .i64 ((m : Int) + 1) ∧ CySt L w wq u N (t + 1) ∧ Hid (t + 1 ≤ m → CyIn L N t)) (fun _ j _ => L.length - (intOf j).toNat)
      case atStart => exact ⟨0, M, by omega, rfl, st, fun h => by omega⟩
      case round =>
        clear st
        obtain ⟨m, N, hm, rfl, st, HN⟩ := hrel
        by_cases hmn : (m : Int) + 1 < (L.length : Int)
        · have hlen := st.inv.len
          have hml : m + 1 < N.length := by omega
          obtain ⟨gb, go, gc, rfl, hdrop⟩ := st.row.form (by omega)
          obtain ⟨s, hgs, r0, r1⟩ := st.row.get (m + 1) hml
          have zu : (0 : Int) ≤ (m : Int) + 1 ∧ (m : Int) + 1 < (N.length : Int) := by omega
          have HS := hid (show gOf N ((m : Int) + 1) = s from hgs)
          have HST := hid st
          have HML := hid hml
          have HRL := hid (rLen_c s wr)
          clear hlen hml hdrop hgs st
          by_cases h1 : len s ≤ 1
          · have hl0 := len_pos (s := s)
            have HL1 := hid h1
            generalize hld : len s = d at *
            go_wp2_with fail
            refine HRL.out.mono ?_
            rintro e w7 ⟨rfl, hb7⟩
            have hB7 := HST.out.low.trans (hb7.mono HST.out.low.size)
            have HE := hid (rEliminate_c _ N (m + 1) w7 (HST.out.row.below hb7) HML.out HST.out.inv.ok)
            obtain ⟨hs1, hs2⟩ := HST.out.inv.step (v := (m : Int) + 1) (by omega) (by omega) (by rw [HS.out, hld]; exact HL1.out)
            have HS1 := hid hs1
            have HS2 := hid hs2
            rw [show (((m + 1 : Nat) : Int)) = (m : Int) + 1 from rfl] at HE
            clear hs1 hs2 r0 r1 HRL
            go_wp2_with fail
            refine HE.out.mono ?_
            rintro e w8 ⟨g8, c8, rfl, hg8, hR8, hb8, hc8, hm8⟩
            have HN2 : Hid (t + 1 ≤ m + 1 → CyIn L (elR N ((m : Int) + 1)) t) := fun h => by
              rcases Nat.lt_or_ge t m with h2 | h2
              · exact ((HN.out (by omega)).step (v := (m : Int) + 1) (by omega) (by omega) (by rw [HS.out, hld]; exact HL1.out)).1
              · obtain rfl : t = m := by omega
                exact HS1.out.down HS2.out
            go_wp2_with fail
            go_roundw
            case rel => exact ⟨m + 1, elR N ((m : Int) + 1), by omega, by go_num, ⟨HS1.out, hR8.sets c8, hB7.trans (hb8.mono hB7.size)⟩, HN2.out⟩
            case measure => simp [intOf]; omega
          · have hl2 := len_le s
            have HL1 := hid h1
            generalize hld : len s = d at *
            go_wp2_with fail
            refine HRL.out.mono ?_
            rintro e w7 ⟨rfl, hb7⟩
            have hB7 := HST.out.low.trans (hb7.mono HST.out.low.size)
            have hR7 := HST.out.row.below hb7
            have HN2 : Hid (t + 1 ≤ m + 1 → CyIn L N t) := fun h => by
              rcases Nat.lt_or_ge t m with h2 | h2
              · exact HN.out (by omega)
              · obtain rfl : t = m := by omega
                have := HST.out.inv.deg HPAR.out
                rw [HS.out, hld] at this
                have := HL1.out
                omega
            clear r0 r1 HRL
            go_wp2_with fail
            go_roundw
            case rel => exact ⟨m + 1, N, by omega, by go_num, ⟨HST.out.inv, hR7, hB7⟩, HN2.out⟩
            case measure => simp [intOf]; omega
        · have hI2 := HN.out (by have := HT.out; omega)
          have hrow := st.row
          have hlow := st.low
          have HR : Hid (CySt L w wr u3 N (L.length - 1 - (k + 1))) := ⟨by rw [show L.length - 1 - (k + 1) = t by have := HT.out; omega]; exact hI2, hrow, hlow⟩
          clear hI2 st hrow hlow
          go_wp2_with fail
          go_roundw
          case rel => exact ⟨k + 1, N, by omega, by go_num, HR.out⟩
          case measure => simp [intOf]; omega
    · have HZ : Hid (∀ v : Int, 0 < v → gOf M v = 0) := fun v hv => st.inv.top v (by omega)
      have HST := hid st
      clear st
      go_wp2_with fail
      go_loopw [6] (fun i wq => ∃ k : Nat, k + 1 ≤ L.length ∧ i = .int .i64 ((k : Int) + 1) ∧ Below wr.heap.size wr wq) (fun i _ => L.length - (intOf i).toNat)
      case atStart => exact ⟨0, by omega, rfl, Below.refl _ _⟩
      case round =>
        obtain ⟨k3, hk3, rfl, hB⟩ := hrel
        by_cases hlt : (k3 : Int) + 1 < (L.length : Int)
        · have hlen := HST.out.inv.len
          have hml : k3 + 1 < M.length := by omega
          have hrow := HST.out.row.below hB
          obtain ⟨gb, go, gc, rfl, hdrop⟩ := hrow.form (by omega)
          obtain ⟨s, hgs, r0, r1⟩ := hrow.get (k3 + 1) hml
          have zu : (0 : Int) ≤ (k3 : Int) + 1 ∧ (k3 : Int) + 1 < (M.length : Int) := by omega
          have hs0 : s = 0 := by rw [← hgs]; exact HZ.out _ (by push_cast; omega)
          have HRL := hid (rLen_c s wr)
          rw [show len s = 0 by rw [hs0]; exact len_zero] at HRL
          clear hlen hml hdrop hgs hs0 hrow
          go_wp2_with fail
          refine HRL.out.mono ?_
          rintro e w7 ⟨rfl, hb7⟩
          have hB7 := hB.trans (hb7.mono hB.size)
          clear r0 r1 HRL
          go_wp2_with fail
          go_roundw
          case rel => exact ⟨k3 + 1, by omega, by go_num, hB7⟩
          case measure => simp [intOf]; omega
        · have HX := hid (HST.out.low.trans (hB.mono HST.out.low.size))
          clear hB
          go_wp2_with fail
          go_ret
          exact ⟨rfl, HX.out⟩
end Go.Proofs.YthgkklahiclcpaaDoor
