/- Walks: the reference of the layer width: which graphs are valid; widths. -/
import Derived.Test.YtmlecpapoeodkaaDoorWOfW
namespace Go.Proofs.YtmlecpapoeodkaaDoor
open Go.RowKit
attribute [local go_sem ↓] run_eqlS run_neqS run_eqlS0 run_neqS0

/-- What the reference asks of a vertex and a number. -/
def EdgeOK (L : List VS) (v x : Nat) : Prop := has (gOf L (v : Int)) (x : Int) = true → v ≠ 0 ∧ x < L.length ∧ x ≠ v ∧ has (gOf L (x : Int)) (v : Int) = true
theorem ValidG.edge {L : List VS} (h : ValidG L) {v x : Nat} (hv : v < L.length) : EdgeOK L v x := by
  intro e
  by_cases h0 : v = 0
  · subst h0
    rw [show ((0 : Nat) : Int) = 0 from rfl, h.zero, has_zero] at e
    cases e
  · have ho := h.ok v (by omega) hv
    have h3 := ho.le _ e
    refine ⟨h0, by omega, fun e2 => ?_, ho.sym _ e⟩
    subst e2
    rw [ho.self] at e
    cases e
theorem edges_valid {L : List VS} (hp : 1 ≤ L.length) (hl : L.length ≤ 129) (h : ∀ v x : Nat, v < L.length → 1 ≤ x → x ≤ 128 → EdgeOK L v x) : ValidG L := by
  refine ⟨hp, hl, ext_has fun u h1 h2 => ?_, fun k h1 h2 => ?_⟩
  · rw [has_zero]
    cases hc : has (gOf L 0) u
    · rfl
    · have := h 0 u.toNat (by omega) (by omega) (by omega) (by rw [Int.toNat_of_nonneg (by omega)]; exact hc)
      exact absurd rfl this.1
  · have key : ∀ x, has (gOf L (k : Int)) x = true → x ≤ (L.length : Int) - 1 ∧ x ≠ (k : Int) ∧ has (gOf L x) (k : Int) = true := fun x hx => by
      have hr := has_range hx
      obtain ⟨xn, rfl⟩ : ∃ xn : Nat, x = (xn : Int) := ⟨x.toNat, by omega⟩
      obtain ⟨_, h4, h6, h5⟩ := h k xn h2 (by omega) (by omega) hx
      exact ⟨by omega, by omega, h5⟩
    refine ⟨?_, fun x hx => (key x hx).1, fun x hx => (key x hx).2.2⟩
    cases hc : has (gOf L (k : Int)) (k : Int)
    · rfl
    · exact absurd rfl (key _ hc).2.1
set_option maxRecDepth 100000 in
set_option maxHeartbeats 8000000 in
theorem rValid_c (v : Value) (L : List VS) (w : World) (hI : SetsAt w v L) (hL : L.length ≤ 140737488355328) :
    Calls Tryd.prog 55 #[v] w fun e w' => e = .returned (.bool (validG L)) ∧ Below w.heap.size w w' := by
  have HI := hid (fun w' (h : Below w.heap.size w w') => hI.below h)
  obtain ⟨p, c, rfl, hdrop⟩ := id hI
  clear hdrop hI
  by_cases h1 : (L.length : Int) - 1 < 0
  · have hv := hid (validG_no (L := L) fun h => by have := h.pos; omega)
    go_enter Tryd.func55, Tryd.ntmps55
    go_wp2_with fail
    go_ret
    exact ⟨by rw [hv.out]; rfl, Below.refl _ _⟩
  · by_cases h2 : 128 < (L.length : Int) - 1
    · have hv := hid (validG_no (L := L) fun h => by have := h.le; omega)
      go_enter Tryd.func55, Tryd.ntmps55
      go_wp2_with fail
      go_ret
      exact ⟨by rw [hv.out]; rfl, Below.refl _ _⟩
    · go_enter Tryd.func55, Tryd.ntmps55
      go_wp2_with fail
      go_loopw [4] (fun i wr => ∃ k : Nat, k ≤ L.length ∧ i = .int .i64 k ∧ Hid (∀ u x : Nat, u < k → 1 ≤ x → x ≤ 128 → EdgeOK L u x) ∧ Below w.heap.size w wr) (fun i _ => L.length - (intOf i).toNat)
      case atStart => exact ⟨0, Nat.zero_le _, rfl, fun u x h => by omega, Below.refl _ _⟩
      case round =>
        obtain ⟨k, hk, rfl, hok, hB⟩ := hrel
        by_cases hlt : k < L.length
        · have z2 : decide ((k : Int) ≤ (L.length : Int) - 1) = true := decide_eq_true (by omega)
          have z3 : (k : Int) ≤ (L.length : Int) - 1 := by omega
          go_wp2_with fail
          go_loopw [5] (fun i wr => ∃ j : Nat, 1 ≤ j ∧ j ≤ 129 ∧ i = .int .i64 j ∧ Hid (∀ x : Nat, 1 ≤ x → x < j → EdgeOK L k x) ∧ Below w.heap.size w wr) (fun i _ => 129 - (intOf i).toNat)
          case atStart => exact ⟨1, by omega, by omega, rfl, fun x h h' => by omega, hB⟩
          case round =>
            obtain ⟨j, hj1, hj, rfl, hno, hBr⟩ := hrel
            by_cases hjl : j ≤ 128
            · have z4 : decide ((j : Int) ≤ 128) = true := decide_eq_true (by omega)
              have z5 : (j : Int) ≤ 128 := by omega
              obtain ⟨b, off, c', e', l'⟩ := (HI.out _ hBr).form (by omega)
              injection e' with e' _ e2'
              subst e'; subst e2'
              obtain ⟨s, hs, q0, q1⟩ := (HI.out _ hBr).get k hlt
              have hg : gOf L (k : Int) = s := (gOf_nat L k hlt).trans hs
              have zk : (0 : Int) ≤ (k : Int) ∧ (k : Int) < (L.length : Int) := by omega
              have HG := hid hg
              have HHS := hid (rHas_c s (j : Int) wr)
              have HST := hid (show EdgeOK L k j → ∀ x : Nat, 1 ≤ x → x < j + 1 → EdgeOK L k x from fun h x hx hxj => by
                by_cases e : x = j
                · subst e; exact h
                · exact hno.out x hx (by omega))
              have HBAD := hid (show ¬ EdgeOK L k j → validG L = false from fun h => validG_no fun hv => h (hv.edge hlt))
              clear hs hg hno l'
              go_wp2_with fail
              refine HHS.out.mono ?_
              rintro e w2 ⟨rfl, hb2⟩
              have hB2 := hBr.trans (hb2.mono hBr.size)
              clear q0 q1 HHS
              cases hh : has s (j : Int)
              · have HS2 := hid (HST.out (fun e => by rw [HG.out, hh] at e; cases e))
                clear hh
                go_wp2_with fail
                go_roundw
                case rel => exact ⟨j + 1, by omega, by omega, by go_num, HS2.out, hB2⟩
                case measure => simp [intOf]; omega
              · have HH := hid hh
                clear hh
                by_cases hk0 : k = 0
                · have HV := hid (HBAD.out fun h => (h (by rw [HG.out]; exact HH.out)).1 hk0)
                  have z6 : ((k : Int) == 0) = true := by rw [hk0]; rfl
                  have z7 : (k : Int) = 0 := by omega
                  clear hk0
                  go_wp2_with fail
                  go_ret
                  exact ⟨by rw [HV.out]; rfl, hB2⟩
                · have z6 : ((k : Int) == 0) = false := by rw [beq_eq_false_iff_ne]; omega
                  have z7 : ¬ (k : Int) = 0 := by omega
                  by_cases hjn : (L.length : Int) - 1 < (j : Int)
                  · have HV := hid (HBAD.out fun h => by have := (h (by rw [HG.out]; exact HH.out)).2.1; omega)
                    have z8 : decide ((L.length : Int) - 1 < (j : Int)) = true := decide_eq_true hjn
                    go_wp2_with fail
                    go_ret
                    exact ⟨by rw [HV.out]; rfl, hB2⟩
                  · have z8 : decide ((L.length : Int) - 1 < (j : Int)) = false := decide_eq_false hjn
                    have hjL : j < L.length := by omega
                    by_cases hjk : j = k
                    · have HV := hid (HBAD.out fun h => (h (by rw [HG.out]; exact HH.out)).2.2.1 hjk)
                      have z9 : ((j : Int) == (k : Int)) = true := by rw [hjk]; simp
                      have z10 : (j : Int) = (k : Int) := by omega
                      go_wp2_with fail
                      go_ret
                      exact ⟨by rw [HV.out]; rfl, hB2⟩
                    · have z9 : ((j : Int) == (k : Int)) = false := by rw [beq_eq_false_iff_ne]; omega
                      have z10 : ¬ (j : Int) = (k : Int) := by omega
                      obtain ⟨s2, hs2, q0, q1⟩ := (HI.out _ hB2).get j hjL
                      have hg2 : gOf L (j : Int) = s2 := (gOf_nat L j hjL).trans hs2
                      have HG2 := hid hg2
                      have zj : (0 : Int) ≤ (j : Int) ∧ (j : Int) < (L.length : Int) := by omega
                      have HHS2 := hid (rHas_c s2 (k : Int) w2)
                      clear hs2 hg2
                      go_wp2_with fail
                      refine HHS2.out.mono ?_
                      rintro e w3 ⟨rfl, hb3⟩
                      have hB3 := hB2.trans (hb3.mono hB2.size)
                      clear q0 q1 HHS2
                      cases hh2 : has s2 (k : Int)
                      · have HV := hid (HBAD.out fun h => by
                          have := (h (by rw [HG.out]; exact HH.out)).2.2.2
                          rw [HG2.out, hh2] at this
                          cases this)
                        clear hh2
                        go_wp2_with fail
                        go_ret
                        exact ⟨by rw [HV.out]; rfl, hB3⟩
                      · have HS2 := hid (HST.out fun _ => ⟨hk0, hjL, hjk, by rw [HG2.out]; exact hh2⟩)
                        clear hh2
                        go_wp2_with fail
                        go_roundw
                        case rel => exact ⟨j + 1, by omega, by omega, by go_num, HS2.out, hB3⟩
                        case measure => simp [intOf]; omega
            · have z4 : decide ((j : Int) ≤ 128) = false := decide_eq_false (by omega)
              have z5 : ¬ (j : Int) ≤ 128 := by omega
              have HS2 := hid (show ∀ u x : Nat, u < k + 1 → 1 ≤ x → x ≤ 128 → EdgeOK L u x from fun u x hu hx hx2 => by
                by_cases e : u = k
                · subst e; exact hno.out x hx (by omega)
                · exact hok.out u x (by omega) hx hx2)
              go_wp2_with fail
              go_roundw
              case rel => exact ⟨k + 1, by omega, by go_num, HS2.out, hBr⟩
              case measure => simp [intOf]; omega
        · have z2 : decide ((k : Int) ≤ (L.length : Int) - 1) = false := decide_eq_false (by omega)
          have z3 : ¬ (k : Int) ≤ (L.length : Int) - 1 := by omega
          have HV := hid (validG_yes (edges_valid (by omega) (by omega) fun u x hu => hok.out u x (by omega)))
          go_wp2_with fail
          go_ret
          exact ⟨by rw [HV.out]; rfl, hB⟩
theorem foldl_wide : ∀ (B : List VS) (m : Int), B.foldl (fun m b => max m (len b - 1)) (m - 1) = B.foldl (fun m b => max m (len b)) m - 1
  | [], _ => rfl
  | b :: B, m => by
    rw [List.foldl_cons, List.foldl_cons, ← foldl_wide B (max m (len b))]
    congr 1
    omega
/-- The width as the reference counts it. -/
def wideR (B : List VS) : Int := B.foldl (fun m b => max m (len b - 1)) (-1)
theorem wideR_eq (B : List VS) : wideR B = widthT B := by
  have h := foldl_wide B 0
  unfold wideR widthT
  rw [show (-1 : Int) = 0 - 1 from rfl, h]
  by_cases e : B = []
  · subst e; rfl
  · rw [if_neg e]; rfl
theorem wideR_take (B : List VS) (k : Nat) (h : k < B.length) : wideR (B.take (k + 1)) = max (wideR (B.take k)) (len B[k] - 1) := by
  unfold wideR
  rw [List.take_succ_eq_append_getElem h, List.foldl_append]; rfl
theorem wideR_range (B : List VS) : -1 ≤ wideR B ∧ wideR B ≤ 127 := by
  rw [wideR_eq]
  unfold widthT
  have := mostL_range B
  split <;> omega
set_option maxRecDepth 100000 in
set_option maxHeartbeats 4000000 in
theorem rWidth_c (x y : Value) (B : List VS) (w : World) (hx : SetsAt w x B) (hl : B.length ≤ 140737488355328) :
    Calls Tryd.prog 33 #[.agg #[x, y]] w fun e w' => e = .returned (.int .i64 (widthT B)) ∧ Below w.heap.size w w' := by
  obtain ⟨p, c, rfl, hp⟩ := hx
  have HP := hid hp
  clear hp
  have hB0 : Below w.heap.size w (w.alloc (.cells #[.slice p B.length c, y] 33)) := (Below.refl _ w).alloc (Nat.le_refl _) _
  have b0 := Box2.new w 33 (.slice p B.length c) y
  go_enter Tryd.func33, Tryd.ntmps33
  go_wp2_with fail
  generalize w.alloc (.cells #[.slice p B.length c, y] 33) = w1 at *
  have HB1 := hid b0
  clear b0
  go_loopw [3, 4] (fun m i wr => ∃ k : Nat, k ≤ B.length ∧ i = .int .i64 k ∧ m = .int .i64 (wideR (B.take k)) ∧ Below w1.heap.size w1 wr) (fun _ i _ => B.length - (intOf i).toNat)
  case atStart => exact ⟨0, Nat.zero_le _, rfl, rfl, Below.refl _ _⟩
  case round =>
    obtain ⟨k, hk, rfl, rfl, hB⟩ := hrel
    have hBw := hB0.trans (hB.mono hB0.size)
    obtain ⟨c0, c1, _, _⟩ := (HB1.out.below hB HB1.out.lt).cells
    by_cases hkl : k < B.length
    · obtain ⟨b, off, rfl, hm⟩ := HP.out.resolve_left (by rintro rfl; simp at hkl)
      obtain ⟨q0, q1⟩ := (hm k hkl).below hBw
      have HT := hid (wideR_take B k hkl)
      have hr := wideR_range (B.take k)
      have zk : (0 : Int) ≤ (k : Int) ∧ (k : Int) < (B.length : Int) := by omega
      generalize hs : B[k] = s at *
      generalize wideR (B.take k) = m at *
      have HL := hid (rLen_c s wr)
      have hls := len_le s
      have hlp := len_pos (s := s)
      have zs : IntKind.i64.wrap (len s - 1) = len s - 1 := IntWalk.i64_in _ (by omega)
      clear hm hs
      go_wp2_with fail
      refine HL.out.mono ?_
      rintro e w2 ⟨rfl, hb2⟩
      have hB2 := hB.trans (hb2.mono hB.size)
      clear q0 q1 c0 c1
      by_cases hd : m < len s - 1
      · have e : max m (len s - 1) = len s - 1 := by omega
        rw [e] at HT
        clear e
        go_wp2_with fail
        go_roundw
        case rel => exact ⟨k + 1, by omega, by go_num, by rw [HT.out], hB2⟩
        case measure => simp [intOf]; omega
      · have e : max m (len s - 1) = m := by omega
        rw [e] at HT
        clear e
        go_wp2_with fail
        go_roundw
        case rel => exact ⟨k + 1, by omega, by go_num, by rw [HT.out], hB2⟩
        case measure => simp [intOf]; omega
    · obtain rfl : k = B.length := by omega
      rw [List.take_length, wideR_eq]
      go_wp2_with fail
      go_ret
      exact ⟨rfl, hBw⟩
end Go.Proofs.YtmlecpapoeodkaaDoor
