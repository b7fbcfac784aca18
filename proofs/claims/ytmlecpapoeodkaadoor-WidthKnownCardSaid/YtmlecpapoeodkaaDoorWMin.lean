/- Walks: slices.MinFunc with the comparisons of width. (gen_wmin.py) -/
import Derived.Test.YtmlecpapoeodkaaDoorWWalk1
import Derived.Test.YtmlecpapoeodkaaDoorWTree
namespace Go.Proofs.YtmlecpapoeodkaaDoor
open Go.RowKit

def pickTo (cost : Int → Int) (l : List Int) (k : Nat) : Int × Int := (l.take k).foldl (pickStep cost) (0, 0)
theorem pickTo_succ (cost : Int → Int) (l : List Int) (k : Nat) (h : k < l.length) : pickTo cost l (k + 1) = pickStep cost (pickTo cost l k) l[k] := by
  unfold pickTo
  rw [List.take_succ_eq_append_getElem h, List.foldl_append]; rfl
theorem pickTo_all (cost : Int → Int) (l : List Int) : pickTo cost l l.length = pick cost l := by unfold pickTo pick; rw [List.take_length]
theorem pickTo_ok {cost : Int → Int} {l : List Int} (hl : ∀ u ∈ l, 1 ≤ u) {k : Nat} (h1 : 1 ≤ k) (h2 : k ≤ l.length) : (pickTo cost l k).1 ∈ l ∧ (pickTo cost l k).2 = cost (pickTo cost l k).1 := by
  have h := pickOk_fold (cost := cost) (l.take k) [] (0, 0) (.inl ⟨rfl, rfl⟩) (fun u hu => hl u (List.mem_of_mem_take (by simpa using hu)))
  rw [List.nil_append] at h
  rcases h with ⟨h, _⟩ | ⟨h, h3, _⟩
  · have := congrArg List.length h
    rw [List.length_take, List.length_nil] at this
    omega
  · exact ⟨List.mem_of_mem_take h, h3⟩
theorem pickTo_one {cost : Int → Int} {l : List Int} (h : 0 < l.length) : (pickTo cost l 1).1 = l[0] := by
  rw [pickTo_succ cost l 0 h]
  unfold pickTo pickStep
  simp
theorem pickTo_next {cost : Int → Int} {l : List Int} (hl : ∀ u ∈ l, 1 ≤ u) {k : Nat} (h1 : 1 ≤ k) (h2 : k < l.length) : (pickTo cost l (k + 1)).1 = if cost l[k] - cost (pickTo cost l k).1 < 0 then l[k] else (pickTo cost l k).1 := by
  obtain ⟨h3, h4⟩ := pickTo_ok hl h1 (Nat.le_of_lt h2) (cost := cost)
  have h5 := hl _ h3
  rw [pickTo_succ cost l k h2]
  unfold pickStep
  rw [h4]
  by_cases e : cost l[k] < cost (pickTo cost l k).1
  · rw [if_pos (.inr e), if_pos (by omega)]
  · rw [if_neg (by omega), if_neg (by omega)]
set_option maxRecDepth 100000 in
set_option maxHeartbeats 1000000 in
/-- The comparison of places. -/
theorem of1_c (a b : Nat) (P : List Int) (v : Value) (pb : Nat) (w : World) (hc : w.cell? ⟨pb, 0, none⟩ = some v) (hI : IntsAt w v P) (ha : a < P.length) (hb : b < P.length) (hr : ∀ x ∈ P, 0 ≤ x ∧ x ≤ 1000000) :
    Calls Tryd.prog 43 #[.int .i64 (a : Int), .int .i64 (b : Int), .pointer (some ⟨pb, 0, none⟩)] w fun e w2 => e = .returned (.int .i64 (upF P (a : Int) - upF P (b : Int))) ∧ Below w.heap.size w w2 := by
  obtain ⟨p, c, rfl, h⟩ := hI
  obtain ⟨bb, off, rfl, hm⟩ := h.resolve_left (by intro e; rw [e] at ha; simp at ha)
  have ca := hm a ha
  have cb := hm b hb
  rw [List.getElem?_eq_getElem ha, Option.getD_some] at ca
  rw [List.getElem?_eq_getElem hb, Option.getD_some] at cb
  have ra := hr _ (List.getElem_mem ha)
  have rb := hr _ (List.getElem_mem hb)
  have za : (0 : Int) ≤ (a : Int) ∧ (a : Int) < (P.length : Int) := by omega
  have zb : (0 : Int) ≤ (b : Int) ∧ (b : Int) < (P.length : Int) := by omega
  rw [upF_nat P a ha, upF_nat P b hb]
  have hl1 : pb < w.heap.size := cell_lt hc
  have hl2 : bb < w.heap.size := cell_lt ca
  generalize P[a] = x at *
  generalize P[b] = y at *
  clear hm h hr ha hb
  go_enter Tryd.func43, Tryd.ntmps43
  go_wp2_with fail
  refine wp_region_pure (by kernel_rfl) (by kernel_rfl) ?_
  repeat (go_big_quiet_step (fail))
  refine wpQuiet_nil ?_
  intro w2 hb2
  go_wp2_with fail
  go_ret
  exact ⟨ret_int (by go_num), hb2⟩
set_option maxRecDepth 100000 in
set_option maxHeartbeats 2000000 in
theorem minOf_c (v : Value) (l : List Int) (cost : Int → Int) (pb : Nat) (w : World) (hI : IntsAt w v l) (hne : l ≠ []) (hp : ∀ u ∈ l, 1 ≤ u) (hl : l.length ≤ 140737488355328)
    (hC : ∀ a ∈ l, ∀ b ∈ l, ∀ w', Below w.heap.size w w' → Calls Tryd.prog 43 #[.int .i64 a, .int .i64 b, .pointer (some ⟨pb, 0, none⟩)] w' fun e w2 => e = .returned (.int .i64 (cost a - cost b)) ∧ Below w'.heap.size w' w2) :
    Calls Tryd.prog 42 #[v, .func (.func 43) #[] #[.pointer (some ⟨pb, 0, none⟩)]] w fun e w' => e = .returned (.int .i64 (pick cost l).1) ∧ Below w.heap.size w w' := by
  have HC := hid hC
  have HP := hid hp
  clear hC hp
  have hpos : 0 < l.length := List.length_pos_iff.2 hne
  obtain ⟨p, c, rfl, h⟩ := hI
  obtain ⟨b, off, rfl, hm⟩ := h.resolve_left hne
  have HM := hid hm
  have hc0 := hm 0 hpos
  rw [List.getElem?_eq_getElem hpos, Option.getD_some, Nat.add_zero] at hc0
  have n1 : ¬ (l.length : Int) < 1 := by omega
  have z0 : (0 : Int) < (l.length : Int) := by omega
  have H0 := hid (pickTo_one (cost := cost) hpos)
  generalize l[0] = x0 at *
  clear h hm hne
  go_enter Tryd.func42, Tryd.ntmps42
  go_wp2_with fail
  clear hc0 n1
  go_loopw [5, 6] (fun m i wr => ∃ k : Nat, 1 ≤ k ∧ k ≤ l.length ∧ i = .int .i64 k ∧ m = .int .i64 (pickTo cost l k).1 ∧ Below w.heap.size w wr) (fun _ i _ => l.length - (intOf i).toNat)
  case atStart => exact ⟨1, Nat.le_refl _, hpos, rfl, by rw [H0.out], Below.refl _ _⟩
  case round =>
    obtain ⟨k, hk1, hk, rfl, rfl, hB⟩ := hrel
    by_cases hkl : k < l.length
    · have hc := HM.out k hkl
      rw [List.getElem?_eq_getElem hkl, Option.getD_some] at hc
      have hc1 := (hB.cell (cell_lt hc)).trans hc
      obtain ⟨hmem, _⟩ := pickTo_ok (cost := cost) HP.out hk1 hk
      have HN := hid (pickTo_next (cost := cost) HP.out hk1 hkl)
      have HCC := hid (HC.out _ (List.getElem_mem hkl) _ hmem wr hB)
      have zk : (0 : Int) ≤ (k : Int) ∧ (k : Int) < (l.length : Int) := by omega
      clear hc hmem
      generalize l[k] = x at *
      generalize pickTo cost l k = m at *
      go_wp2_with (fail)
      refine HCC.out.mono ?_
      rintro e w2 ⟨rfl, hb2⟩
      have hB2 := hB.trans (hb2.mono hB.size)
      have hc2 := (hb2.cell (cell_lt hc1)).trans hc1
      clear hc1
      by_cases hd : cost x - cost m.1 < 0
      · rw [if_pos hd] at HN
        go_wp2_with fail
        go_roundw
        case rel => exact ⟨k + 1, by omega, by omega, by go_num, by rw [HN.out], hB2⟩
        case measure => simp [intOf]; omega
      · rw [if_neg hd] at HN
        go_wp2_with fail
        go_roundw
        case rel => exact ⟨k + 1, by omega, by omega, by go_num, by rw [HN.out], hB2⟩
        case measure => simp [intOf]; omega
    · obtain rfl : k = l.length := by omega
      have HA := hid (pickTo_all cost l)
      go_wp2_with fail
      go_ret
      exact ⟨by rw [HA.out]; rfl, hB⟩
set_option maxRecDepth 100000 in
set_option maxHeartbeats 2000000 in
theorem minLow_c (v : Value) (l : List Int) (cost : Int → Int) (pb : Nat) (w : World) (hI : IntsAt w v l) (hne : l ≠ []) (hp : ∀ u ∈ l, 1 ≤ u) (hl : l.length ≤ 140737488355328)
    (hC : ∀ a ∈ l, ∀ b ∈ l, ∀ w', Below w.heap.size w w' → Calls Tryd.prog 46 #[.int .i64 a, .int .i64 b, .pointer (some ⟨pb, 0, none⟩)] w' fun e w2 => e = .returned (.int .i64 (cost a - cost b)) ∧ Below w'.heap.size w' w2) :
    Calls Tryd.prog 42 #[v, .func (.func 46) #[] #[.pointer (some ⟨pb, 0, none⟩)]] w fun e w' => e = .returned (.int .i64 (pick cost l).1) ∧ Below w.heap.size w w' := by
  have HC := hid hC
  have HP := hid hp
  clear hC hp
  have hpos : 0 < l.length := List.length_pos_iff.2 hne
  obtain ⟨p, c, rfl, h⟩ := hI
  obtain ⟨b, off, rfl, hm⟩ := h.resolve_left hne
  have HM := hid hm
  have hc0 := hm 0 hpos
  rw [List.getElem?_eq_getElem hpos, Option.getD_some, Nat.add_zero] at hc0
  have n1 : ¬ (l.length : Int) < 1 := by omega
  have z0 : (0 : Int) < (l.length : Int) := by omega
  have H0 := hid (pickTo_one (cost := cost) hpos)
  generalize l[0] = x0 at *
  clear h hm hne
  go_enter Tryd.func42, Tryd.ntmps42
  go_wp2_with fail
  clear hc0 n1
  go_loopw [5, 6] (fun m i wr => ∃ k : Nat, 1 ≤ k ∧ k ≤ l.length ∧ i = .int .i64 k ∧ m = .int .i64 (pickTo cost l k).1 ∧ Below w.heap.size w wr) (fun _ i _ => l.length - (intOf i).toNat)
  case atStart => exact ⟨1, Nat.le_refl _, hpos, rfl, by rw [H0.out], Below.refl _ _⟩
  case round =>
    obtain ⟨k, hk1, hk, rfl, rfl, hB⟩ := hrel
    by_cases hkl : k < l.length
    · have hc := HM.out k hkl
      rw [List.getElem?_eq_getElem hkl, Option.getD_some] at hc
      have hc1 := (hB.cell (cell_lt hc)).trans hc
      obtain ⟨hmem, _⟩ := pickTo_ok (cost := cost) HP.out hk1 hk
      have HN := hid (pickTo_next (cost := cost) HP.out hk1 hkl)
      have HCC := hid (HC.out _ (List.getElem_mem hkl) _ hmem wr hB)
      have zk : (0 : Int) ≤ (k : Int) ∧ (k : Int) < (l.length : Int) := by omega
      clear hc hmem
      generalize l[k] = x at *
      generalize pickTo cost l k = m at *
      go_wp2_with (fail)
      refine HCC.out.mono ?_
      rintro e w2 ⟨rfl, hb2⟩
      have hB2 := hB.trans (hb2.mono hB.size)
      have hc2 := (hb2.cell (cell_lt hc1)).trans hc1
      clear hc1
      by_cases hd : cost x - cost m.1 < 0
      · rw [if_pos hd] at HN
        go_wp2_with fail
        go_roundw
        case rel => exact ⟨k + 1, by omega, by omega, by go_num, by rw [HN.out], hB2⟩
        case measure => simp [intOf]; omega
      · rw [if_neg hd] at HN
        go_wp2_with fail
        go_roundw
        case rel => exact ⟨k + 1, by omega, by omega, by go_num, by rw [HN.out], hB2⟩
        case measure => simp [intOf]; omega
    · obtain rfl : k = l.length := by omega
      have HA := hid (pickTo_all cost l)
      go_wp2_with fail
      go_ret
      exact ⟨by rw [HA.out]; rfl, hB⟩
end Go.Proofs.YtmlecpapoeodkaaDoor
