/- Walks: the reference of the layer width: orders and places in them. -/
import Derived.Test.YtmlecpapoeodkaaDoorWRef4
import Derived.Test.YtmlecpapoeodkaaDoorWOf
namespace Go.Proofs.YtmlecpapoeodkaaDoor
open Go.RowKit
attribute [local go_sem ↓] run_eqlS run_neqS run_eqlS0 run_neqS0

theorem ord_of_nodup {l : List Int} {n : Nat} (hd : l.Nodup) (hr : ∀ x ∈ l, 1 ≤ x ∧ x ≤ (n : Int)) (hl : l.length = n) (x : Int) : x ∈ l ↔ 1 ≤ x ∧ x ≤ (n : Int) := by
  refine ⟨hr x, fun h => ?_⟩
  have hd2 : (l.map fun y => y - 1).Nodup := by
    unfold List.Nodup
    rw [List.pairwise_map]
    exact hd.imp fun h => by omega
  have := nodup_all (n := n) hd2 (fun y hy => by
    obtain ⟨z, hz, rfl⟩ := List.mem_map.1 hy
    have := hr z hz
    omega) (by simpa using hl) (x - 1) (by omega) (by omega)
  obtain ⟨z, hz, e⟩ := List.mem_map.1 this
  have : z = x := by omega
  rw [← this]; exact hz
/-- What is seen when so many are read. -/
structure SeenSt (l : List Int) (n k : Nat) (F : List Bool) : Prop where
  len : F.length = n + 1
  mem : ∀ x : Nat, wet F x = true ↔ (x : Int) ∈ l.take k
  nd : (l.take k).Nodup
  rng : ∀ x ∈ l.take k, 1 ≤ x ∧ x ≤ (n : Int)
theorem SeenSt.start (l : List Int) (n : Nat) : SeenSt l n 0 (List.replicate (n + 1) false) :=
  ⟨by simp, fun x => by rw [wet_dry]; simp, by simp, fun x h => by simp at h⟩
theorem SeenSt.step {l : List Int} {n k : Nat} {F : List Bool} (h : SeenSt l n k F) (hk : k < l.length) {u : Nat} (hu : l[k] = (u : Int)) (h1 : 1 ≤ u ∧ u ≤ n) (hw : wet F u = false) : SeenSt l n (k + 1) (F.set u true) := by
  have e := List.take_succ_eq_append_getElem hk
  rw [hu] at e
  have hnot : ¬ (u : Int) ∈ l.take k := fun hc => by
    rw [(h.mem u).2 hc] at hw; cases hw
  refine ⟨by rw [List.length_set]; exact h.len, fun x => ?_, ?_, fun x hx => ?_⟩
  · rw [wet_set, e, List.mem_append, h.mem x, List.mem_singleton]
    constructor
    · rintro (h2 | ⟨rfl, _⟩)
      · exact .inl h2
      · exact .inr rfl
    · rintro (h2 | h2)
      · exact .inl h2
      · exact .inr ⟨by omega, by rw [h.len]; omega⟩
  · rw [e, List.nodup_append]
    exact ⟨h.nd, by simp, fun a ha b hb e2 => by
      rw [List.mem_singleton] at hb
      exact hnot (by rw [← hb, ← e2]; exact ha)⟩
  · rw [e, List.mem_append, List.mem_singleton] at hx
    rcases hx with hx | rfl
    · exact h.rng x hx
    · omega
set_option maxRecDepth 100000 in
set_option maxHeartbeats 2000000 in
theorem rOrder_c (v : Value) (l : List Int) (n : Nat) (w : World) (hJ : IntsAt w v l) (hn : n ≤ 128) (hl : l.length ≤ 140737488355328) :
    Calls Tryd.prog 56 #[.int .i64 (n : Int), v] w fun e w' => ∃ r : Bool, e = .returned (.bool r) ∧ (r = true ↔ IsOrd l n) ∧ Below w.heap.size w w' := by
  have HJ := hid (fun w' (h : Below w.heap.size w w') => hJ.below h)
  obtain ⟨p, c, rfl, hq⟩ := id hJ
  have HQ := hid hq
  clear hq hJ HJ
  have zn : IntKind.i64.wrap ((n : Int) + 1) = (n : Int) + 1 := IntWalk.i64_in _ (by omega)
  have hmk := fun w' => make_bools w' (n + 1) (by omega) ((n : Int) + 1) ((n : Int) + 1) (by push_cast; rfl) (by push_cast; rfl)
  go_enter Tryd.func56, Tryd.ntmps56
  go_wp2_with fail
  have hR0 := WetRow.made w (n + 1)
  have hB0 : Below w.heap.size w (w.alloc (.cells (madeCells (Value.bool false).cells (n + 1)) 4)) := (Below.refl _ w).alloc (Nat.le_refl _) _
  have HR0 := hid (show WetRow (w.alloc (.cells (madeCells #[.bool false] (n + 1)) 4)) w.heap.size _ from hR0)
  have HB0 := hid (show Below w.heap.size w (w.alloc (.cells (madeCells #[.bool false] (n + 1)) 4)) from hB0)
  generalize w.alloc (.cells (madeCells #[.bool false] (n + 1)) 4) = w1 at *
  clear hmk hR0 hB0
  obtain ⟨g, hg⟩ : ∃ g, g = w.heap.size := ⟨_, rfl⟩
  rw [← hg] at HR0 ⊢
  have hgw : w.heap.size ≤ g := by omega
  clear hg
  go_loopw [6] (fun i wr => ∃ (k : Nat) (F : List Bool), k ≤ l.length ∧ i = .int .i64 k ∧ Hid (SeenSt l n k F) ∧ Hid (WetRow wr g F) ∧ Hid (Below w.heap.size w wr)) (fun i _ => l.length - (intOf i).toNat)
  case atStart => exact ⟨0, _, Nat.zero_le _, rfl, SeenSt.start l n, HR0.out, HB0.out⟩
  case round =>
    obtain ⟨k, F, hk, rfl, hst, hrow, hBr⟩ := hrel
    by_cases hkl : k < l.length
    · obtain ⟨b, off, rfl, hm⟩ := HQ.out.resolve_left (by intro e; rw [e] at hkl; simp at hkl)
      have hc := hm k hkl
      rw [List.getElem?_eq_getElem hkl, Option.getD_some] at hc
      have hcu := (hBr.out.cell (cell_lt hc)).trans hc
      obtain ⟨u, hu⟩ : ∃ u, l[k] = u := ⟨_, rfl⟩
      have HIN := hid (show IsOrd l n → 1 ≤ u ∧ u ≤ (n : Int) from fun h => (h.mem u).1 (by rw [← hu]; exact List.getElem_mem hkl))
      rw [hu] at hcu
      have zk : (0 : Int) ≤ (k : Int) ∧ (k : Int) < (l.length : Int) := by omega
      clear hm hc
      by_cases h1 : u < 1
      · have HN := hid (show ¬ IsOrd l n from fun h => by have := HIN.out h; omega)
        clear hu
        go_wp2_with fail
        go_ret
        exact ⟨false, rfl, by simp [HN.out], hBr.out⟩
      · by_cases h2 : (n : Int) < u
        · have HN := hid (show ¬ IsOrd l n from fun h => by have := HIN.out h; omega)
          clear hu
          go_wp2_with fail
          go_ret
          exact .inl ⟨rfl, HN.out, hBr.out⟩
        · obtain ⟨un, rfl⟩ : ∃ un : Nat, u = (un : Int) := ⟨u.toNat, by omega⟩
          have zu : (0 : Int) ≤ (un : Int) ∧ (un : Int) < ((n + 1 : Nat) : Int) := by omega
          have zu2 : (0 : Int) ≤ (un : Int) ∧ (un : Int) < (n : Int) + 1 := by omega
          obtain ⟨y0, y1⟩ := hrow.out.at un (by rw [hst.out.len]; omega)
          have HU := hid hu
          clear hu
          cases hw : wet F un
          · have HS := hid (hst.out.step hkl HU.out (by omega) hw)
            have HR := hid (hrow.out.store un)
            have HB := hid (hBr.out.setCell (p := ⟨g, un, none⟩) (by show w.heap.size ≤ g; omega) (.bool true))
            rw [hw] at y0
            clear hw
            go_wp2_with fail
            go_roundw
            case rel => exact ⟨k + 1, _, by omega, by go_num, HS.out, HR.out, HB.out⟩
            case measure => simp [intOf]; omega
          · have HN := hid (show ¬ IsOrd l n from fun h => by
              have hin := (hst.out.mem un).1 hw
              have hd := h.nodup
              rw [← List.take_append_drop (k + 1) l, List.take_succ_eq_append_getElem hkl, HU.out] at hd
              rw [List.nodup_append] at hd
              have hd2 := hd.1
              rw [List.nodup_append] at hd2
              exact hd2.2.2 _ hin _ (by simp) rfl)
            rw [hw] at y0
            clear hw
            go_wp2_with fail
            go_ret
            exact .inl ⟨rfl, HN.out, hBr.out⟩
    · obtain rfl : k = l.length := by omega
      by_cases hln : l.length = n
      · have HO := hid (show IsOrd l n from by
          have h2 := hst.out.nd
          have h3 := hst.out.rng
          rw [List.take_length] at h2 h3
          exact ⟨hln, fun x => ord_of_nodup h2 h3 hln x⟩)
        have z1 : ((l.length : Int) == (n : Int)) = true := by rw [hln]; simp
        have HZ := hid hln
        clear hln
        go_wp2_with fail
        go_ret
        exact ⟨true, rfl, by simp [HO.out], hBr.out⟩
      · have HN := hid (show ¬ IsOrd l n from fun h => hln h.len)
        have z1 : ((l.length : Int) == (n : Int)) = false := by rw [beq_eq_false_iff_ne]; omega
        go_wp2_with fail
        go_ret
        exact ⟨false, rfl, by simp [HN.out], hBr.out⟩
/-- The first place of a number, or -1. -/
def posR (l : List Int) (v : Int) : Int := if v ∈ l then posL l v else -1
set_option maxRecDepth 100000 in
set_option maxHeartbeats 2000000 in
theorem rPos_c (x : Value) (l : List Int) (v : Int) (w : World) (hJ : IntsAt w x l) (hl : l.length ≤ 140737488355328) :
    Calls Tryd.prog 60 #[x, .int .i64 v] w fun e w' => e = .returned (.int .i64 (posR l v)) ∧ Below w.heap.size w w' := by
  obtain ⟨p, c, rfl, hq⟩ := id hJ
  have HQ := hid hq
  clear hq hJ
  go_enter Tryd.func60, Tryd.ntmps60
  go_wp2_with fail
  go_loopw [5] (fun i wr => ∃ k : Nat, k ≤ l.length ∧ i = .int .i64 k ∧ Hid (¬ v ∈ l.take k) ∧ Below w.heap.size w wr) (fun i _ => l.length - (intOf i).toNat)
  case atStart => exact ⟨0, Nat.zero_le _, rfl, fun h => by simp at h, Below.refl _ _⟩
  case round =>
    obtain ⟨k, hk, rfl, hno, hBr⟩ := hrel
    by_cases hkl : k < l.length
    · obtain ⟨b, off, rfl, hm⟩ := HQ.out.resolve_left (by intro e; rw [e] at hkl; simp at hkl)
      have hc := hm k hkl
      rw [List.getElem?_eq_getElem hkl, Option.getD_some] at hc
      have hcu := (hBr.cell (cell_lt hc)).trans hc
      obtain ⟨u, hu⟩ : ∃ u, l[k] = u := ⟨_, rfl⟩
      rw [hu] at hcu
      have HU := hid hu
      have zk : (0 : Int) ≤ (k : Int) ∧ (k : Int) < (l.length : Int) := by omega
      clear hm hc hu
      by_cases huv : u = v
      · subst huv
        have HP := hid (show posR l u = (k : Int) from by
          have hin : u ∈ l := by rw [← HU.out]; exact List.getElem_mem hkl
          unfold posR posL
          rw [if_pos hin]
          have h1 : l.idxOf u = k := by
            have e : l = l.take k ++ (u :: l.drop (k + 1)) := by
              rw [← HU.out, List.getElem_cons_drop, List.take_append_drop]
            rw [e, List.idxOf_append, if_neg hno.out]
            simp; omega
          rw [h1])
        go_wp2_with fail
        go_ret
        exact ⟨by rw [HP.out]; rfl, hBr⟩
      · have HN := hid (show ¬ v ∈ l.take (k + 1) from by
          rw [List.take_succ_eq_append_getElem hkl, List.mem_append, List.mem_singleton, HU.out]
          rintro (h | h)
          · exact hno.out h
          · exact huv h.symm)
        have z1 : (u == v) = false := by rw [beq_eq_false_iff_ne]; exact huv
        go_wp2_with fail
        go_roundw
        case rel => exact ⟨k + 1, by omega, by go_num, HN.out, hBr⟩
        case measure => simp [intOf]; omega
    · obtain rfl : k = l.length := by omega
      have HP := hid (show posR l v = -1 from by
        have := hno.out
        rw [List.take_length] at this
        unfold posR; rw [if_neg this])
      go_wp2_with fail
      go_ret
      exact ⟨by rw [HP.out]; rfl, hBr⟩
end Go.Proofs.YtmlecpapoeodkaaDoor
