/- Walks: two lists that hold a literal and its opposite. -/
import Derived.Test.YtpdbfbjfodckgaaDoorHDec
import Derived.Test.YtpdbfbjfodckgaaDoorNWalk2
namespace Go.Proofs.YtpdbfbjfodckgaaDoor
open Go.RowKit

def MarkArr (w : World) (p : Nat) (a : List Int) : Prop := ∃ cur, w.heap[p]? = some (.cells cur 92 (0, 0)) ∧ cur.size = 257 ∧ ∀ i, i < 257 → cur[i]? = some (.bool (a.contains ((i : Int) - 128)))
theorem zeros257 : Tryd.zeroCells92 = Array.replicate 257 (.bool false) := by kernel_rfl
theorem MarkArr.new (w : World) : MarkArr (w.alloc (.cells Tryd.zeroCells92 92)) w.heap.size [] :=
  ⟨_, heap_alloc_new w _, by rw [zeros257]; exact Array.size_replicate, fun i hi => by rw [zeros257, Array.getElem?_replicate, if_pos hi]; rfl⟩
theorem MarkArr.lt {w : World} {p : Nat} {a : List Int} (h : MarkArr w p a) : p < w.heap.size := by
  obtain ⟨_, h, _⟩ := h; exact (Array.getElem?_eq_some_iff.1 h).1
theorem MarkArr.below {w w' : World} {p B : Nat} {a : List Int} (h : MarkArr w p a) (hb : Below B w w') (hB : p < B) : MarkArr w' p a := by
  obtain ⟨cur, h1, h2⟩ := h; exact ⟨cur, (hb.block p hB).trans h1, h2⟩
theorem MarkArr.get {w : World} {p : Nat} {a : List Int} (h : MarkArr w p a) (i : Nat) (hi : i < 257) : w.cell? ⟨p, i, none⟩ = some (.bool (a.contains ((i : Int) - 128))) ∧ w.frozen? ⟨p, i, none⟩ = false := by
  obtain ⟨cur, h1, h2, h3⟩ := h
  simp [World.cell?, World.frozen?, h1, h3 i hi]
theorem MarkArr.store {w : World} {p : Nat} {a : List Int} (h : MarkArr w p a) (i : Nat) (hi : i < 257) : MarkArr (w.setCell ⟨p, i, none⟩ (.bool true)) p (a ++ [(i : Int) - 128]) := by
  obtain ⟨cur, h1, h2, h3⟩ := h
  refine ⟨cur.setIfInBounds i (.bool true), by simp [World.setCell, Array.getElem?_modify, h1], by simpa using h2, fun k hk => ?_⟩
  rw [Array.getElem?_setIfInBounds]
  by_cases e : i = k
  · subst e
    rw [if_pos rfl, if_pos (by omega)]
    simp
  · rw [if_neg e, h3 k hk]
    have : ((k : Int) - 128 == (i : Int) - 128) = false := by rw [beq_eq_false_iff_ne]; omega
    rw [List.contains_eq_any_beq, List.contains_eq_any_beq, List.any_append]
    simp [this]
theorem opposite1_c (x : Int) (a : List Int) (p : Nat) (w : World) (hM : MarkArr w p a) (hx : -128 ≤ x ∧ x ≤ 128) :
    Calls Tryd.prog 73 #[.int .i64 x, .pointer (some ⟨p, 0, none⟩)] w fun e w' => e = .returned (.bool (a.contains (-x))) ∧ w = w' := by
  obtain ⟨i, hi⟩ : ∃ i : Nat, 128 - x = (i : Int) := ⟨(128 - x).toNat, by omega⟩
  have h1 := (hM.get i (by omega)).1
  have z1 : (0 : Int) ≤ (i : Int) ∧ (i : Int) < 257 := by omega
  have e : -x = (i : Int) - 128 := by omega
  rw [e]
  obtain rfl : x = 128 - (i : Int) := by omega
  generalize a.contains ((i : Int) - 128) = bb at *
  clear e hi hx hM
  go_enter Tryd.func73, Tryd.ntmps73
  have hw : (128 : Int) - (128 - (i : Int)) = (i : Int) := by omega
  go_wp2
  go_ret
  exact ⟨rfl, rfl⟩
theorem opp_take (a l : List Int) (k : Nat) (h : k < l.length) : opp a (l.take (k + 1)) = (opp a (l.take k) || a.contains (-l[k])) := by
  unfold opp
  rw [List.take_succ_eq_append_getElem h, List.any_append]
  simp
theorem opp_true (a l : List Int) (k : Nat) (h : k < l.length) (hb : a.contains (-l[k]) = true) : opp a l = true := by
  unfold opp
  rw [List.any_eq_true]
  exact ⟨l[k], List.getElem_mem h, hb⟩
set_option maxRecDepth 100000 in
set_option maxHeartbeats 1000000 in
theorem IndexFuncO_c (v : Value) (l a : List Int) (pb : Nat) (w : World) (hI : IntsAt w v l) (hM : MarkArr w pb a) (hl : l.length ≤ 140737488355328) (hr : ∀ x ∈ l, -128 ≤ x ∧ x ≤ 128) :
    Calls Tryd.prog 79 #[v, .func (.func 73) #[] #[.pointer (some ⟨pb, 0, none⟩)]] w fun e w' => ∃ r, e = .returned (.int .i64 r) ∧ decide (0 ≤ r) = opp a l ∧ w = w' := by
  obtain ⟨p, c, rfl, hI⟩ := hI
  have HI := hid hI
  have HM := hid hM
  have HR := hid hr
  clear hI hM hr
  go_enter Tryd.func79, Tryd.ntmps79
  go_wp2
  go_loop [8] (fun i => ∃ k : Nat, k ≤ l.length ∧ i = .int .i64 k ∧ Hid (opp a (l.take k) = false)) (fun i => l.length - (intOf i).toNat)
  case atStart => exact ⟨0, Nat.zero_le _, rfl, rfl⟩
  case round =>
    obtain ⟨k, hk, rfl, hb⟩ := hrel
    by_cases hlt : k < l.length
    · obtain ⟨b, off, rfl, hI⟩ := HI.out.resolve_left (by intro e; rw [e] at hlt; simp at hlt)
      have hc1 := hI k hlt
      rw [List.getElem?_eq_getElem hlt, Option.getD_some] at hc1
      have HT := hid (opp_take a l k hlt)
      have HF := hid (opp_true a l k hlt)
      have HRX := hid (HR.out _ (List.getElem_mem hlt))
      clear hI
      generalize l[k] = x at *
      cases hx : a.contains (-x)
      · go_wp2_with (go_at_call 73; refine (opposite1_c x a pb _ HM.out HRX.out).mono ?_; rintro e w1 ⟨rfl, rfl⟩; rw [hx])
        go_round
        case rel => exact ⟨k + 1, by omega, by go_num, by show opp _ _ = false; rw [HT.out, hb.out, hx]; rfl⟩
        case measure => simp [intOf]; omega
      · go_wp2_with (go_at_call 73; refine (opposite1_c x a pb _ HM.out HRX.out).mono ?_; rintro e w1 ⟨rfl, rfl⟩; rw [hx])
        go_ret
        exact ⟨_, rfl, by rw [HF.out hx]; simp, rfl⟩
    · obtain rfl : k = l.length := by omega
      go_wp2
      go_ret
      exact ⟨_, rfl, by have := hb.out; rw [List.take_length] at this; rw [this]; rfl, rfl⟩
theorem ContainsFuncO_c (v : Value) (l a : List Int) (pb : Nat) (w : World) (hI : IntsAt w v l) (hM : MarkArr w pb a) (hl : l.length ≤ 140737488355328) (hr : ∀ x ∈ l, -128 ≤ x ∧ x ≤ 128) :
    Calls Tryd.prog 67 #[v, .func (.func 73) #[] #[.pointer (some ⟨pb, 0, none⟩)]] w fun e w' => e = .returned (.bool (opp a l)) ∧ w = w' := by
  go_enter Tryd.func67, Tryd.ntmps67
  go_wp2_with (go_at_call 79; refine (IndexFuncO_c v l a pb _ hI hM hl hr).mono ?_; rintro e w1 ⟨r, rfl, hr, rfl⟩)
  go_ret
  exact ⟨rfl, rfl⟩
set_option maxRecDepth 100000 in
set_option maxHeartbeats 4000000 in
theorem opposite_c (va vb : Value) (a b : List Int) (w : World) (ha : IntsAt w va a) (hb : IntsAt w vb b) (hla : a.length ≤ 65536) (hlb : b.length ≤ 140737488355328) (hra : ∀ x ∈ a, -128 ≤ x ∧ x ≤ 128) (hrb : ∀ x ∈ b, -128 ≤ x ∧ x ≤ 128) :
    Calls Tryd.prog 49 #[va, vb] w (DecPost (opp a b) w) := by
  have HA := hid ha
  have HB := hid hb
  have HRA := hid hra
  have HRB := hid hrb
  obtain ⟨p, c, rfl, hdrop⟩ := ha
  clear hdrop hb hra hrb
  have HM := hid (MarkArr.new w)
  have HB1 := hid ((Below.refl _ w).alloc (Nat.le_refl _) (.cells Tryd.zeroCells92 92))
  go_enter Tryd.func49, Tryd.ntmps49
  go_wp2_with fail
  go_loopw [10] (fun z wr => ∃ (k : Nat), k ≤ a.length ∧ z = .int .i64 k ∧ Hid (MarkArr wr w.heap.size (a.take k)) ∧ Hid (Below w.heap.size w wr)) (fun z _ => a.length - (intOf z).toNat)
  case atStart => exact ⟨0, Nat.zero_le _, rfl, HM.out, HB1.out⟩
  case round =>
    clear HM HB1
    obtain ⟨k, hk, rfl, hm, hbr⟩ := hrel
    by_cases hkl : k < a.length
    · obtain ⟨p3, c3, e3, h3⟩ := HA.out.below hbr.out
      injection e3 with e1 _ e2
      subst e1; subst e2
      obtain ⟨b2, o2, rfl, hc⟩ := h3.resolve_left (by intro e; rw [e] at hkl; simp at hkl)
      have hcj := hc k hkl
      rw [List.getElem?_eq_getElem hkl, Option.getD_some] at hcj
      have hra := HRA.out _ (List.getElem_mem hkl)
      have zk : (0 : Int) ≤ (k : Int) ∧ (k : Int) < (a.length : Int) := by omega
      have hts := List.take_succ_eq_append_getElem hkl
      obtain ⟨i, hi⟩ : ∃ i : Nat, 128 + a[k] = (i : Int) := ⟨(128 + a[k]).toNat, by omega⟩
      have hx : a[k] = (i : Int) - 128 := by omega
      rw [hx] at hcj hts
      have HTS := hid hts
      have zi : (0 : Int) ≤ (i : Int) ∧ (i : Int) < 257 := by omega
      obtain ⟨y0, y1⟩ := hm.out.get i (by omega)
      have HM2 := hid (hm.out.store i (by omega))
      have HB2 := hid (hbr.out.setCell (p := ⟨w.heap.size, i, none⟩) (Nat.le_refl _) (.bool true))
      have hw : (128 : Int) + ((i : Int) - 128) = (i : Int) := by omega
      clear hts hra h3 hc hi hx hm hbr
      go_wp2_with fail
      go_roundw
      case rel => exact ⟨k + 1, by omega, by go_num, (by rw [HTS.out]; exact HM2.out), HB2.out⟩
      case measure => simp [intOf]; omega
    · obtain rfl : k = a.length := by omega
      rw [List.take_length] at hm
      have HCF := hid (ContainsFuncO_c vb b a w.heap.size wr (HB.out.below hbr.out) hm.out hlb HRB.out)
      have HBR := hid hbr.out
      clear hm hbr
      go_wp2_with fail
      refine HCF.out.mono ?_
      rintro e w1 ⟨rfl, rfl⟩
      go_wp2_with fail
      go_ret
      exact ⟨rfl, HBR.out⟩
end Go.Proofs.YtpdbfbjfodckgaaDoor
