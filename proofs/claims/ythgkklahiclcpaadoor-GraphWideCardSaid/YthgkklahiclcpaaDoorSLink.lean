/- Walk: two variables become neighbours. -/
import Derived.Test.YthgkklahiclcpaaDoorSLaw3
import Derived.Test.YthgkklahiclcpaaDoorSMoreP
import Derived.Lib.BufferWrite
namespace Go.Proofs.YthgkklahiclcpaaDoor
open Go.RowKit
attribute [local go_sem] bits_or

theorem setRow_word0 {w : World} {g : Nat} {L : List VS} (h : SetRow w g L) (i : Nat) (_hi : i < L.length) (s : VS) (hs : hw s = hw (gOf L (i : Int))) :
    SetRow (w.setCell ⟨g, i * 2, none⟩ (.int .u64 ((lw s).toNat : Int))) g (L.set i s) := by
  rw [gOf_nat L i _hi] at hs
  obtain ⟨cur, h1, h2, h3⟩ := h
  refine ⟨cur.setIfInBounds (i * 2) (.int .u64 ((lw s).toNat : Int)), ?_, by simpa using h2, fun k hk => ?_⟩
  · simp [World.setCell, Array.getElem?_modify, h1]
  · have hk' : k < L.length := by simpa using hk
    obtain ⟨e0, e1⟩ := h3 k hk'
    rw [List.getElem_set]
    by_cases e : i = k
    · subst e
      rw [if_pos rfl]
      constructor
      · rw [Array.getElem?_setIfInBounds, if_pos rfl, if_pos (by omega)]
      · rw [Array.getElem?_setIfInBounds, if_neg (by omega), hs]; exact e1
    · rw [if_neg e]
      constructor
      · rw [Array.getElem?_setIfInBounds, if_neg (by omega)]; exact e0
      · rw [Array.getElem?_setIfInBounds, if_neg (by omega)]; exact e1
theorem setRow_word1 {w : World} {g : Nat} {L : List VS} (h : SetRow w g L) (i : Nat) (_hi : i < L.length) (s : VS) (hs : lw s = lw (gOf L (i : Int))) :
    SetRow (w.setCell ⟨g, i * 2 + 1, none⟩ (.int .u64 ((hw s).toNat : Int))) g (L.set i s) := by
  rw [gOf_nat L i _hi] at hs
  obtain ⟨cur, h1, h2, h3⟩ := h
  refine ⟨cur.setIfInBounds (i * 2 + 1) (.int .u64 ((hw s).toNat : Int)), ?_, by simpa using h2, fun k hk => ?_⟩
  · simp [World.setCell, Array.getElem?_modify, h1]
  · have hk' : k < L.length := by simpa using hk
    obtain ⟨e0, e1⟩ := h3 k hk'
    rw [List.getElem_set]
    by_cases e : i = k
    · subst e
      rw [if_pos rfl]
      constructor
      · rw [Array.getElem?_setIfInBounds, if_neg (by omega), hs]; exact e0
      · rw [Array.getElem?_setIfInBounds, if_pos rfl, if_pos (by omega)]
    · rw [if_neg e]
      constructor
      · rw [Array.getElem?_setIfInBounds, if_neg (by omega)]; exact e0
      · rw [Array.getElem?_setIfInBounds, if_neg (by omega)]; exact e1
theorem one_shl_lo {k : Nat} (h : (k : Int) + 1 ≤ 64) : IntKind.u64.wrap (2 ^ ((k : Int) % 64).toNat) = ((lw (one ((k : Int) + 1))).toNat : Int) := by
  rw [lo_one (by omega) h, show (k : Int) + 1 - 1 = (k : Int) by omega]
theorem one_shl_hi {k : Nat} (h : 65 ≤ (k : Int) + 1) (h2 : (k : Int) + 1 ≤ 128) : IntKind.u64.wrap (2 ^ ((k : Int) % 64).toNat) = ((hw (one ((k : Int) + 1))).toNat : Int) := by
  rw [hi_one (by omega) h2, show (k : Int) + 1 - 1 = (k : Int) by omega]
theorem gOf_set_ne {L : List VS} {i j : Nat} (h : i ≠ j) (hj : j < L.length) (s : VS) : gOf (L.set i s) (j : Int) = gOf L (j : Int) := by
  rw [gOf_nat _ j (by simpa using hj), gOf_nat _ j hj, List.getElem_set, if_neg h]
/-- What linked leaves. -/
def LinkPost (g c : Nat) (L : List VS) (v x : Int) (w : World) (e : Ending) (w' : World) : Prop := e = .returned (.slice (some ⟨g, 0, none⟩) L.length c) ∧ SetRow w' g (linkG L v x) ∧ w.grownBy w' (some g)
set_option maxRecDepth 100000 in
set_option maxHeartbeats 8000000 in
theorem linked_c (g c : Nat) (L : List VS) (v x : Int) (w : World) (hR : SetRow w g L) (hv : 1 ≤ v ∧ v < (L.length : Int)) (hx : 1 ≤ x ∧ x < (L.length : Int)) (_hL : L.length ≤ 140737488355328) :
    Calls Tryd.prog 21 #[.slice (some ⟨g, 0, none⟩) L.length c, .int .i64 v, .int .i64 x] w (LinkPost g c L v x w) := by
  by_cases h0 : v = x ∨ 128 < v ∨ 128 < x
  · have HP := hid (show LinkPost g c L v x w (.returned (.slice (some ⟨g, 0, none⟩) L.length c)) w from ⟨rfl, by rw [linkG_no h0]; exact hR, World.grownBy.refl _ _⟩)
    clear hR
    rcases Decidable.em (v = x) with h1 | h1
    · have e1 : (v == x) = true := by simpa using h1
      clear h1 h0
      go_enter Tryd.func21, Tryd.ntmps21
      go_wp2_with fail
      go_ret
      exact HP.out
    · have e1 : (v == x) = false := by simpa using h1
      rcases Decidable.em (128 < v) with h2 | h2
      · have e2 : decide ((128 : Int) < v) = true := decide_eq_true h2
        clear h1 h0 h2
        go_enter Tryd.func21, Tryd.ntmps21
        go_wp2_with fail
        go_ret
        exact HP.out
      · have e2 : decide ((128 : Int) < v) = false := decide_eq_false h2
        have e3 : decide ((128 : Int) < x) = true := decide_eq_true (by omega)
        clear h1 h0 h2
        go_enter Tryd.func21, Tryd.ntmps21
        go_wp2_with fail
        go_ret
        exact HP.out
  · have e1 : (v == x) = false := by simp; omega
    have e2 : decide ((128 : Int) < v) = false := decide_eq_false (by omega)
    have e3 : decide ((128 : Int) < x) = false := decide_eq_false (by omega)
    have HY := hid (linkG_yes (L := L) h0)
    obtain ⟨kv, rfl⟩ : ∃ kv : Nat, v = (kv : Int) + 1 := ⟨(v - 1).toNat, by omega⟩
    obtain ⟨kx, rfl⟩ : ∃ kx : Nat, x = (kx : Int) + 1 := ⟨(x - 1).toNat, by omega⟩
    have hne : kv ≠ kx := by omega
    have hlv : kv + 1 < L.length := by omega
    have hlx : kx + 1 < L.length := by omega
    have z1 : (0 : Int) ≤ (kv : Int) + 1 ∧ (kv : Int) + 1 < (L.length : Int) := by omega
    have z2 : (0 : Int) ≤ (kx : Int) + 1 ∧ (kx : Int) + 1 < (L.length : Int) := by omega
    have n1 : ¬ (kx + 1) * 2 = (kv + 1) * 2 := by omega
    have n2 : ¬ (kx + 1) * 2 + 1 = (kv + 1) * 2 := by omega
    have n3 : ¬ (kx + 1) * 2 = (kv + 1) * 2 + 1 := by omega
    have n4 : ¬ kx = kv := by omega
    obtain ⟨s, hs, c0, c1, f0, f1⟩ := hR.get (kv + 1) hlv
    obtain ⟨t, ht, d0, d1, g0, g1⟩ := hR.get (kx + 1) hlx
    have q1 : 0 ≤ (kv : Int) ∧ (kv : Int) < 128 := by omega
    have q2 : 0 ≤ (kx : Int) ∧ (kx : Int) < 128 := by omega
    have hJ : joinL L ((kv : Int) + 1) ((kx : Int) + 1) = (L.set (kv + 1) (withV s ((kx : Int) + 1))).set (kx + 1) (withV t ((kv : Int) + 1)) := by
      have t1 : ((kv : Int) + 1).toNat = kv + 1 := by omega
      have t2 : ((kx : Int) + 1).toNat = kx + 1 := by omega
      have hs' : gOf L ((kv : Int) + 1) = s := by rw [← hs]; congr 1
      have ht' : gOf (L.set (kv + 1) (withV s ((kx : Int) + 1))) ((kx : Int) + 1) = t := by
        have := gOf_set_ne (L := L) (i := kv + 1) (j := kx + 1) (by omega) hlx (withV s ((kx : Int) + 1))
        rw [ht] at this; exact this
      unfold joinL
      rw [t1, t2, hs', ht']
    have HJ := hid hJ
    have HS := hid hs
    have HTT := hid ht
    have HLT := hid ht
    clear hJ hs ht hne h0 d0 d1 g0 g1
    have hw0 : IntKind.i64.wrap 0 = 0 := by rfl
    have hw1 : IntKind.i64.wrap 1 = 1 := by rfl
    have hlkv := hlv
    have hlkx := hlx
    have zkv := z1
    have zkx := z2
    by_cases hx64 : (kx : Int) + 1 ≤ 64
    · have cc := c0
      have ff := f0
      have wkx : IntKind.i64.wrap (kx : Int) = kx := by rw [IntKind.wrap_i64]; omega
      have qkx : (kx : Int) / 64 = 0 := by omega
      have rkx : IntKind.i64.wrap ((kx : Int) % 64) = (kx : Int) % 64 := by rw [IntKind.wrap_i64]; omega
      have tmkx : Int.tmod (kx : Int) 64 = (kx : Int) % 64 := Int.tmod_eq_emod_of_nonneg (by omega)
      have hshkx := one_shl_lo (k := kx) (by omega)
      have hst := setRow_word0 (hR.same (w' := w.drew) rfl) (kv + 1) (by simpa using hlkv) (withV s ((kx : Int) + 1)) (by rw [HS.out, hi_withV, hi_one_low (by omega), or64_zero])
      rw [lo_withV] at hst
      have hgr := grownBy_then (grownBy_of_below' ((Below.refl w.heap.size w).drew) (some g)) (Lib.grownBy_setCell w.drew g ((kv + 1) * 2) (.int .u64 ((or64 (lw s) (lw (one ((kx : Int) + 1)))).toNat : Int)))
      have HST := hid hst
      have HGR := hid hgr
      clear hst hgr c0 c1 f0 f1 hR
      go_enter Tryd.func21, Tryd.ntmps21
      go_wp2_with fail
      refine Go.Proofs.YthgkklahiclcpaaDoor.wp_region_L 16 12 (fun w' => w'.cell? ⟨g, (kv + 1) * 2, none⟩ = some (.int .u64 ((lw s).toNat : Int))) (by kernel_rfl) rfl cc (fun hS => ?_)
      refine wpAnyL_pure (i := 0) (v := .slice (some ⟨g, 0, none⟩) L.length c) (by simp only [List.getElem?_toArray, List.getElem?_cons_zero] <;> rfl) (by kernel_rfl) (by kernel_rfl) (by kernel_rfl) (by exact fun _ _ _ h => h) (by decide) hS (Or.inl ⟨by rfl, fun w _ => (by simp [execOp, go_sem, Act.eval])⟩) (fun hS => ?_)
      simp only [Act.put, List.setIfInBounds_toArray, List.set_cons_zero, List.set_cons_succ]
      refine wpAnyL_pure (i := 1) (v := .int .i64 ((kv : Int) + 1)) (by simp only [List.getElem?_toArray, List.getElem?_cons_zero, List.getElem?_cons_succ] <;> rfl) (by kernel_rfl) (by kernel_rfl) (by kernel_rfl) (by exact fun _ _ _ h => h) (by decide) hS (Or.inl ⟨by rfl, fun w _ => (by simp [execOp, go_sem, Act.eval])⟩) (fun hS => ?_)
      simp only [Act.put, List.setIfInBounds_toArray, List.set_cons_zero, List.set_cons_succ]
      refine wpAnyL_pure (i := 2) (v := .int .i64 ((kx : Int) + 1)) (by simp only [List.getElem?_toArray, List.getElem?_cons_zero, List.getElem?_cons_succ] <;> rfl) (by kernel_rfl) (by kernel_rfl) (by kernel_rfl) (by exact fun _ _ _ h => h) (by decide) hS (Or.inl ⟨by rfl, fun w _ => (by simp [execOp, go_sem, Act.eval])⟩) (fun hS => ?_)
      simp only [Act.put, List.setIfInBounds_toArray, List.set_cons_zero, List.set_cons_succ]
      refine wpAnyL_pure (i := 3) (v := .int .i64 (kx : Int)) (by simp only [List.getElem?_toArray, List.getElem?_cons_zero, List.getElem?_cons_succ] <;> rfl) (by kernel_rfl) (by kernel_rfl) (by kernel_rfl) (by exact fun _ _ _ h => h) (by decide) hS (Or.inl ⟨by rfl, fun w _ => (by simp [execOp, go_sem, Act.eval, wkx])⟩) (fun hS => ?_)
      simp only [Act.put, List.setIfInBounds_toArray, List.set_cons_zero, List.set_cons_succ]
      refine wpAnyL_pure (i := 4) (v := .int .i64 0) (by simp only [List.getElem?_toArray, List.getElem?_cons_zero, List.getElem?_cons_succ] <;> rfl) (by kernel_rfl) (by kernel_rfl) (by kernel_rfl) (by exact fun _ _ _ h => h) (by decide) hS (Or.inl ⟨by rfl, fun w _ => (by simp [execOp, go_sem, Act.eval, qkx, hw0])⟩) (fun hS => ?_)
      simp only [Act.put, List.setIfInBounds_toArray, List.set_cons_zero, List.set_cons_succ]
      refine wpAnyL_pure (i := 5) (v := .pointer (some ⟨g, (kv + 1) * 2, none⟩)) (by simp only [List.getElem?_toArray, List.getElem?_cons_zero, List.getElem?_cons_succ] <;> rfl) (by kernel_rfl) (by kernel_rfl) (by kernel_rfl) (by exact fun _ _ _ h => h) (by decide) hS (Or.inl ⟨by rfl, fun w _ => (by simp [execOp, go_sem, Act.eval, zkv])⟩) (fun hS => ?_)
      simp only [Act.put, List.setIfInBounds_toArray, List.set_cons_zero, List.set_cons_succ]
      refine wpAnyL_pure (i := 6) (v := .pointer (some ⟨g, (kv + 1) * 2, none⟩)) (by simp only [List.getElem?_toArray, List.getElem?_cons_zero, List.getElem?_cons_succ] <;> rfl) (by kernel_rfl) (by kernel_rfl) (by kernel_rfl) (by exact fun _ _ _ h => h) (by decide) hS (Or.inl ⟨by rfl, fun w _ => (by simp [execOp, go_sem, Act.eval])⟩) (fun hS => ?_)
      simp only [Act.put, List.setIfInBounds_toArray, List.set_cons_zero, List.set_cons_succ]
      refine wpAnyL_load (i := 7) (v := .int .u64 ((lw s).toNat : Int)) (by simp only [List.getElem?_toArray, List.getElem?_cons_zero, List.getElem?_cons_succ] <;> rfl) (by kernel_rfl) (by kernel_rfl) (by kernel_rfl) (by exact fun _ _ _ h => h) (by decide) ⟨_, rfl, ⟨7, .data⟩, by simp, rfl, rfl⟩ (by kernel_rfl) hS (Or.inl ⟨by rfl, fun w hw => (by have x0 := hw; simp [execOp, go_sem, Act.eval, x0])⟩) (fun hS => ?_)
      simp only [Act.put, List.setIfInBounds_toArray, List.set_cons_zero, List.set_cons_succ]
      refine wpAnyL_pure (i := 8) (v := .int .i64 ((kx : Int) + 1)) (by simp only [List.getElem?_toArray, List.getElem?_cons_zero, List.getElem?_cons_succ] <;> rfl) (by kernel_rfl) (by kernel_rfl) (by kernel_rfl) (by exact fun _ _ _ h => h) (by decide) hS (Or.inl ⟨by rfl, fun w _ => (by simp [execOp, go_sem, Act.eval])⟩) (fun hS => ?_)
      simp only [Act.put, List.setIfInBounds_toArray, List.set_cons_zero, List.set_cons_succ]
      refine wpAnyL_pure (i := 9) (v := .int .i64 (kx : Int)) (by simp only [List.getElem?_toArray, List.getElem?_cons_zero, List.getElem?_cons_succ] <;> rfl) (by kernel_rfl) (by kernel_rfl) (by kernel_rfl) (by exact fun _ _ _ h => h) (by decide) hS (Or.inl ⟨by rfl, fun w _ => (by simp [execOp, go_sem, Act.eval, wkx])⟩) (fun hS => ?_)
      simp only [Act.put, List.setIfInBounds_toArray, List.set_cons_zero, List.set_cons_succ]
      refine wpAnyL_pure (i := 10) (v := .int .i64 ((kx : Int) % 64)) (by simp only [List.getElem?_toArray, List.getElem?_cons_zero, List.getElem?_cons_succ] <;> rfl) (by kernel_rfl) (by kernel_rfl) (by kernel_rfl) (by exact fun _ _ _ h => h) (by decide) hS (Or.inl ⟨by rfl, fun w _ => (by simp [execOp, go_sem, Act.eval, tmkx])⟩) (fun hS => ?_)
      simp only [Act.put, List.setIfInBounds_toArray, List.set_cons_zero, List.set_cons_succ]
      refine wpAnyL_pure (i := 11) (v := .int .u64 ((lw (one ((kx : Int) + 1))).toNat : Int)) (by simp only [List.getElem?_toArray, List.getElem?_cons_zero, List.getElem?_cons_succ] <;> rfl) (by kernel_rfl) (by kernel_rfl) (by kernel_rfl) (by exact fun _ _ _ h => h) (by decide) hS (Or.inl ⟨by rfl, fun w _ => (by simp [execOp, go_sem, Act.eval, hshkx])⟩) (fun hS => ?_)
      simp only [Act.put, List.setIfInBounds_toArray, List.set_cons_zero, List.set_cons_succ]
      refine wpAnyL_pure (i := 13) (v := .pointer (some ⟨g, (kv + 1) * 2, none⟩)) (by simp only [List.getElem?_toArray, List.getElem?_cons_zero, List.getElem?_cons_succ] <;> rfl) (by kernel_rfl) (by kernel_rfl) (by kernel_rfl) (by exact fun _ _ _ h => h) (by decide) hS (Or.inl ⟨by rfl, fun w _ => (by simp [execOp, go_sem, Act.eval, zkv])⟩) (fun hS => ?_)
      simp only [Act.put, List.setIfInBounds_toArray, List.set_cons_zero, List.set_cons_succ]
      refine wpAnyL_one (i := 12) (by kernel_rfl) (by simp only [List.getElem?_toArray, List.getElem?_cons_zero, List.getElem?_cons_succ] <;> rfl) (by rfl) ?_
      refine opwp_value (v := .int .u64 ((or64 (lw s) (lw (one ((kx : Int) + 1)))).toNat : Int)) (w' := w.drew) (by simp [execOp, go_sem, Act.eval, bits_or]) ⟨.inl (by kernel_rfl), ?_⟩
      simp only [Act.put, List.setIfInBounds_toArray, List.set_cons_zero, List.set_cons_succ]
      refine wpAnyL_one (i := 14) (by kernel_rfl) (by simp only [List.getElem?_toArray, List.getElem?_cons_zero, List.getElem?_cons_succ] <;> rfl) (by rfl) ?_
      refine opwp_value (v := .pointer (some ⟨g, (kv + 1) * 2, none⟩)) (w' := w.drew) (by simp [execOp, go_sem, Act.eval]) ⟨.inl (by kernel_rfl), ?_⟩
      simp only [Act.put, List.setIfInBounds_toArray, List.set_cons_zero, List.set_cons_succ]
      refine wpAnyL_one (i := 15) (by kernel_rfl) (by simp only [List.getElem?_toArray, List.getElem?_cons_zero, List.getElem?_cons_succ] <;> rfl) (by rfl) ?_
      refine opwp_skip (w' := w.drew.setCell ⟨g, (kv + 1) * 2, none⟩ (.int .u64 ((or64 (lw s) (lw (one ((kx : Int) + 1)))).toNat : Int))) (by simp [execOp, go_sem, Act.eval, cc, ff]) ⟨.inl (by kernel_rfl), ?_⟩
      simp only [Act.put]
      refine wpAnyL_done (by kernel_rfl) ?_ _
      generalize w.drew.setCell ⟨g, (kv + 1) * 2, none⟩ (.int .u64 ((or64 (lw s) (lw (one ((kx : Int) + 1)))).toNat : Int)) = w1 at *
      obtain ⟨t1, ht1, d0, d1, g0, g1⟩ := HST.out.get (kx + 1) (by simpa using hlx)
      obtain rfl : t = t1 := by rw [← ht1, gOf_set_ne (L := L) (i := kv + 1) (j := kx + 1) (by omega) hlx]; exact HTT.out.symm
      have HT1 := hid ht1
      clear ht1 cc ff hS wkx qkx rkx hshkx tmkx
      by_cases hv64 : (kv : Int) + 1 ≤ 64
      · have cc := d0
        have ff := g0
        have wkv : IntKind.i64.wrap (kv : Int) = kv := by rw [IntKind.wrap_i64]; omega
        have qkv : (kv : Int) / 64 = 0 := by omega
        have rkv : IntKind.i64.wrap ((kv : Int) % 64) = (kv : Int) % 64 := by rw [IntKind.wrap_i64]; omega
        have tmkv : Int.tmod (kv : Int) 64 = (kv : Int) % 64 := Int.tmod_eq_emod_of_nonneg (by omega)
        have hshkv := one_shl_lo (k := kv) (by omega)
        have hst := setRow_word0 (HST.out.same (w' := w1.drew) rfl) (kx + 1) (by simpa using hlkx) (withV t ((kv : Int) + 1)) (by rw [HT1.out, hi_withV, hi_one_low (by omega), or64_zero])
        rw [lo_withV] at hst
        rw [← HJ.out, ← HY.out] at hst
        have hgr := grownBy_then (grownBy_then HGR.out (grownBy_of_below' ((Below.refl w1.heap.size w1).drew) (some g))) (Lib.grownBy_setCell w1.drew g ((kx + 1) * 2) (.int .u64 ((or64 (lw t) (lw (one ((kv : Int) + 1)))).toNat : Int)))
        have HST2 := hid hst
        have HGR2 := hid hgr
        clear hst hgr d0 d1 g0 g1
        go_wp2_with fail
        refine Go.Proofs.YthgkklahiclcpaaDoor.wp_region_L 16 12 (fun w' => w'.cell? ⟨g, (kx + 1) * 2, none⟩ = some (.int .u64 ((lw t).toNat : Int))) (by kernel_rfl) rfl cc (fun hS => ?_)
        refine wpAnyL_pure (i := 0) (v := .slice (some ⟨g, 0, none⟩) L.length c) (by simp only [List.getElem?_toArray, List.getElem?_cons_zero] <;> rfl) (by kernel_rfl) (by kernel_rfl) (by kernel_rfl) (by exact fun _ _ _ h => h) (by decide) hS (Or.inl ⟨by rfl, fun w _ => (by simp [execOp, go_sem, Act.eval])⟩) (fun hS => ?_)
        simp only [Act.put, List.setIfInBounds_toArray, List.set_cons_zero, List.set_cons_succ]
        refine wpAnyL_pure (i := 1) (v := .int .i64 ((kx : Int) + 1)) (by simp only [List.getElem?_toArray, List.getElem?_cons_zero, List.getElem?_cons_succ] <;> rfl) (by kernel_rfl) (by kernel_rfl) (by kernel_rfl) (by exact fun _ _ _ h => h) (by decide) hS (Or.inl ⟨by rfl, fun w _ => (by simp [execOp, go_sem, Act.eval])⟩) (fun hS => ?_)
        simp only [Act.put, List.setIfInBounds_toArray, List.set_cons_zero, List.set_cons_succ]
        refine wpAnyL_pure (i := 2) (v := .int .i64 ((kv : Int) + 1)) (by simp only [List.getElem?_toArray, List.getElem?_cons_zero, List.getElem?_cons_succ] <;> rfl) (by kernel_rfl) (by kernel_rfl) (by kernel_rfl) (by exact fun _ _ _ h => h) (by decide) hS (Or.inl ⟨by rfl, fun w _ => (by simp [execOp, go_sem, Act.eval])⟩) (fun hS => ?_)
        simp only [Act.put, List.setIfInBounds_toArray, List.set_cons_zero, List.set_cons_succ]
        refine wpAnyL_pure (i := 3) (v := .int .i64 (kv : Int)) (by simp only [List.getElem?_toArray, List.getElem?_cons_zero, List.getElem?_cons_succ] <;> rfl) (by kernel_rfl) (by kernel_rfl) (by kernel_rfl) (by exact fun _ _ _ h => h) (by decide) hS (Or.inl ⟨by rfl, fun w _ => (by simp [execOp, go_sem, Act.eval, wkv])⟩) (fun hS => ?_)
        simp only [Act.put, List.setIfInBounds_toArray, List.set_cons_zero, List.set_cons_succ]
        refine wpAnyL_pure (i := 4) (v := .int .i64 0) (by simp only [List.getElem?_toArray, List.getElem?_cons_zero, List.getElem?_cons_succ] <;> rfl) (by kernel_rfl) (by kernel_rfl) (by kernel_rfl) (by exact fun _ _ _ h => h) (by decide) hS (Or.inl ⟨by rfl, fun w _ => (by simp [execOp, go_sem, Act.eval, qkv, hw0])⟩) (fun hS => ?_)
        simp only [Act.put, List.setIfInBounds_toArray, List.set_cons_zero, List.set_cons_succ]
        refine wpAnyL_pure (i := 5) (v := .pointer (some ⟨g, (kx + 1) * 2, none⟩)) (by simp only [List.getElem?_toArray, List.getElem?_cons_zero, List.getElem?_cons_succ] <;> rfl) (by kernel_rfl) (by kernel_rfl) (by kernel_rfl) (by exact fun _ _ _ h => h) (by decide) hS (Or.inl ⟨by rfl, fun w _ => (by simp [execOp, go_sem, Act.eval, zkx])⟩) (fun hS => ?_)
        simp only [Act.put, List.setIfInBounds_toArray, List.set_cons_zero, List.set_cons_succ]
        refine wpAnyL_pure (i := 6) (v := .pointer (some ⟨g, (kx + 1) * 2, none⟩)) (by simp only [List.getElem?_toArray, List.getElem?_cons_zero, List.getElem?_cons_succ] <;> rfl) (by kernel_rfl) (by kernel_rfl) (by kernel_rfl) (by exact fun _ _ _ h => h) (by decide) hS (Or.inl ⟨by rfl, fun w _ => (by simp [execOp, go_sem, Act.eval])⟩) (fun hS => ?_)
        simp only [Act.put, List.setIfInBounds_toArray, List.set_cons_zero, List.set_cons_succ]
        refine wpAnyL_load (i := 7) (v := .int .u64 ((lw t).toNat : Int)) (by simp only [List.getElem?_toArray, List.getElem?_cons_zero, List.getElem?_cons_succ] <;> rfl) (by kernel_rfl) (by kernel_rfl) (by kernel_rfl) (by exact fun _ _ _ h => h) (by decide) ⟨_, rfl, ⟨7, .data⟩, by simp, rfl, rfl⟩ (by kernel_rfl) hS (Or.inl ⟨by rfl, fun w hw => (by have x0 := hw; simp [execOp, go_sem, Act.eval, x0])⟩) (fun hS => ?_)
        simp only [Act.put, List.setIfInBounds_toArray, List.set_cons_zero, List.set_cons_succ]
        refine wpAnyL_pure (i := 8) (v := .int .i64 ((kv : Int) + 1)) (by simp only [List.getElem?_toArray, List.getElem?_cons_zero, List.getElem?_cons_succ] <;> rfl) (by kernel_rfl) (by kernel_rfl) (by kernel_rfl) (by exact fun _ _ _ h => h) (by decide) hS (Or.inl ⟨by rfl, fun w _ => (by simp [execOp, go_sem, Act.eval])⟩) (fun hS => ?_)
        simp only [Act.put, List.setIfInBounds_toArray, List.set_cons_zero, List.set_cons_succ]
        refine wpAnyL_pure (i := 9) (v := .int .i64 (kv : Int)) (by simp only [List.getElem?_toArray, List.getElem?_cons_zero, List.getElem?_cons_succ] <;> rfl) (by kernel_rfl) (by kernel_rfl) (by kernel_rfl) (by exact fun _ _ _ h => h) (by decide) hS (Or.inl ⟨by rfl, fun w _ => (by simp [execOp, go_sem, Act.eval, wkv])⟩) (fun hS => ?_)
        simp only [Act.put, List.setIfInBounds_toArray, List.set_cons_zero, List.set_cons_succ]
        refine wpAnyL_pure (i := 10) (v := .int .i64 ((kv : Int) % 64)) (by simp only [List.getElem?_toArray, List.getElem?_cons_zero, List.getElem?_cons_succ] <;> rfl) (by kernel_rfl) (by kernel_rfl) (by kernel_rfl) (by exact fun _ _ _ h => h) (by decide) hS (Or.inl ⟨by rfl, fun w _ => (by simp [execOp, go_sem, Act.eval, tmkv])⟩) (fun hS => ?_)
        simp only [Act.put, List.setIfInBounds_toArray, List.set_cons_zero, List.set_cons_succ]
        refine wpAnyL_pure (i := 11) (v := .int .u64 ((lw (one ((kv : Int) + 1))).toNat : Int)) (by simp only [List.getElem?_toArray, List.getElem?_cons_zero, List.getElem?_cons_succ] <;> rfl) (by kernel_rfl) (by kernel_rfl) (by kernel_rfl) (by exact fun _ _ _ h => h) (by decide) hS (Or.inl ⟨by rfl, fun w _ => (by simp [execOp, go_sem, Act.eval, hshkv])⟩) (fun hS => ?_)
        simp only [Act.put, List.setIfInBounds_toArray, List.set_cons_zero, List.set_cons_succ]
        refine wpAnyL_pure (i := 13) (v := .pointer (some ⟨g, (kx + 1) * 2, none⟩)) (by simp only [List.getElem?_toArray, List.getElem?_cons_zero, List.getElem?_cons_succ] <;> rfl) (by kernel_rfl) (by kernel_rfl) (by kernel_rfl) (by exact fun _ _ _ h => h) (by decide) hS (Or.inl ⟨by rfl, fun w _ => (by simp [execOp, go_sem, Act.eval, zkx])⟩) (fun hS => ?_)
        simp only [Act.put, List.setIfInBounds_toArray, List.set_cons_zero, List.set_cons_succ]
        refine wpAnyL_one (i := 12) (by kernel_rfl) (by simp only [List.getElem?_toArray, List.getElem?_cons_zero, List.getElem?_cons_succ] <;> rfl) (by rfl) ?_
        refine opwp_value (v := .int .u64 ((or64 (lw t) (lw (one ((kv : Int) + 1)))).toNat : Int)) (w' := w1.drew) (by simp [execOp, go_sem, Act.eval, bits_or]) ⟨.inl (by kernel_rfl), ?_⟩
        simp only [Act.put, List.setIfInBounds_toArray, List.set_cons_zero, List.set_cons_succ]
        refine wpAnyL_one (i := 14) (by kernel_rfl) (by simp only [List.getElem?_toArray, List.getElem?_cons_zero, List.getElem?_cons_succ] <;> rfl) (by rfl) ?_
        refine opwp_value (v := .pointer (some ⟨g, (kx + 1) * 2, none⟩)) (w' := w1.drew) (by simp [execOp, go_sem, Act.eval]) ⟨.inl (by kernel_rfl), ?_⟩
        simp only [Act.put, List.setIfInBounds_toArray, List.set_cons_zero, List.set_cons_succ]
        refine wpAnyL_one (i := 15) (by kernel_rfl) (by simp only [List.getElem?_toArray, List.getElem?_cons_zero, List.getElem?_cons_succ] <;> rfl) (by rfl) ?_
        refine opwp_skip (w' := w1.drew.setCell ⟨g, (kx + 1) * 2, none⟩ (.int .u64 ((or64 (lw t) (lw (one ((kv : Int) + 1)))).toNat : Int))) (by simp [execOp, go_sem, Act.eval, cc, ff]) ⟨.inl (by kernel_rfl), ?_⟩
        simp only [Act.put]
        refine wpAnyL_done (by kernel_rfl) ?_ _
        go_wp2_with fail
        go_ret
        exact ⟨rfl, HST2.out, HGR2.out⟩
      · have cc := d1
        have ff := g1
        have wkv : IntKind.i64.wrap (kv : Int) = kv := by rw [IntKind.wrap_i64]; omega
        have qkv : (kv : Int) / 64 = 1 := by omega
        have rkv : IntKind.i64.wrap ((kv : Int) % 64) = (kv : Int) % 64 := by rw [IntKind.wrap_i64]; omega
        have tmkv : Int.tmod (kv : Int) 64 = (kv : Int) % 64 := Int.tmod_eq_emod_of_nonneg (by omega)
        have hshkv := one_shl_hi (k := kv) (by omega) (by omega)
        have hst := setRow_word1 (HST.out.same (w' := w1.drew) rfl) (kx + 1) (by simpa using hlkx) (withV t ((kv : Int) + 1)) (by rw [HT1.out, lo_withV, lo_one_high (by omega), or64_zero])
        rw [hi_withV] at hst
        rw [← HJ.out, ← HY.out] at hst
        have hgr := grownBy_then (grownBy_then HGR.out (grownBy_of_below' ((Below.refl w1.heap.size w1).drew) (some g))) (Lib.grownBy_setCell w1.drew g ((kx + 1) * 2 + 1) (.int .u64 ((or64 (hw t) (hw (one ((kv : Int) + 1)))).toNat : Int)))
        have HST2 := hid hst
        have HGR2 := hid hgr
        clear hst hgr d0 d1 g0 g1
        go_wp2_with fail
        refine Go.Proofs.YthgkklahiclcpaaDoor.wp_region_L 16 12 (fun w' => w'.cell? ⟨g, (kx + 1) * 2 + 1, none⟩ = some (.int .u64 ((hw t).toNat : Int))) (by kernel_rfl) rfl cc (fun hS => ?_)
        refine wpAnyL_pure (i := 0) (v := .slice (some ⟨g, 0, none⟩) L.length c) (by simp only [List.getElem?_toArray, List.getElem?_cons_zero] <;> rfl) (by kernel_rfl) (by kernel_rfl) (by kernel_rfl) (by exact fun _ _ _ h => h) (by decide) hS (Or.inl ⟨by rfl, fun w _ => (by simp [execOp, go_sem, Act.eval])⟩) (fun hS => ?_)
        simp only [Act.put, List.setIfInBounds_toArray, List.set_cons_zero, List.set_cons_succ]
        refine wpAnyL_pure (i := 1) (v := .int .i64 ((kx : Int) + 1)) (by simp only [List.getElem?_toArray, List.getElem?_cons_zero, List.getElem?_cons_succ] <;> rfl) (by kernel_rfl) (by kernel_rfl) (by kernel_rfl) (by exact fun _ _ _ h => h) (by decide) hS (Or.inl ⟨by rfl, fun w _ => (by simp [execOp, go_sem, Act.eval])⟩) (fun hS => ?_)
        simp only [Act.put, List.setIfInBounds_toArray, List.set_cons_zero, List.set_cons_succ]
        refine wpAnyL_pure (i := 2) (v := .int .i64 ((kv : Int) + 1)) (by simp only [List.getElem?_toArray, List.getElem?_cons_zero, List.getElem?_cons_succ] <;> rfl) (by kernel_rfl) (by kernel_rfl) (by kernel_rfl) (by exact fun _ _ _ h => h) (by decide) hS (Or.inl ⟨by rfl, fun w _ => (by simp [execOp, go_sem, Act.eval])⟩) (fun hS => ?_)
        simp only [Act.put, List.setIfInBounds_toArray, List.set_cons_zero, List.set_cons_succ]
        refine wpAnyL_pure (i := 3) (v := .int .i64 (kv : Int)) (by simp only [List.getElem?_toArray, List.getElem?_cons_zero, List.getElem?_cons_succ] <;> rfl) (by kernel_rfl) (by kernel_rfl) (by kernel_rfl) (by exact fun _ _ _ h => h) (by decide) hS (Or.inl ⟨by rfl, fun w _ => (by simp [execOp, go_sem, Act.eval, wkv])⟩) (fun hS => ?_)
        simp only [Act.put, List.setIfInBounds_toArray, List.set_cons_zero, List.set_cons_succ]
        refine wpAnyL_pure (i := 4) (v := .int .i64 1) (by simp only [List.getElem?_toArray, List.getElem?_cons_zero, List.getElem?_cons_succ] <;> rfl) (by kernel_rfl) (by kernel_rfl) (by kernel_rfl) (by exact fun _ _ _ h => h) (by decide) hS (Or.inl ⟨by rfl, fun w _ => (by simp [execOp, go_sem, Act.eval, qkv, hw1])⟩) (fun hS => ?_)
        simp only [Act.put, List.setIfInBounds_toArray, List.set_cons_zero, List.set_cons_succ]
        refine wpAnyL_pure (i := 5) (v := .pointer (some ⟨g, (kx + 1) * 2, none⟩)) (by simp only [List.getElem?_toArray, List.getElem?_cons_zero, List.getElem?_cons_succ] <;> rfl) (by kernel_rfl) (by kernel_rfl) (by kernel_rfl) (by exact fun _ _ _ h => h) (by decide) hS (Or.inl ⟨by rfl, fun w _ => (by simp [execOp, go_sem, Act.eval, zkx])⟩) (fun hS => ?_)
        simp only [Act.put, List.setIfInBounds_toArray, List.set_cons_zero, List.set_cons_succ]
        refine wpAnyL_pure (i := 6) (v := .pointer (some ⟨g, (kx + 1) * 2 + 1, none⟩)) (by simp only [List.getElem?_toArray, List.getElem?_cons_zero, List.getElem?_cons_succ] <;> rfl) (by kernel_rfl) (by kernel_rfl) (by kernel_rfl) (by exact fun _ _ _ h => h) (by decide) hS (Or.inl ⟨by rfl, fun w _ => (by simp [execOp, go_sem, Act.eval])⟩) (fun hS => ?_)
        simp only [Act.put, List.setIfInBounds_toArray, List.set_cons_zero, List.set_cons_succ]
        refine wpAnyL_load (i := 7) (v := .int .u64 ((hw t).toNat : Int)) (by simp only [List.getElem?_toArray, List.getElem?_cons_zero, List.getElem?_cons_succ] <;> rfl) (by kernel_rfl) (by kernel_rfl) (by kernel_rfl) (by exact fun _ _ _ h => h) (by decide) ⟨_, rfl, ⟨7, .data⟩, by simp, rfl, rfl⟩ (by kernel_rfl) hS (Or.inl ⟨by rfl, fun w hw => (by have x0 := hw; simp [execOp, go_sem, Act.eval, x0])⟩) (fun hS => ?_)
        simp only [Act.put, List.setIfInBounds_toArray, List.set_cons_zero, List.set_cons_succ]
        refine wpAnyL_pure (i := 8) (v := .int .i64 ((kv : Int) + 1)) (by simp only [List.getElem?_toArray, List.getElem?_cons_zero, List.getElem?_cons_succ] <;> rfl) (by kernel_rfl) (by kernel_rfl) (by kernel_rfl) (by exact fun _ _ _ h => h) (by decide) hS (Or.inl ⟨by rfl, fun w _ => (by simp [execOp, go_sem, Act.eval])⟩) (fun hS => ?_)
        simp only [Act.put, List.setIfInBounds_toArray, List.set_cons_zero, List.set_cons_succ]
        refine wpAnyL_pure (i := 9) (v := .int .i64 (kv : Int)) (by simp only [List.getElem?_toArray, List.getElem?_cons_zero, List.getElem?_cons_succ] <;> rfl) (by kernel_rfl) (by kernel_rfl) (by kernel_rfl) (by exact fun _ _ _ h => h) (by decide) hS (Or.inl ⟨by rfl, fun w _ => (by simp [execOp, go_sem, Act.eval, wkv])⟩) (fun hS => ?_)
        simp only [Act.put, List.setIfInBounds_toArray, List.set_cons_zero, List.set_cons_succ]
        refine wpAnyL_pure (i := 10) (v := .int .i64 ((kv : Int) % 64)) (by simp only [List.getElem?_toArray, List.getElem?_cons_zero, List.getElem?_cons_succ] <;> rfl) (by kernel_rfl) (by kernel_rfl) (by kernel_rfl) (by exact fun _ _ _ h => h) (by decide) hS (Or.inl ⟨by rfl, fun w _ => (by simp [execOp, go_sem, Act.eval, tmkv])⟩) (fun hS => ?_)
        simp only [Act.put, List.setIfInBounds_toArray, List.set_cons_zero, List.set_cons_succ]
        refine wpAnyL_pure (i := 11) (v := .int .u64 ((hw (one ((kv : Int) + 1))).toNat : Int)) (by simp only [List.getElem?_toArray, List.getElem?_cons_zero, List.getElem?_cons_succ] <;> rfl) (by kernel_rfl) (by kernel_rfl) (by kernel_rfl) (by exact fun _ _ _ h => h) (by decide) hS (Or.inl ⟨by rfl, fun w _ => (by simp [execOp, go_sem, Act.eval, hshkv])⟩) (fun hS => ?_)
        simp only [Act.put, List.setIfInBounds_toArray, List.set_cons_zero, List.set_cons_succ]
        refine wpAnyL_pure (i := 13) (v := .pointer (some ⟨g, (kx + 1) * 2, none⟩)) (by simp only [List.getElem?_toArray, List.getElem?_cons_zero, List.getElem?_cons_succ] <;> rfl) (by kernel_rfl) (by kernel_rfl) (by kernel_rfl) (by exact fun _ _ _ h => h) (by decide) hS (Or.inl ⟨by rfl, fun w _ => (by simp [execOp, go_sem, Act.eval, zkx])⟩) (fun hS => ?_)
        simp only [Act.put, List.setIfInBounds_toArray, List.set_cons_zero, List.set_cons_succ]
        refine wpAnyL_one (i := 12) (by kernel_rfl) (by simp only [List.getElem?_toArray, List.getElem?_cons_zero, List.getElem?_cons_succ] <;> rfl) (by rfl) ?_
        refine opwp_value (v := .int .u64 ((or64 (hw t) (hw (one ((kv : Int) + 1)))).toNat : Int)) (w' := w1.drew) (by simp [execOp, go_sem, Act.eval, bits_or]) ⟨.inl (by kernel_rfl), ?_⟩
        simp only [Act.put, List.setIfInBounds_toArray, List.set_cons_zero, List.set_cons_succ]
        refine wpAnyL_one (i := 14) (by kernel_rfl) (by simp only [List.getElem?_toArray, List.getElem?_cons_zero, List.getElem?_cons_succ] <;> rfl) (by rfl) ?_
        refine opwp_value (v := .pointer (some ⟨g, (kx + 1) * 2 + 1, none⟩)) (w' := w1.drew) (by simp [execOp, go_sem, Act.eval]) ⟨.inl (by kernel_rfl), ?_⟩
        simp only [Act.put, List.setIfInBounds_toArray, List.set_cons_zero, List.set_cons_succ]
        refine wpAnyL_one (i := 15) (by kernel_rfl) (by simp only [List.getElem?_toArray, List.getElem?_cons_zero, List.getElem?_cons_succ] <;> rfl) (by rfl) ?_
        refine opwp_skip (w' := w1.drew.setCell ⟨g, (kx + 1) * 2 + 1, none⟩ (.int .u64 ((or64 (hw t) (hw (one ((kv : Int) + 1)))).toNat : Int))) (by simp [execOp, go_sem, Act.eval, cc, ff]) ⟨.inl (by kernel_rfl), ?_⟩
        simp only [Act.put]
        refine wpAnyL_done (by kernel_rfl) ?_ _
        go_wp2_with fail
        go_ret
        exact ⟨rfl, HST2.out, HGR2.out⟩
    · have cc := c1
      have ff := f1
      have wkx : IntKind.i64.wrap (kx : Int) = kx := by rw [IntKind.wrap_i64]; omega
      have qkx : (kx : Int) / 64 = 1 := by omega
      have rkx : IntKind.i64.wrap ((kx : Int) % 64) = (kx : Int) % 64 := by rw [IntKind.wrap_i64]; omega
      have tmkx : Int.tmod (kx : Int) 64 = (kx : Int) % 64 := Int.tmod_eq_emod_of_nonneg (by omega)
      have hshkx := one_shl_hi (k := kx) (by omega) (by omega)
      have hst := setRow_word1 (hR.same (w' := w.drew) rfl) (kv + 1) (by simpa using hlkv) (withV s ((kx : Int) + 1)) (by rw [HS.out, lo_withV, lo_one_high (by omega), or64_zero])
      rw [hi_withV] at hst
      have hgr := grownBy_then (grownBy_of_below' ((Below.refl w.heap.size w).drew) (some g)) (Lib.grownBy_setCell w.drew g ((kv + 1) * 2 + 1) (.int .u64 ((or64 (hw s) (hw (one ((kx : Int) + 1)))).toNat : Int)))
      have HST := hid hst
      have HGR := hid hgr
      clear hst hgr c0 c1 f0 f1 hR
      go_enter Tryd.func21, Tryd.ntmps21
      go_wp2_with fail
      refine Go.Proofs.YthgkklahiclcpaaDoor.wp_region_L 16 12 (fun w' => w'.cell? ⟨g, (kv + 1) * 2 + 1, none⟩ = some (.int .u64 ((hw s).toNat : Int))) (by kernel_rfl) rfl cc (fun hS => ?_)
      refine wpAnyL_pure (i := 0) (v := .slice (some ⟨g, 0, none⟩) L.length c) (by simp only [List.getElem?_toArray, List.getElem?_cons_zero] <;> rfl) (by kernel_rfl) (by kernel_rfl) (by kernel_rfl) (by exact fun _ _ _ h => h) (by decide) hS (Or.inl ⟨by rfl, fun w _ => (by simp [execOp, go_sem, Act.eval])⟩) (fun hS => ?_)
      simp only [Act.put, List.setIfInBounds_toArray, List.set_cons_zero, List.set_cons_succ]
      refine wpAnyL_pure (i := 1) (v := .int .i64 ((kv : Int) + 1)) (by simp only [List.getElem?_toArray, List.getElem?_cons_zero, List.getElem?_cons_succ] <;> rfl) (by kernel_rfl) (by kernel_rfl) (by kernel_rfl) (by exact fun _ _ _ h => h) (by decide) hS (Or.inl ⟨by rfl, fun w _ => (by simp [execOp, go_sem, Act.eval])⟩) (fun hS => ?_)
      simp only [Act.put, List.setIfInBounds_toArray, List.set_cons_zero, List.set_cons_succ]
      refine wpAnyL_pure (i := 2) (v := .int .i64 ((kx : Int) + 1)) (by simp only [List.getElem?_toArray, List.getElem?_cons_zero, List.getElem?_cons_succ] <;> rfl) (by kernel_rfl) (by kernel_rfl) (by kernel_rfl) (by exact fun _ _ _ h => h) (by decide) hS (Or.inl ⟨by rfl, fun w _ => (by simp [execOp, go_sem, Act.eval])⟩) (fun hS => ?_)
      simp only [Act.put, List.setIfInBounds_toArray, List.set_cons_zero, List.set_cons_succ]
      refine wpAnyL_pure (i := 3) (v := .int .i64 (kx : Int)) (by simp only [List.getElem?_toArray, List.getElem?_cons_zero, List.getElem?_cons_succ] <;> rfl) (by kernel_rfl) (by kernel_rfl) (by kernel_rfl) (by exact fun _ _ _ h => h) (by decide) hS (Or.inl ⟨by rfl, fun w _ => (by simp [execOp, go_sem, Act.eval, wkx])⟩) (fun hS => ?_)
      simp only [Act.put, List.setIfInBounds_toArray, List.set_cons_zero, List.set_cons_succ]
      refine wpAnyL_pure (i := 4) (v := .int .i64 1) (by simp only [List.getElem?_toArray, List.getElem?_cons_zero, List.getElem?_cons_succ] <;> rfl) (by kernel_rfl) (by kernel_rfl) (by kernel_rfl) (by exact fun _ _ _ h => h) (by decide) hS (Or.inl ⟨by rfl, fun w _ => (by simp [execOp, go_sem, Act.eval, qkx, hw1])⟩) (fun hS => ?_)
      simp only [Act.put, List.setIfInBounds_toArray, List.set_cons_zero, List.set_cons_succ]
      refine wpAnyL_pure (i := 5) (v := .pointer (some ⟨g, (kv + 1) * 2, none⟩)) (by simp only [List.getElem?_toArray, List.getElem?_cons_zero, List.getElem?_cons_succ] <;> rfl) (by kernel_rfl) (by kernel_rfl) (by kernel_rfl) (by exact fun _ _ _ h => h) (by decide) hS (Or.inl ⟨by rfl, fun w _ => (by simp [execOp, go_sem, Act.eval, zkv])⟩) (fun hS => ?_)
      simp only [Act.put, List.setIfInBounds_toArray, List.set_cons_zero, List.set_cons_succ]
      refine wpAnyL_pure (i := 6) (v := .pointer (some ⟨g, (kv + 1) * 2 + 1, none⟩)) (by simp only [List.getElem?_toArray, List.getElem?_cons_zero, List.getElem?_cons_succ] <;> rfl) (by kernel_rfl) (by kernel_rfl) (by kernel_rfl) (by exact fun _ _ _ h => h) (by decide) hS (Or.inl ⟨by rfl, fun w _ => (by simp [execOp, go_sem, Act.eval])⟩) (fun hS => ?_)
      simp only [Act.put, List.setIfInBounds_toArray, List.set_cons_zero, List.set_cons_succ]
      refine wpAnyL_load (i := 7) (v := .int .u64 ((hw s).toNat : Int)) (by simp only [List.getElem?_toArray, List.getElem?_cons_zero, List.getElem?_cons_succ] <;> rfl) (by kernel_rfl) (by kernel_rfl) (by kernel_rfl) (by exact fun _ _ _ h => h) (by decide) ⟨_, rfl, ⟨7, .data⟩, by simp, rfl, rfl⟩ (by kernel_rfl) hS (Or.inl ⟨by rfl, fun w hw => (by have x0 := hw; simp [execOp, go_sem, Act.eval, x0])⟩) (fun hS => ?_)
      simp only [Act.put, List.setIfInBounds_toArray, List.set_cons_zero, List.set_cons_succ]
      refine wpAnyL_pure (i := 8) (v := .int .i64 ((kx : Int) + 1)) (by simp only [List.getElem?_toArray, List.getElem?_cons_zero, List.getElem?_cons_succ] <;> rfl) (by kernel_rfl) (by kernel_rfl) (by kernel_rfl) (by exact fun _ _ _ h => h) (by decide) hS (Or.inl ⟨by rfl, fun w _ => (by simp [execOp, go_sem, Act.eval])⟩) (fun hS => ?_)
      simp only [Act.put, List.setIfInBounds_toArray, List.set_cons_zero, List.set_cons_succ]
      refine wpAnyL_pure (i := 9) (v := .int .i64 (kx : Int)) (by simp only [List.getElem?_toArray, List.getElem?_cons_zero, List.getElem?_cons_succ] <;> rfl) (by kernel_rfl) (by kernel_rfl) (by kernel_rfl) (by exact fun _ _ _ h => h) (by decide) hS (Or.inl ⟨by rfl, fun w _ => (by simp [execOp, go_sem, Act.eval, wkx])⟩) (fun hS => ?_)
      simp only [Act.put, List.setIfInBounds_toArray, List.set_cons_zero, List.set_cons_succ]
      refine wpAnyL_pure (i := 10) (v := .int .i64 ((kx : Int) % 64)) (by simp only [List.getElem?_toArray, List.getElem?_cons_zero, List.getElem?_cons_succ] <;> rfl) (by kernel_rfl) (by kernel_rfl) (by kernel_rfl) (by exact fun _ _ _ h => h) (by decide) hS (Or.inl ⟨by rfl, fun w _ => (by simp [execOp, go_sem, Act.eval, tmkx])⟩) (fun hS => ?_)
      simp only [Act.put, List.setIfInBounds_toArray, List.set_cons_zero, List.set_cons_succ]
      refine wpAnyL_pure (i := 11) (v := .int .u64 ((hw (one ((kx : Int) + 1))).toNat : Int)) (by simp only [List.getElem?_toArray, List.getElem?_cons_zero, List.getElem?_cons_succ] <;> rfl) (by kernel_rfl) (by kernel_rfl) (by kernel_rfl) (by exact fun _ _ _ h => h) (by decide) hS (Or.inl ⟨by rfl, fun w _ => (by simp [execOp, go_sem, Act.eval, hshkx])⟩) (fun hS => ?_)
      simp only [Act.put, List.setIfInBounds_toArray, List.set_cons_zero, List.set_cons_succ]
      refine wpAnyL_pure (i := 13) (v := .pointer (some ⟨g, (kv + 1) * 2, none⟩)) (by simp only [List.getElem?_toArray, List.getElem?_cons_zero, List.getElem?_cons_succ] <;> rfl) (by kernel_rfl) (by kernel_rfl) (by kernel_rfl) (by exact fun _ _ _ h => h) (by decide) hS (Or.inl ⟨by rfl, fun w _ => (by simp [execOp, go_sem, Act.eval, zkv])⟩) (fun hS => ?_)
      simp only [Act.put, List.setIfInBounds_toArray, List.set_cons_zero, List.set_cons_succ]
      refine wpAnyL_one (i := 12) (by kernel_rfl) (by simp only [List.getElem?_toArray, List.getElem?_cons_zero, List.getElem?_cons_succ] <;> rfl) (by rfl) ?_
      refine opwp_value (v := .int .u64 ((or64 (hw s) (hw (one ((kx : Int) + 1)))).toNat : Int)) (w' := w.drew) (by simp [execOp, go_sem, Act.eval, bits_or]) ⟨.inl (by kernel_rfl), ?_⟩
      simp only [Act.put, List.setIfInBounds_toArray, List.set_cons_zero, List.set_cons_succ]
      refine wpAnyL_one (i := 14) (by kernel_rfl) (by simp only [List.getElem?_toArray, List.getElem?_cons_zero, List.getElem?_cons_succ] <;> rfl) (by rfl) ?_
      refine opwp_value (v := .pointer (some ⟨g, (kv + 1) * 2 + 1, none⟩)) (w' := w.drew) (by simp [execOp, go_sem, Act.eval]) ⟨.inl (by kernel_rfl), ?_⟩
      simp only [Act.put, List.setIfInBounds_toArray, List.set_cons_zero, List.set_cons_succ]
      refine wpAnyL_one (i := 15) (by kernel_rfl) (by simp only [List.getElem?_toArray, List.getElem?_cons_zero, List.getElem?_cons_succ] <;> rfl) (by rfl) ?_
      refine opwp_skip (w' := w.drew.setCell ⟨g, (kv + 1) * 2 + 1, none⟩ (.int .u64 ((or64 (hw s) (hw (one ((kx : Int) + 1)))).toNat : Int))) (by simp [execOp, go_sem, Act.eval, cc, ff]) ⟨.inl (by kernel_rfl), ?_⟩
      simp only [Act.put]
      refine wpAnyL_done (by kernel_rfl) ?_ _
      generalize w.drew.setCell ⟨g, (kv + 1) * 2 + 1, none⟩ (.int .u64 ((or64 (hw s) (hw (one ((kx : Int) + 1)))).toNat : Int)) = w1 at *
      obtain ⟨t1, ht1, d0, d1, g0, g1⟩ := HST.out.get (kx + 1) (by simpa using hlx)
      obtain rfl : t = t1 := by rw [← ht1, gOf_set_ne (L := L) (i := kv + 1) (j := kx + 1) (by omega) hlx]; exact HTT.out.symm
      have HT1 := hid ht1
      clear ht1 cc ff hS wkx qkx rkx hshkx tmkx
      by_cases hv64 : (kv : Int) + 1 ≤ 64
      · have cc := d0
        have ff := g0
        have wkv : IntKind.i64.wrap (kv : Int) = kv := by rw [IntKind.wrap_i64]; omega
        have qkv : (kv : Int) / 64 = 0 := by omega
        have rkv : IntKind.i64.wrap ((kv : Int) % 64) = (kv : Int) % 64 := by rw [IntKind.wrap_i64]; omega
        have tmkv : Int.tmod (kv : Int) 64 = (kv : Int) % 64 := Int.tmod_eq_emod_of_nonneg (by omega)
        have hshkv := one_shl_lo (k := kv) (by omega)
        have hst := setRow_word0 (HST.out.same (w' := w1.drew) rfl) (kx + 1) (by simpa using hlkx) (withV t ((kv : Int) + 1)) (by rw [HT1.out, hi_withV, hi_one_low (by omega), or64_zero])
        rw [lo_withV] at hst
        rw [← HJ.out, ← HY.out] at hst
        have hgr := grownBy_then (grownBy_then HGR.out (grownBy_of_below' ((Below.refl w1.heap.size w1).drew) (some g))) (Lib.grownBy_setCell w1.drew g ((kx + 1) * 2) (.int .u64 ((or64 (lw t) (lw (one ((kv : Int) + 1)))).toNat : Int)))
        have HST2 := hid hst
        have HGR2 := hid hgr
        clear hst hgr d0 d1 g0 g1
        go_wp2_with fail
        refine Go.Proofs.YthgkklahiclcpaaDoor.wp_region_L 16 12 (fun w' => w'.cell? ⟨g, (kx + 1) * 2, none⟩ = some (.int .u64 ((lw t).toNat : Int))) (by kernel_rfl) rfl cc (fun hS => ?_)
        refine wpAnyL_pure (i := 0) (v := .slice (some ⟨g, 0, none⟩) L.length c) (by simp only [List.getElem?_toArray, List.getElem?_cons_zero] <;> rfl) (by kernel_rfl) (by kernel_rfl) (by kernel_rfl) (by exact fun _ _ _ h => h) (by decide) hS (Or.inl ⟨by rfl, fun w _ => (by simp [execOp, go_sem, Act.eval])⟩) (fun hS => ?_)
        simp only [Act.put, List.setIfInBounds_toArray, List.set_cons_zero, List.set_cons_succ]
        refine wpAnyL_pure (i := 1) (v := .int .i64 ((kx : Int) + 1)) (by simp only [List.getElem?_toArray, List.getElem?_cons_zero, List.getElem?_cons_succ] <;> rfl) (by kernel_rfl) (by kernel_rfl) (by kernel_rfl) (by exact fun _ _ _ h => h) (by decide) hS (Or.inl ⟨by rfl, fun w _ => (by simp [execOp, go_sem, Act.eval])⟩) (fun hS => ?_)
        simp only [Act.put, List.setIfInBounds_toArray, List.set_cons_zero, List.set_cons_succ]
        refine wpAnyL_pure (i := 2) (v := .int .i64 ((kv : Int) + 1)) (by simp only [List.getElem?_toArray, List.getElem?_cons_zero, List.getElem?_cons_succ] <;> rfl) (by kernel_rfl) (by kernel_rfl) (by kernel_rfl) (by exact fun _ _ _ h => h) (by decide) hS (Or.inl ⟨by rfl, fun w _ => (by simp [execOp, go_sem, Act.eval])⟩) (fun hS => ?_)
        simp only [Act.put, List.setIfInBounds_toArray, List.set_cons_zero, List.set_cons_succ]
        refine wpAnyL_pure (i := 3) (v := .int .i64 (kv : Int)) (by simp only [List.getElem?_toArray, List.getElem?_cons_zero, List.getElem?_cons_succ] <;> rfl) (by kernel_rfl) (by kernel_rfl) (by kernel_rfl) (by exact fun _ _ _ h => h) (by decide) hS (Or.inl ⟨by rfl, fun w _ => (by simp [execOp, go_sem, Act.eval, wkv])⟩) (fun hS => ?_)
        simp only [Act.put, List.setIfInBounds_toArray, List.set_cons_zero, List.set_cons_succ]
        refine wpAnyL_pure (i := 4) (v := .int .i64 0) (by simp only [List.getElem?_toArray, List.getElem?_cons_zero, List.getElem?_cons_succ] <;> rfl) (by kernel_rfl) (by kernel_rfl) (by kernel_rfl) (by exact fun _ _ _ h => h) (by decide) hS (Or.inl ⟨by rfl, fun w _ => (by simp [execOp, go_sem, Act.eval, qkv, hw0])⟩) (fun hS => ?_)
        simp only [Act.put, List.setIfInBounds_toArray, List.set_cons_zero, List.set_cons_succ]
        refine wpAnyL_pure (i := 5) (v := .pointer (some ⟨g, (kx + 1) * 2, none⟩)) (by simp only [List.getElem?_toArray, List.getElem?_cons_zero, List.getElem?_cons_succ] <;> rfl) (by kernel_rfl) (by kernel_rfl) (by kernel_rfl) (by exact fun _ _ _ h => h) (by decide) hS (Or.inl ⟨by rfl, fun w _ => (by simp [execOp, go_sem, Act.eval, zkx])⟩) (fun hS => ?_)
        simp only [Act.put, List.setIfInBounds_toArray, List.set_cons_zero, List.set_cons_succ]
        refine wpAnyL_pure (i := 6) (v := .pointer (some ⟨g, (kx + 1) * 2, none⟩)) (by simp only [List.getElem?_toArray, List.getElem?_cons_zero, List.getElem?_cons_succ] <;> rfl) (by kernel_rfl) (by kernel_rfl) (by kernel_rfl) (by exact fun _ _ _ h => h) (by decide) hS (Or.inl ⟨by rfl, fun w _ => (by simp [execOp, go_sem, Act.eval])⟩) (fun hS => ?_)
        simp only [Act.put, List.setIfInBounds_toArray, List.set_cons_zero, List.set_cons_succ]
        refine wpAnyL_load (i := 7) (v := .int .u64 ((lw t).toNat : Int)) (by simp only [List.getElem?_toArray, List.getElem?_cons_zero, List.getElem?_cons_succ] <;> rfl) (by kernel_rfl) (by kernel_rfl) (by kernel_rfl) (by exact fun _ _ _ h => h) (by decide) ⟨_, rfl, ⟨7, .data⟩, by simp, rfl, rfl⟩ (by kernel_rfl) hS (Or.inl ⟨by rfl, fun w hw => (by have x0 := hw; simp [execOp, go_sem, Act.eval, x0])⟩) (fun hS => ?_)
        simp only [Act.put, List.setIfInBounds_toArray, List.set_cons_zero, List.set_cons_succ]
        refine wpAnyL_pure (i := 8) (v := .int .i64 ((kv : Int) + 1)) (by simp only [List.getElem?_toArray, List.getElem?_cons_zero, List.getElem?_cons_succ] <;> rfl) (by kernel_rfl) (by kernel_rfl) (by kernel_rfl) (by exact fun _ _ _ h => h) (by decide) hS (Or.inl ⟨by rfl, fun w _ => (by simp [execOp, go_sem, Act.eval])⟩) (fun hS => ?_)
        simp only [Act.put, List.setIfInBounds_toArray, List.set_cons_zero, List.set_cons_succ]
        refine wpAnyL_pure (i := 9) (v := .int .i64 (kv : Int)) (by simp only [List.getElem?_toArray, List.getElem?_cons_zero, List.getElem?_cons_succ] <;> rfl) (by kernel_rfl) (by kernel_rfl) (by kernel_rfl) (by exact fun _ _ _ h => h) (by decide) hS (Or.inl ⟨by rfl, fun w _ => (by simp [execOp, go_sem, Act.eval, wkv])⟩) (fun hS => ?_)
        simp only [Act.put, List.setIfInBounds_toArray, List.set_cons_zero, List.set_cons_succ]
        refine wpAnyL_pure (i := 10) (v := .int .i64 ((kv : Int) % 64)) (by simp only [List.getElem?_toArray, List.getElem?_cons_zero, List.getElem?_cons_succ] <;> rfl) (by kernel_rfl) (by kernel_rfl) (by kernel_rfl) (by exact fun _ _ _ h => h) (by decide) hS (Or.inl ⟨by rfl, fun w _ => (by simp [execOp, go_sem, Act.eval, tmkv])⟩) (fun hS => ?_)
        simp only [Act.put, List.setIfInBounds_toArray, List.set_cons_zero, List.set_cons_succ]
        refine wpAnyL_pure (i := 11) (v := .int .u64 ((lw (one ((kv : Int) + 1))).toNat : Int)) (by simp only [List.getElem?_toArray, List.getElem?_cons_zero, List.getElem?_cons_succ] <;> rfl) (by kernel_rfl) (by kernel_rfl) (by kernel_rfl) (by exact fun _ _ _ h => h) (by decide) hS (Or.inl ⟨by rfl, fun w _ => (by simp [execOp, go_sem, Act.eval, hshkv])⟩) (fun hS => ?_)
        simp only [Act.put, List.setIfInBounds_toArray, List.set_cons_zero, List.set_cons_succ]
        refine wpAnyL_pure (i := 13) (v := .pointer (some ⟨g, (kx + 1) * 2, none⟩)) (by simp only [List.getElem?_toArray, List.getElem?_cons_zero, List.getElem?_cons_succ] <;> rfl) (by kernel_rfl) (by kernel_rfl) (by kernel_rfl) (by exact fun _ _ _ h => h) (by decide) hS (Or.inl ⟨by rfl, fun w _ => (by simp [execOp, go_sem, Act.eval, zkx])⟩) (fun hS => ?_)
        simp only [Act.put, List.setIfInBounds_toArray, List.set_cons_zero, List.set_cons_succ]
        refine wpAnyL_one (i := 12) (by kernel_rfl) (by simp only [List.getElem?_toArray, List.getElem?_cons_zero, List.getElem?_cons_succ] <;> rfl) (by rfl) ?_
        refine opwp_value (v := .int .u64 ((or64 (lw t) (lw (one ((kv : Int) + 1)))).toNat : Int)) (w' := w1.drew) (by simp [execOp, go_sem, Act.eval, bits_or]) ⟨.inl (by kernel_rfl), ?_⟩
        simp only [Act.put, List.setIfInBounds_toArray, List.set_cons_zero, List.set_cons_succ]
        refine wpAnyL_one (i := 14) (by kernel_rfl) (by simp only [List.getElem?_toArray, List.getElem?_cons_zero, List.getElem?_cons_succ] <;> rfl) (by rfl) ?_
        refine opwp_value (v := .pointer (some ⟨g, (kx + 1) * 2, none⟩)) (w' := w1.drew) (by simp [execOp, go_sem, Act.eval]) ⟨.inl (by kernel_rfl), ?_⟩
        simp only [Act.put, List.setIfInBounds_toArray, List.set_cons_zero, List.set_cons_succ]
        refine wpAnyL_one (i := 15) (by kernel_rfl) (by simp only [List.getElem?_toArray, List.getElem?_cons_zero, List.getElem?_cons_succ] <;> rfl) (by rfl) ?_
        refine opwp_skip (w' := w1.drew.setCell ⟨g, (kx + 1) * 2, none⟩ (.int .u64 ((or64 (lw t) (lw (one ((kv : Int) + 1)))).toNat : Int))) (by simp [execOp, go_sem, Act.eval, cc, ff]) ⟨.inl (by kernel_rfl), ?_⟩
        simp only [Act.put]
        refine wpAnyL_done (by kernel_rfl) ?_ _
        go_wp2_with fail
        go_ret
        exact ⟨rfl, HST2.out, HGR2.out⟩
      · have cc := d1
        have ff := g1
        have wkv : IntKind.i64.wrap (kv : Int) = kv := by rw [IntKind.wrap_i64]; omega
        have qkv : (kv : Int) / 64 = 1 := by omega
        have rkv : IntKind.i64.wrap ((kv : Int) % 64) = (kv : Int) % 64 := by rw [IntKind.wrap_i64]; omega
        have tmkv : Int.tmod (kv : Int) 64 = (kv : Int) % 64 := Int.tmod_eq_emod_of_nonneg (by omega)
        have hshkv := one_shl_hi (k := kv) (by omega) (by omega)
        have hst := setRow_word1 (HST.out.same (w' := w1.drew) rfl) (kx + 1) (by simpa using hlkx) (withV t ((kv : Int) + 1)) (by rw [HT1.out, lo_withV, lo_one_high (by omega), or64_zero])
        rw [hi_withV] at hst
        rw [← HJ.out, ← HY.out] at hst
        have hgr := grownBy_then (grownBy_then HGR.out (grownBy_of_below' ((Below.refl w1.heap.size w1).drew) (some g))) (Lib.grownBy_setCell w1.drew g ((kx + 1) * 2 + 1) (.int .u64 ((or64 (hw t) (hw (one ((kv : Int) + 1)))).toNat : Int)))
        have HST2 := hid hst
        have HGR2 := hid hgr
        clear hst hgr d0 d1 g0 g1
        go_wp2_with fail
        refine Go.Proofs.YthgkklahiclcpaaDoor.wp_region_L 16 12 (fun w' => w'.cell? ⟨g, (kx + 1) * 2 + 1, none⟩ = some (.int .u64 ((hw t).toNat : Int))) (by kernel_rfl) rfl cc (fun hS => ?_)
        refine wpAnyL_pure (i := 0) (v := .slice (some ⟨g, 0, none⟩) L.length c) (by simp only [List.getElem?_toArray, List.getElem?_cons_zero] <;> rfl) (by kernel_rfl) (by kernel_rfl) (by kernel_rfl) (by exact fun _ _ _ h => h) (by decide) hS (Or.inl ⟨by rfl, fun w _ => (by simp [execOp, go_sem, Act.eval])⟩) (fun hS => ?_)
        simp only [Act.put, List.setIfInBounds_toArray, List.set_cons_zero, List.set_cons_succ]
        refine wpAnyL_pure (i := 1) (v := .int .i64 ((kx : Int) + 1)) (by simp only [List.getElem?_toArray, List.getElem?_cons_zero, List.getElem?_cons_succ] <;> rfl) (by kernel_rfl) (by kernel_rfl) (by kernel_rfl) (by exact fun _ _ _ h => h) (by decide) hS (Or.inl ⟨by rfl, fun w _ => (by simp [execOp, go_sem, Act.eval])⟩) (fun hS => ?_)
        simp only [Act.put, List.setIfInBounds_toArray, List.set_cons_zero, List.set_cons_succ]
        refine wpAnyL_pure (i := 2) (v := .int .i64 ((kv : Int) + 1)) (by simp only [List.getElem?_toArray, List.getElem?_cons_zero, List.getElem?_cons_succ] <;> rfl) (by kernel_rfl) (by kernel_rfl) (by kernel_rfl) (by exact fun _ _ _ h => h) (by decide) hS (Or.inl ⟨by rfl, fun w _ => (by simp [execOp, go_sem, Act.eval])⟩) (fun hS => ?_)
        simp only [Act.put, List.setIfInBounds_toArray, List.set_cons_zero, List.set_cons_succ]
        refine wpAnyL_pure (i := 3) (v := .int .i64 (kv : Int)) (by simp only [List.getElem?_toArray, List.getElem?_cons_zero, List.getElem?_cons_succ] <;> rfl) (by kernel_rfl) (by kernel_rfl) (by kernel_rfl) (by exact fun _ _ _ h => h) (by decide) hS (Or.inl ⟨by rfl, fun w _ => (by simp [execOp, go_sem, Act.eval, wkv])⟩) (fun hS => ?_)
        simp only [Act.put, List.setIfInBounds_toArray, List.set_cons_zero, List.set_cons_succ]
        refine wpAnyL_pure (i := 4) (v := .int .i64 1) (by simp only [List.getElem?_toArray, List.getElem?_cons_zero, List.getElem?_cons_succ] <;> rfl) (by kernel_rfl) (by kernel_rfl) (by kernel_rfl) (by exact fun _ _ _ h => h) (by decide) hS (Or.inl ⟨by rfl, fun w _ => (by simp [execOp, go_sem, Act.eval, qkv, hw1])⟩) (fun hS => ?_)
        simp only [Act.put, List.setIfInBounds_toArray, List.set_cons_zero, List.set_cons_succ]
        refine wpAnyL_pure (i := 5) (v := .pointer (some ⟨g, (kx + 1) * 2, none⟩)) (by simp only [List.getElem?_toArray, List.getElem?_cons_zero, List.getElem?_cons_succ] <;> rfl) (by kernel_rfl) (by kernel_rfl) (by kernel_rfl) (by exact fun _ _ _ h => h) (by decide) hS (Or.inl ⟨by rfl, fun w _ => (by simp [execOp, go_sem, Act.eval, zkx])⟩) (fun hS => ?_)
        simp only [Act.put, List.setIfInBounds_toArray, List.set_cons_zero, List.set_cons_succ]
        refine wpAnyL_pure (i := 6) (v := .pointer (some ⟨g, (kx + 1) * 2 + 1, none⟩)) (by simp only [List.getElem?_toArray, List.getElem?_cons_zero, List.getElem?_cons_succ] <;> rfl) (by kernel_rfl) (by kernel_rfl) (by kernel_rfl) (by exact fun _ _ _ h => h) (by decide) hS (Or.inl ⟨by rfl, fun w _ => (by simp [execOp, go_sem, Act.eval])⟩) (fun hS => ?_)
        simp only [Act.put, List.setIfInBounds_toArray, List.set_cons_zero, List.set_cons_succ]
        refine wpAnyL_load (i := 7) (v := .int .u64 ((hw t).toNat : Int)) (by simp only [List.getElem?_toArray, List.getElem?_cons_zero, List.getElem?_cons_succ] <;> rfl) (by kernel_rfl) (by kernel_rfl) (by kernel_rfl) (by exact fun _ _ _ h => h) (by decide) ⟨_, rfl, ⟨7, .data⟩, by simp, rfl, rfl⟩ (by kernel_rfl) hS (Or.inl ⟨by rfl, fun w hw => (by have x0 := hw; simp [execOp, go_sem, Act.eval, x0])⟩) (fun hS => ?_)
        simp only [Act.put, List.setIfInBounds_toArray, List.set_cons_zero, List.set_cons_succ]
        refine wpAnyL_pure (i := 8) (v := .int .i64 ((kv : Int) + 1)) (by simp only [List.getElem?_toArray, List.getElem?_cons_zero, List.getElem?_cons_succ] <;> rfl) (by kernel_rfl) (by kernel_rfl) (by kernel_rfl) (by exact fun _ _ _ h => h) (by decide) hS (Or.inl ⟨by rfl, fun w _ => (by simp [execOp, go_sem, Act.eval])⟩) (fun hS => ?_)
        simp only [Act.put, List.setIfInBounds_toArray, List.set_cons_zero, List.set_cons_succ]
        refine wpAnyL_pure (i := 9) (v := .int .i64 (kv : Int)) (by simp only [List.getElem?_toArray, List.getElem?_cons_zero, List.getElem?_cons_succ] <;> rfl) (by kernel_rfl) (by kernel_rfl) (by kernel_rfl) (by exact fun _ _ _ h => h) (by decide) hS (Or.inl ⟨by rfl, fun w _ => (by simp [execOp, go_sem, Act.eval, wkv])⟩) (fun hS => ?_)
        simp only [Act.put, List.setIfInBounds_toArray, List.set_cons_zero, List.set_cons_succ]
        refine wpAnyL_pure (i := 10) (v := .int .i64 ((kv : Int) % 64)) (by simp only [List.getElem?_toArray, List.getElem?_cons_zero, List.getElem?_cons_succ] <;> rfl) (by kernel_rfl) (by kernel_rfl) (by kernel_rfl) (by exact fun _ _ _ h => h) (by decide) hS (Or.inl ⟨by rfl, fun w _ => (by simp [execOp, go_sem, Act.eval, tmkv])⟩) (fun hS => ?_)
        simp only [Act.put, List.setIfInBounds_toArray, List.set_cons_zero, List.set_cons_succ]
        refine wpAnyL_pure (i := 11) (v := .int .u64 ((hw (one ((kv : Int) + 1))).toNat : Int)) (by simp only [List.getElem?_toArray, List.getElem?_cons_zero, List.getElem?_cons_succ] <;> rfl) (by kernel_rfl) (by kernel_rfl) (by kernel_rfl) (by exact fun _ _ _ h => h) (by decide) hS (Or.inl ⟨by rfl, fun w _ => (by simp [execOp, go_sem, Act.eval, hshkv])⟩) (fun hS => ?_)
        simp only [Act.put, List.setIfInBounds_toArray, List.set_cons_zero, List.set_cons_succ]
        refine wpAnyL_pure (i := 13) (v := .pointer (some ⟨g, (kx + 1) * 2, none⟩)) (by simp only [List.getElem?_toArray, List.getElem?_cons_zero, List.getElem?_cons_succ] <;> rfl) (by kernel_rfl) (by kernel_rfl) (by kernel_rfl) (by exact fun _ _ _ h => h) (by decide) hS (Or.inl ⟨by rfl, fun w _ => (by simp [execOp, go_sem, Act.eval, zkx])⟩) (fun hS => ?_)
        simp only [Act.put, List.setIfInBounds_toArray, List.set_cons_zero, List.set_cons_succ]
        refine wpAnyL_one (i := 12) (by kernel_rfl) (by simp only [List.getElem?_toArray, List.getElem?_cons_zero, List.getElem?_cons_succ] <;> rfl) (by rfl) ?_
        refine opwp_value (v := .int .u64 ((or64 (hw t) (hw (one ((kv : Int) + 1)))).toNat : Int)) (w' := w1.drew) (by simp [execOp, go_sem, Act.eval, bits_or]) ⟨.inl (by kernel_rfl), ?_⟩
        simp only [Act.put, List.setIfInBounds_toArray, List.set_cons_zero, List.set_cons_succ]
        refine wpAnyL_one (i := 14) (by kernel_rfl) (by simp only [List.getElem?_toArray, List.getElem?_cons_zero, List.getElem?_cons_succ] <;> rfl) (by rfl) ?_
        refine opwp_value (v := .pointer (some ⟨g, (kx + 1) * 2 + 1, none⟩)) (w' := w1.drew) (by simp [execOp, go_sem, Act.eval]) ⟨.inl (by kernel_rfl), ?_⟩
        simp only [Act.put, List.setIfInBounds_toArray, List.set_cons_zero, List.set_cons_succ]
        refine wpAnyL_one (i := 15) (by kernel_rfl) (by simp only [List.getElem?_toArray, List.getElem?_cons_zero, List.getElem?_cons_succ] <;> rfl) (by rfl) ?_
        refine opwp_skip (w' := w1.drew.setCell ⟨g, (kx + 1) * 2 + 1, none⟩ (.int .u64 ((or64 (hw t) (hw (one ((kv : Int) + 1)))).toNat : Int))) (by simp [execOp, go_sem, Act.eval, cc, ff]) ⟨.inl (by kernel_rfl), ?_⟩
        simp only [Act.put]
        refine wpAnyL_done (by kernel_rfl) ?_ _
        go_wp2_with fail
        go_ret
        exact ⟨rfl, HST2.out, HGR2.out⟩
end Go.Proofs.YthgkklahiclcpaaDoor
