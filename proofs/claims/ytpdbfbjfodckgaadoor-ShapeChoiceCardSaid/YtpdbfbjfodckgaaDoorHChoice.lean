/- The walk of the law ShapeChoice. -/
import Derived.Test.YtpdbfbjfodckgaaDoorHPush
import Derived.Test.YtpdbfbjfodckgaaDoorHChoP
import Derived.Test.YtpdbfbjfodckgaaDoorHLaw
import Derived.Test.YtpdbfbjfodckgaaDoorHRefS
import Derived.Test.YtpdbfbjfodckgaaDoorHInv
import Derived.Laws.Unary
namespace Go.Proofs.YtpdbfbjfodckgaaDoor
open Go.RowKit

theorem u64_and_one (a : BitVec 64) (m : Nat) : bits .and .u64 ((a.toNat : Int) / 2 ^ m) 1 = (a.toNat : Int) / 2 ^ m % 2 := by
  have h1 : (BitVec.ofInt 64 1).toNat = 2 ^ 1 - 1 := by decide
  have key : (BitVec.ofInt 64 ((a.toNat : Int) / 2 ^ m) &&& BitVec.ofInt 64 1).toNat = (((a.toNat : Int) / 2 ^ m) % ((2 ^ 64 : Nat) : Int)).toNat % 2 ^ 1 := by
    rw [BitVec.toNat_and, BitVec.toNat_ofInt, h1, Nat.and_two_pow_sub_one_eq_mod]
  show IntKind.u64.wrap ((BitVec.ofInt 64 ((a.toNat : Int) / 2 ^ m) &&& BitVec.ofInt 64 1).toNat : Nat) = _
  rw [key, IntKind.wrap_u64]
  omega
/-- What lies in memory when k of the literals are made. -/
def ChI (w wr : World) (S : VS) (y : Value) (k : Nat) : Prop := NetMade wr w.heap.size (w.heap.size + 1) 128 (litsN S k) (List.replicate k (.slice none 0 0)) ∧ OwnInts wr w.heap.size y (numsTo k) ∧
  wr.heap[w.heap.size]? = some (.cells #[.int .u64 ((lw S).toNat : Int), .int .u64 ((hw S).toNat : Int)] 42 (0, 0)) ∧ Below w.heap.size w wr
theorem nil_own {k : Nat} {u : Value} (h : u ∈ List.replicate k (Value.slice none 0 0)) {j : Nat} (e : u.ownBlock = some j) : False := by
  rw [List.eq_of_mem_replicate h] at e; cases e
/-- One more number. -/
theorem chi_num {w wr w3 : World} {S : VS} {y v3 : Value} {k : Nat} {T : TypeId} (h : ChI w wr S y k) (hown : OwnInts w3 w.heap.size v3 (numsTo k ++ [(k : Int)])) (hg : (wr.alloc (.cells #[.int .i64 (k : Int)] T)).grownBy w3 y.ownBlock) :
    NetMade w3 w.heap.size (w.heap.size + 1) 128 (litsN S k) (List.replicate k (.slice none 0 0)) ∧ OwnInts w3 w.heap.size v3 (numsTo (k + 1)) ∧
      w3.heap[w.heap.size]? = some (.cells #[.int .u64 ((lw S).toNat : Int), .int .u64 ((hw S).toNat : Int)] 42 (0, 0)) ∧ Below w.heap.size w w3 := by
  obtain ⟨⟨v, h1, h2, h3⟩, h4, h5, h6⟩ := h
  have hal : Below wr.heap.size wr (wr.alloc (.cells #[.int .i64 (k : Int)] T)) := (Below.refl _ wr).alloc (Nat.le_refl _) _
  have h4a := h4.below hal
  have keep : ∀ {j : Nat} {cs : Array Value} {T' : TypeId}, wr.heap[j]? = some (.cells cs T' (0, 0)) → T' ≠ 3 → w3.heap[j]? = some (.cells cs T' (0, 0)) := fun {j cs T'} hj hT => by
    have hl := (Array.getElem?_eq_some_iff.1 hj).1
    have hj2 := (hal.block j hl).trans hj
    refine (hg.block j (Array.getElem?_eq_some_iff.1 hj2).1 (fun e => ?_)).trans hj2
    obtain ⟨cs', hc⟩ := own_type h4a e.symm
    rw [hj2] at hc
    injection hc with hc
    injection hc with _ e _
    exact hT e
  refine ⟨⟨v, keep h1 (by decide), h2.same (fun j e => ?_) (fun u hu j e => (nil_own hu e).elim), h3⟩, by rw [numsTo_succ]; exact hown, keep h5 (by decide), below_app (h6.trans (hal.mono h6.size)) (Nat.le_refl _) h4a hg⟩
  obtain ⟨cs, hc⟩ := own_type h2.row e
  exact (keep hc (by decide)).trans hc.symm
/-- A node more in the net's variable. -/
theorem chi_push {w W w9 : World} {S : VS} {v y v9 : Value} {l : List Int} {out out' : List NodeT} {vs vs' : List Value} (h1 : Box2 W (w.heap.size + 1) 24 (.int .i64 128) v) (h2 : OwnNodes W w.heap.size v out vs) (h4 : OwnInts W w.heap.size y l)
    (h5 : W.heap[w.heap.size]? = some (.cells #[.int .u64 ((lw S).toNat : Int), .int .u64 ((hw S).toNat : Int)] 42 (0, 0))) (h6 : Below w.heap.size w W) (hg : W.grownBy w9 v.ownBlock) (h9 : OwnNodes w9 w.heap.size v9 out' vs') :
    Box2 w9 (w.heap.size + 1) 24 (.int .i64 128) v ∧ NetMade (w9.setCell ⟨w.heap.size + 1, 1, none⟩ v9) w.heap.size (w.heap.size + 1) 128 out' vs' ∧ OwnInts (w9.setCell ⟨w.heap.size + 1, 1, none⟩ v9) w.heap.size y l ∧
      (w9.setCell ⟨w.heap.size + 1, 1, none⟩ v9).heap[w.heap.size]? = some (.cells #[.int .u64 ((lw S).toNat : Int), .int .u64 ((hw S).toNat : Int)] 42 (0, 0)) ∧ Below w.heap.size w (w9.setCell ⟨w.heap.size + 1, 1, none⟩ v9) := by
  obtain ⟨a1, a2, a3⟩ := made_store h1 (Nat.le_succ _) h2 hg h9
  refine ⟨a1, a2, own_same h4 fun j e => ?_, a3 h5 (fun _ _ _ e => by injection e with _ e _; rw [← e]; decide) (by omega), (below_app h6 (Nat.le_refl _) h2.row hg).setCell (p := ⟨w.heap.size + 1, 1, none⟩) (Nat.le_succ _) _⟩
  obtain ⟨cs, hc⟩ := own_type h4 e
  refine (a3 hc (fun _ _ _ e => by injection e with _ e _; rw [← e]; decide) (fun e2 => ?_)).trans hc.symm
  subst e2
  unfold Box2 at h1
  rw [hc] at h1
  injection h1 with h1
  injection h1 with _ e _
  cases e
attribute [local go_sem] u64_and_one
set_option maxRecDepth 100000 in
set_option maxHeartbeats 8000000 in
theorem shapeChoice_walk (many : Int) (S : VS) (w : World) (hT : TabAt w) (hP : PatAt w) (hm : 0 ≤ many ∧ many ≤ 255) :
    Calls Tryd.prog 8 #[.int .u8 many, encS S] w (LawPost w) := by
  obtain ⟨hm0, hm1⟩ := hm
  obtain ⟨kk, hkk⟩ : ∃ kk : Nat, many % 129 = (kk : Int) := ⟨(many % 129).toNat, by omega⟩
  have hkt : Int.tmod many 129 = (kk : Int) := by rw [Int.tmod_eq_emod_of_nonneg hm0]; exact hkk
  have hk128 : kk ≤ 128 := by omega
  have hb1 : Below w.heap.size w (w.alloc (.cells #[.int .u64 ((lw S).toNat : Int), .int .u64 ((hw S).toNat : Int)] 42)) := (Below.refl _ w).alloc (Nat.le_refl _) _
  have hb2 : Below w.heap.size w ((w.alloc (.cells #[.int .u64 ((lw S).toNat : Int), .int .u64 ((hw S).toNat : Int)] 42)).alloc (.cells #[.int .i64 128, .slice none 0 0] 24)) := hb1.alloc hb1.size _
  have hbx := Box2.new (w.alloc (.cells #[.int .u64 ((lw S).toNat : Int), .int .u64 ((hw S).toNat : Int)] 42)) 24 (.int .i64 128) (.slice none 0 0)
  rw [World.size_alloc] at hbx
  have hset : ((w.alloc (.cells #[.int .u64 ((lw S).toNat : Int), .int .u64 ((hw S).toNat : Int)] 42)).alloc (.cells #[.int .i64 128, .slice none 0 0] 24)).heap[w.heap.size]? = some (.cells #[.int .u64 ((lw S).toNat : Int), .int .u64 ((hw S).toNat : Int)] 42 (0, 0)) := by
    have h1 := heap_alloc_new w (.cells #[.int .u64 ((lw S).toNat : Int), .int .u64 ((hw S).toNat : Int)] 42)
    exact (Below.heap_alloc _ _ _ (Array.getElem?_eq_some_iff.1 h1).1).trans h1
  have HI0 := hid (show ChI w ((w.alloc (.cells #[.int .u64 ((lw S).toNat : Int), .int .u64 ((hw S).toNat : Int)] 42)).alloc (.cells #[.int .i64 128, .slice none 0 0] 24)) S (.slice none 0 0) 0 from
    ⟨⟨_, hbx, OwnNodes.nil _ _, Nat.le_succ _⟩, OwnInts.nil _ _, hset, hb2⟩)
  have HT := hid hT
  have HP := hid hP
  clear hT hP hb1 hb2 hbx hset
  go_enter Tryd.func8, Tryd.ntmps8
  go_wp2_with fail
  go_loopw [6, 7] (fun y z wr => ∃ (k : Nat), k ≤ kk ∧ z = .int .i64 ((k : Int) + 1) ∧ Hid (ChI w wr S y k)) (fun _ z _ => kk + 1 - (intOf z).toNat)
  case atStart => exact ⟨0, Nat.zero_le _, rfl, HI0.out⟩
  case round =>
    clear HI0
    obtain ⟨k, hk, rfl, hi⟩ := hrel
    by_cases hlt : k < kk
    · have zk : (k : Int) + 1 ≤ (kk : Int) := by omega
      obtain ⟨⟨vO, b1, b2, b3⟩, hiy, hset, hbr⟩ := hi.out
      obtain ⟨s0, s1, _, _⟩ := (show SetVar wr w.heap.size S from ⟨_, hset⟩).cells
      obtain ⟨x0, x1, _, _⟩ := b1.cells
      obtain ⟨pO, cO, rfl, _⟩ := b2.nodes
      rw [litsN_length] at x1
      obtain ⟨pI, cI, rfl, _⟩ := hiy.ints
      rw [numsTo_length] at *
      have lsz : w.heap.size + 1 < wr.heap.size := b1.lt
      have HII := hid hi.out
      clear hi b1 b2 b3 hiy hset hbr
      have hbit : ∃ (off : Nat) (wd : BitVec 64) (m : Nat), k / 64 = off ∧ (k : Int) % 64 = (m : Int) ∧ m < 64 ∧ wr.cell? ⟨w.heap.size, off, none⟩ = some (.int .u64 (wd.toNat : Int)) ∧ has S ((k : Int) + 1) = ((wd.toNat : Int) / 2 ^ m % 2 == 1) := by
        by_cases h64 : k < 64
        · refine ⟨0, lw S, k, by omega, by omega, h64, s0, ?_⟩
          rw [has_word_lo (by omega) (by omega), show (((k : Int) + 1 - 1) % 64).toNat = k by omega]
        · refine ⟨1, hw S, k - 64, by omega, by omega, by omega, s1, ?_⟩
          rw [has_word_hi (by omega) (by omega), show (((k : Int) + 1 - 1) % 64).toNat = k - 64 by omega]
      obtain ⟨off, wd, m, q1, q2, q3, q4, q5⟩ := hbit
      have q2t : Int.tmod (k : Int) 64 = (m : Int) := by rw [Int.tmod_eq_emod_of_nonneg (by omega)]; exact q2
      clear s0 s1
      have HOA := hid (HII.out.2.1.alloc (.cells #[.int .i64 (k : Int)] 3))
      have HON := hid (one_int wr (k : Int) 3)
      have hsz : w.heap.size ≤ (wr.alloc (.cells #[.int .i64 (k : Int)] 3)).heap.size := by rw [World.size_alloc]; omega
      cases hh : has S ((k : Int) + 1)
      · rw [hh] at q5
        have q6 : ((wd.toNat : Int) / 2 ^ m % 2 == 1) = false := q5.symm
        clear q5
        go_wp2_with (at_builtin; go_loud (refine wpList_append_I rfl _ _ rfl w.heap.size _ _ rfl HOA.out _ [(k : Int)] rfl HON.out (by rw [numsTo_length]; show k + 1 ≤ 16777216; omega) hsz ?_; intro v3 w3 hown3 hg3 _))
        have HSG := hid (show sgn S k = (k : Int) + 1 from by unfold sgn; rw [hh]; rfl)
        obtain ⟨⟨vO3, n1, n2, n3⟩, n4, n5, n6⟩ := chi_num HII.out hown3 hg3
        have BX : Hid (Box2 w3.drew (w.heap.size + 1) 24 (.int .i64 128) vO3) := n1
        have HN2 := hid n2
        have HN4 := hid n4
        have HN5 := hid n5
        have HN6 := hid n6
        clear n1 n2 n3 n4 n5 n6 hown3 hg3 HOA HON HII q1 q2 q2t q3 q4 q6 hsz
        refine Go.Proofs.YtpdbfbjfodckgaaDoor.wp_region_L 8 5 (fun w' => Box2 w' (w.heap.size + 1) 24 (.int .i64 128) (vO3)) (by kernel_rfl) rfl BX.out (fun _ => ?_)
        refine wpAnyL_pure (i := 0) (v := .pointer (some ⟨w.heap.size + 1, 1, none⟩)) (by simp only [List.getElem?_toArray, List.getElem?_cons_zero] <;> rfl) (by kernel_rfl) (by kernel_rfl) (by kernel_rfl) (by exact fun _ _ _ h => h) (by decide) (.inr BX.out) (Or.inl ⟨by rfl, fun w _ => (by simp [execOp, go_sem, Act.eval])⟩) (fun _ => ?_)
        simp only [Act.put, List.setIfInBounds_toArray, List.set_cons_zero, List.set_cons_succ]
        refine wpAnyL_load2 (i := 1) (v := vO3) (by simp only [List.getElem?_toArray, List.getElem?_cons_zero, List.getElem?_cons_succ] <;> rfl) (by kernel_rfl) (by kernel_rfl) (by kernel_rfl) (by exact fun _ _ _ h => h) (by decide) (Waits.one rfl ⟨⟨1, .data⟩, by simp, rfl, rfl⟩) (by kernel_rfl) (by kernel_rfl) (.inr BX.out) (Or.inl ⟨by rfl, fun w hw => (by have x0 := hw; simp [execOp, go_sem, Act.eval, x0.cells.2.1])⟩) (fun _ => ?_)
        simp only [Act.put, List.setIfInBounds_toArray, List.set_cons_zero, List.set_cons_succ]
        refine wpAnyL_pure (i := 2) (v := .int .i64 ((k : Int) + 1)) (by simp only [List.getElem?_toArray, List.getElem?_cons_zero, List.getElem?_cons_succ] <;> rfl) (by kernel_rfl) (by kernel_rfl) (by kernel_rfl) (by exact fun _ _ _ h => h) (by decide) (.inr BX.out) (Or.inl ⟨by rfl, fun w _ => (by simp [execOp, go_sem, Act.eval])⟩) (fun _ => ?_)
        simp only [Act.put, List.setIfInBounds_toArray, List.set_cons_zero, List.set_cons_succ]
        refine wpAnyL_one (i := 3) (by kernel_rfl) (by simp only [List.getElem?_toArray, List.getElem?_cons_zero, List.getElem?_cons_succ] <;> rfl) (by rfl) ?_
        refine opwp_call (f := 30) (args := #[.int .i64 ((k : Int) + 1)]) (w' := w3.drew) (by simp [go_sem, Act.eval]) ?_
        refine (lit_c ((k : Int) + 1) _).mono ?_
        rintro e w6 ⟨rfl, hb6⟩
        have hca1_0 := hid (BX.out.below hb6 BX.out.lt)
        refine .inl ⟨_, rfl, .inr hca1_0.out, ?_⟩
        simp only [Act.put, List.setIfInBounds_toArray, List.set_cons_zero, List.set_cons_succ]
        have hb36 := (Below.refl w3.heap.size w3).drew.trans hb6
        have hal : Below w3.heap.size w3 (w6.alloc (.cells #[.int .i64 2, .int .i64 ((k : Int) + 1), .slice none 0 0] 39)) := hb36.trans (((Below.refl _ w6).alloc (Nat.le_refl _) _).mono hb36.size)
        have ha_0 := hid (hca1_0.out.alloc (.cells #[.int .i64 2, .int .i64 ((k : Int) + 1), .slice none 0 0] 39))
        refine wpAnyL_one (i := 4) (by kernel_rfl) (by simp only [List.getElem?_toArray, List.getElem?_cons_zero, List.getElem?_cons_succ] <;> rfl) (by rfl) ?_
        refine opwp_value (v := .slice (some ⟨w6.heap.size, 0, none⟩) 1 1) (w' := (w6.alloc (.cells #[.int .i64 2, .int .i64 ((k : Int) + 1), .slice none 0 0] 39))) (by simp [execOp, go_sem, Act.eval]) ⟨.inr ha_0.out, ?_⟩
        simp only [Act.put, List.setIfInBounds_toArray, List.set_cons_zero, List.set_cons_succ]
        have HO7 := hid (HN2.out.below hal)
        refine wpAnyL_one (i := 5) (by kernel_rfl) (by simp only [List.getElem?_toArray, List.getElem?_cons_zero, List.getElem?_cons_succ] <;> rfl) (by rfl) ?_
        refine opwp_append_N _ _ rfl w.heap.size vO3 _ _ rfl HO7.out ⟨2, (k : Int) + 1, []⟩ (.slice none 0 0) (OwnInts.nil _ _) (by simp) w6.heap.size 1 39 rfl (heap_alloc_new w6 _) (by rw [litsN_length]; omega) (Nat.le_trans HN6.out.size hal.size) ?_
        intro v9 w9 hown9 hg9 hv9
        refine ⟨.inl (by kernel_rfl), ?_⟩
        simp only [Act.put, List.setIfInBounds_toArray, List.set_cons_zero, List.set_cons_succ]
        obtain ⟨m1, m2, m3, m4, m5⟩ := chi_push ha_0.out HO7.out (HN4.out.below hal) ((hal.block _ (Array.getElem?_eq_some_iff.1 HN5.out).1).trans HN5.out) (HN6.out.trans (hal.mono HN6.out.size)) hg9 hown9
        obtain ⟨_, y4, _, f4⟩ := m1.cells
        obtain ⟨g9, c9, rfl, _⟩ := hv9
        refine wpAnyL_pure (i := 6) (v := .pointer (some ⟨w.heap.size + 1, 1, none⟩)) (by simp only [List.getElem?_toArray, List.getElem?_cons_zero, List.getElem?_cons_succ] <;> rfl) (by kernel_rfl) (by kernel_rfl) (by kernel_rfl) (by exact fun _ _ _ h => h) (by decide) (.inl (by kernel_rfl)) (Or.inl ⟨by rfl, fun w _ => (by simp [execOp, go_sem, Act.eval])⟩) (fun _ => ?_)
        simp only [Act.put, List.setIfInBounds_toArray, List.set_cons_zero, List.set_cons_succ]
        refine wpAnyL_one (i := 7) (by kernel_rfl) (by simp only [List.getElem?_toArray, List.getElem?_cons_zero, List.getElem?_cons_succ] <;> rfl) (by rfl) ?_
        refine opwp_skip (w' := (w9.setCell ⟨w.heap.size + 1, 1, none⟩ (.slice (some ⟨g9, 0, none⟩) ((litsN S k).length + 1) c9))) (by simp [execOp, go_sem, Act.eval, y4, f4]) ⟨.inl (by kernel_rfl), ?_⟩
        simp only [Act.put]
        refine wpAnyL_done (by kernel_rfl) ?_ _
        have HCI := hid (show ChI w _ S _ (k + 1) from ⟨by rw [litsN_succ, HSG.out, List.replicate_succ']; exact m2, m3, m4, m5⟩)
        clear m1 m2 m3 m4 m5 y4 f4 hb6 hb36 hal ha_0 HO7 hown9 hg9
        go_wp2_with fail
        go_roundw
        case rel => exact ⟨k + 1, by omega, by go_num, HCI.out⟩
        case measure => simp [intOf]; omega
      · rw [hh] at q5
        have q6 : (wd.toNat : Int) / 2 ^ m % 2 = 1 := by simpa using q5.symm
        clear q5
        go_wp2_with (at_builtin; go_loud (refine wpList_append_I rfl _ _ rfl w.heap.size _ _ rfl HOA.out _ [(k : Int)] rfl HON.out (by rw [numsTo_length]; show k + 1 ≤ 16777216; omega) hsz ?_; intro v3 w3 hown3 hg3 _))
        have HSG := hid (show sgn S k = -((k : Int) + 1) from by unfold sgn; rw [hh]; rfl)
        obtain ⟨⟨vO3, n1, n2, n3⟩, n4, n5, n6⟩ := chi_num HII.out hown3 hg3
        have BX : Hid (Box2 w3.drew (w.heap.size + 1) 24 (.int .i64 128) vO3) := n1
        have HN2 := hid n2
        have HN4 := hid n4
        have HN5 := hid n5
        have HN6 := hid n6
        clear n1 n2 n3 n4 n5 n6 hown3 hg3 HOA HON HII q1 q2 q2t q3 q4 q6 hsz
        refine Go.Proofs.YtpdbfbjfodckgaaDoor.wp_region_L 8 5 (fun w' => Box2 w' (w.heap.size + 1) 24 (.int .i64 128) (vO3)) (by kernel_rfl) rfl BX.out (fun _ => ?_)
        refine wpAnyL_pure (i := 0) (v := .pointer (some ⟨w.heap.size + 1, 1, none⟩)) (by simp only [List.getElem?_toArray, List.getElem?_cons_zero] <;> rfl) (by kernel_rfl) (by kernel_rfl) (by kernel_rfl) (by exact fun _ _ _ h => h) (by decide) (.inr BX.out) (Or.inl ⟨by rfl, fun w _ => (by simp [execOp, go_sem, Act.eval])⟩) (fun _ => ?_)
        simp only [Act.put, List.setIfInBounds_toArray, List.set_cons_zero, List.set_cons_succ]
        refine wpAnyL_load2 (i := 1) (v := vO3) (by simp only [List.getElem?_toArray, List.getElem?_cons_zero, List.getElem?_cons_succ] <;> rfl) (by kernel_rfl) (by kernel_rfl) (by kernel_rfl) (by exact fun _ _ _ h => h) (by decide) (Waits.one rfl ⟨⟨1, .data⟩, by simp, rfl, rfl⟩) (by kernel_rfl) (by kernel_rfl) (.inr BX.out) (Or.inl ⟨by rfl, fun w hw => (by have x0 := hw; simp [execOp, go_sem, Act.eval, x0.cells.2.1])⟩) (fun _ => ?_)
        simp only [Act.put, List.setIfInBounds_toArray, List.set_cons_zero, List.set_cons_succ]
        refine wpAnyL_pure (i := 2) (v := .int .i64 (-((k : Int) + 1))) (by simp only [List.getElem?_toArray, List.getElem?_cons_zero, List.getElem?_cons_succ] <;> rfl) (by kernel_rfl) (by kernel_rfl) (by kernel_rfl) (by exact fun _ _ _ h => h) (by decide) (.inr BX.out) (Or.inl ⟨by rfl, fun w _ => (by simp [execOp, go_sem, Act.eval])⟩) (fun _ => ?_)
        simp only [Act.put, List.setIfInBounds_toArray, List.set_cons_zero, List.set_cons_succ]
        refine wpAnyL_one (i := 3) (by kernel_rfl) (by simp only [List.getElem?_toArray, List.getElem?_cons_zero, List.getElem?_cons_succ] <;> rfl) (by rfl) ?_
        refine opwp_call (f := 30) (args := #[.int .i64 (-((k : Int) + 1))]) (w' := w3.drew) (by simp [go_sem, Act.eval]) ?_
        refine (lit_c (-((k : Int) + 1)) _).mono ?_
        rintro e w6 ⟨rfl, hb6⟩
        have hcb1_0 := hid (BX.out.below hb6 BX.out.lt)
        refine .inl ⟨_, rfl, .inr hcb1_0.out, ?_⟩
        simp only [Act.put, List.setIfInBounds_toArray, List.set_cons_zero, List.set_cons_succ]
        have hb36 := (Below.refl w3.heap.size w3).drew.trans hb6
        have hal : Below w3.heap.size w3 (w6.alloc (.cells #[.int .i64 2, .int .i64 (-((k : Int) + 1)), .slice none 0 0] 39)) := hb36.trans (((Below.refl _ w6).alloc (Nat.le_refl _) _).mono hb36.size)
        have ha_0 := hid (hcb1_0.out.alloc (.cells #[.int .i64 2, .int .i64 (-((k : Int) + 1)), .slice none 0 0] 39))
        refine wpAnyL_one (i := 4) (by kernel_rfl) (by simp only [List.getElem?_toArray, List.getElem?_cons_zero, List.getElem?_cons_succ] <;> rfl) (by rfl) ?_
        refine opwp_value (v := .slice (some ⟨w6.heap.size, 0, none⟩) 1 1) (w' := (w6.alloc (.cells #[.int .i64 2, .int .i64 (-((k : Int) + 1)), .slice none 0 0] 39))) (by simp [execOp, go_sem, Act.eval]) ⟨.inr ha_0.out, ?_⟩
        simp only [Act.put, List.setIfInBounds_toArray, List.set_cons_zero, List.set_cons_succ]
        have HO7 := hid (HN2.out.below hal)
        refine wpAnyL_one (i := 5) (by kernel_rfl) (by simp only [List.getElem?_toArray, List.getElem?_cons_zero, List.getElem?_cons_succ] <;> rfl) (by rfl) ?_
        refine opwp_append_N _ _ rfl w.heap.size vO3 _ _ rfl HO7.out ⟨2, -((k : Int) + 1), []⟩ (.slice none 0 0) (OwnInts.nil _ _) (by simp) w6.heap.size 1 39 rfl (heap_alloc_new w6 _) (by rw [litsN_length]; omega) (Nat.le_trans HN6.out.size hal.size) ?_
        intro v9 w9 hown9 hg9 hv9
        refine ⟨.inl (by kernel_rfl), ?_⟩
        simp only [Act.put, List.setIfInBounds_toArray, List.set_cons_zero, List.set_cons_succ]
        obtain ⟨m1, m2, m3, m4, m5⟩ := chi_push ha_0.out HO7.out (HN4.out.below hal) ((hal.block _ (Array.getElem?_eq_some_iff.1 HN5.out).1).trans HN5.out) (HN6.out.trans (hal.mono HN6.out.size)) hg9 hown9
        obtain ⟨_, y4, _, f4⟩ := m1.cells
        obtain ⟨g9, c9, rfl, _⟩ := hv9
        refine wpAnyL_pure (i := 6) (v := .pointer (some ⟨w.heap.size + 1, 1, none⟩)) (by simp only [List.getElem?_toArray, List.getElem?_cons_zero, List.getElem?_cons_succ] <;> rfl) (by kernel_rfl) (by kernel_rfl) (by kernel_rfl) (by exact fun _ _ _ h => h) (by decide) (.inl (by kernel_rfl)) (Or.inl ⟨by rfl, fun w _ => (by simp [execOp, go_sem, Act.eval])⟩) (fun _ => ?_)
        simp only [Act.put, List.setIfInBounds_toArray, List.set_cons_zero, List.set_cons_succ]
        refine wpAnyL_one (i := 7) (by kernel_rfl) (by simp only [List.getElem?_toArray, List.getElem?_cons_zero, List.getElem?_cons_succ] <;> rfl) (by rfl) ?_
        refine opwp_skip (w' := (w9.setCell ⟨w.heap.size + 1, 1, none⟩ (.slice (some ⟨g9, 0, none⟩) ((litsN S k).length + 1) c9))) (by simp [execOp, go_sem, Act.eval, y4, f4]) ⟨.inl (by kernel_rfl), ?_⟩
        simp only [Act.put]
        refine wpAnyL_done (by kernel_rfl) ?_ _
        have HCI := hid (show ChI w _ S _ (k + 1) from ⟨by rw [litsN_succ, HSG.out, List.replicate_succ']; exact m2, m3, m4, m5⟩)
        clear m1 m2 m3 m4 m5 y4 f4 hb6 hb36 hal ha_0 HO7 hown9 hg9
        go_wp2_with fail
        go_roundw
        case rel => exact ⟨k + 1, by omega, by go_num, HCI.out⟩
        case measure => simp [intOf]; omega
    · obtain rfl : k = kk := by omega
      obtain ⟨⟨vO3, n1, n2, n3⟩, n4, n5, n6⟩ := hi.out
      obtain ⟨pI, cI, rfl, _⟩ := n4.ints
      rw [numsTo_length] at *
      have BX : Hid (Box2 wr.drew (w.heap.size + 1) 24 (.int .i64 128) vO3) := n1
      have HN2 := hid n2
      have HN4 := hid n4
      have HN5 := hid n5
      have HN6 := hid n6
      clear n1 n2 n3 n4 n5 n6 hi
      go_wp2_with fail
      refine Go.Proofs.YtpdbfbjfodckgaaDoor.wp_region_L 8 5 (fun w' => Box2 w' (w.heap.size + 1) 24 (.int .i64 128) (vO3)) (by kernel_rfl) rfl BX.out (fun _ => ?_)
      refine wpAnyL_pure (i := 0) (v := .pointer (some ⟨w.heap.size + 1, 1, none⟩)) (by simp only [List.getElem?_toArray, List.getElem?_cons_zero] <;> rfl) (by kernel_rfl) (by kernel_rfl) (by kernel_rfl) (by exact fun _ _ _ h => h) (by decide) (.inr BX.out) (Or.inl ⟨by rfl, fun w _ => (by simp [execOp, go_sem, Act.eval])⟩) (fun _ => ?_)
      simp only [Act.put, List.setIfInBounds_toArray, List.set_cons_zero, List.set_cons_succ]
      refine wpAnyL_load2 (i := 1) (v := vO3) (by simp only [List.getElem?_toArray, List.getElem?_cons_zero, List.getElem?_cons_succ] <;> rfl) (by kernel_rfl) (by kernel_rfl) (by kernel_rfl) (by exact fun _ _ _ h => h) (by decide) (Waits.one rfl ⟨⟨1, .data⟩, by simp, rfl, rfl⟩) (by kernel_rfl) (by kernel_rfl) (.inr BX.out) (Or.inl ⟨by rfl, fun w hw => (by have x0 := hw; simp [execOp, go_sem, Act.eval, x0.cells.2.1])⟩) (fun _ => ?_)
      simp only [Act.put, List.setIfInBounds_toArray, List.set_cons_zero, List.set_cons_succ]
      refine wpAnyL_pure (i := 2) (v := .slice pI k cI) (by simp only [List.getElem?_toArray, List.getElem?_cons_zero, List.getElem?_cons_succ] <;> rfl) (by kernel_rfl) (by kernel_rfl) (by kernel_rfl) (by exact fun _ _ _ h => h) (by decide) (.inr BX.out) (Or.inl ⟨by rfl, fun w _ => (by simp [execOp, go_sem, Act.eval])⟩) (fun _ => ?_)
      simp only [Act.put, List.setIfInBounds_toArray, List.set_cons_zero, List.set_cons_succ]
      refine wpAnyL_one (i := 3) (by kernel_rfl) (by simp only [List.getElem?_toArray, List.getElem?_cons_zero, List.getElem?_cons_succ] <;> rfl) (by rfl) ?_
      refine opwp_call (f := 31) (args := #[.slice pI k cI]) (w' := wr.drew) (by simp [go_sem, Act.eval]) ?_
      refine (or_c pI k cI _).mono ?_
      rintro e w6 ⟨rfl, hb6⟩
      have hcc1_0 := hid (BX.out.below hb6 BX.out.lt)
      refine .inl ⟨_, rfl, .inr hcc1_0.out, ?_⟩
      simp only [Act.put, List.setIfInBounds_toArray, List.set_cons_zero, List.set_cons_succ]
      have hb36 := (Below.refl wr.heap.size wr).drew.trans hb6
      have hal : Below wr.heap.size wr (w6.alloc (.cells #[.int .i64 4, .int .i64 0, .slice pI k cI] 39)) := hb36.trans (((Below.refl _ w6).alloc (Nat.le_refl _) _).mono hb36.size)
      have ha_0 := hid (hcc1_0.out.alloc (.cells #[.int .i64 4, .int .i64 0, .slice pI k cI] 39))
      refine wpAnyL_one (i := 4) (by kernel_rfl) (by simp only [List.getElem?_toArray, List.getElem?_cons_zero, List.getElem?_cons_succ] <;> rfl) (by rfl) ?_
      refine opwp_value (v := .slice (some ⟨w6.heap.size, 0, none⟩) 1 1) (w' := (w6.alloc (.cells #[.int .i64 4, .int .i64 0, .slice pI k cI] 39))) (by simp [execOp, go_sem, Act.eval]) ⟨.inr ha_0.out, ?_⟩
      simp only [Act.put, List.setIfInBounds_toArray, List.set_cons_zero, List.set_cons_succ]
      have HO7 := hid (HN2.out.below hal)
      refine wpAnyL_one (i := 5) (by kernel_rfl) (by simp only [List.getElem?_toArray, List.getElem?_cons_zero, List.getElem?_cons_succ] <;> rfl) (by rfl) ?_
      refine opwp_append_N _ _ rfl w.heap.size vO3 _ _ rfl HO7.out ⟨4, 0, numsTo k⟩ (.slice pI k cI) (HN4.out.below hal) (by show (numsTo k).length ≤ _; rw [numsTo_length]; omega) w6.heap.size 1 39 rfl (heap_alloc_new w6 _) (by rw [litsN_length]; omega) (Nat.le_trans HN6.out.size hal.size) ?_
      intro v9 w9 hown9 hg9 hv9
      refine ⟨.inl (by kernel_rfl), ?_⟩
      simp only [Act.put, List.setIfInBounds_toArray, List.set_cons_zero, List.set_cons_succ]
      obtain ⟨m1, m2, m3, m4, m5⟩ := chi_push ha_0.out HO7.out (HN4.out.below hal) ((hal.block _ (Array.getElem?_eq_some_iff.1 HN5.out).1).trans HN5.out) (HN6.out.trans (hal.mono HN6.out.size)) hg9 hown9
      obtain ⟨_, y4, _, f4⟩ := m1.cells
      obtain ⟨g9, c9, rfl, _⟩ := hv9
      refine wpAnyL_pure (i := 6) (v := .pointer (some ⟨w.heap.size + 1, 1, none⟩)) (by simp only [List.getElem?_toArray, List.getElem?_cons_zero, List.getElem?_cons_succ] <;> rfl) (by kernel_rfl) (by kernel_rfl) (by kernel_rfl) (by exact fun _ _ _ h => h) (by decide) (.inl (by kernel_rfl)) (Or.inl ⟨by rfl, fun w _ => (by simp [execOp, go_sem, Act.eval])⟩) (fun _ => ?_)
      simp only [Act.put, List.setIfInBounds_toArray, List.set_cons_zero, List.set_cons_succ]
      refine wpAnyL_one (i := 7) (by kernel_rfl) (by simp only [List.getElem?_toArray, List.getElem?_cons_zero, List.getElem?_cons_succ] <;> rfl) (by rfl) ?_
      refine opwp_skip (w' := (w9.setCell ⟨w.heap.size + 1, 1, none⟩ (.slice (some ⟨g9, 0, none⟩) ((litsN S k).length + 1) c9))) (by simp [execOp, go_sem, Act.eval, y4, f4]) ⟨.inl (by kernel_rfl), ?_⟩
      simp only [Act.put]
      refine wpAnyL_done (by kernel_rfl) ?_ _
      have HNM := hid m2
      have HB9 := hid m5
      clear m1 m2 m3 m4 m5 y4 f4 hb6 hb36 hal ha_0 HO7 hown9 hg9 BX HN2 HN4 HN5 HN6
      generalize (w9.setCell ⟨w.heap.size + 1, 1, none⟩ (.slice (some ⟨g9, 0, none⟩) ((litsN S k).length + 1) c9)) = wm at *
      obtain ⟨vN, b1, b2, b3⟩ := HNM.out
      have hnodes : NodesAt wm vN (chL S k) := b2.nodes
      obtain ⟨pN, cN, rfl, _⟩ := hnodes
      have HNA := hid (show NodesAt wm (.slice pN (chL S k).length cN) (chL S k) from b2.nodes)
      rw [chL_length] at *
      have HBX := hid b1
      have HLS := hid (chL_smT S hk128)
      have hlt : (smT (chL S k)).length ≤ 65536 := by rw [HLS.out]; split <;> omega
      have HSM := hid (fun w' (h : Below wm.heap.size wm w') => Smoothed_c 128 (chL S k) _ w' (HNA.out.below h) (chL_valid S hk128) (HT.out.below HT.out.lt (HB9.out.trans (h.mono HB9.out.size))) hlt (fun x hx => Nat.le_trans (chL_ins hk128 x hx) (by decide)))
      have HDT := hid (fun w' (h : Below wm.heap.size wm w') => Deterministic_c 128 (chL S k) _ w' (HNA.out.below h) (HT.out.below HT.out.lt (HB9.out.trans (h.mono HB9.out.size))) (HP.out.below HP.out.lt (HB9.out.trans (h.mono HB9.out.size))))
      have HSN := hid (fun w' (h : Below wm.heap.size wm w') => Smooth_c 128 (chL S k) _ w' (HNA.out.below h))
      have HDN := hid (fun w' (h : Below wm.heap.size wm w') => Decomposable_c 128 (chL S k) _ w' (HNA.out.below h))
      have HWK := hid (fun w' (h : Below wm.heap.size wm w') => works_c w' (HT.out.below HT.out.lt (HB9.out.trans (h.mono HB9.out.size))) (HP.out.below HP.out.lt (HB9.out.trans (h.mono HB9.out.size))))
      have HV2 := hid (smT_valid (chL_valid S hk128) hlt)
      have hno : detNo ⟨128, chL S k⟩ = if 16 < k then 2 else 0 := by
        unfold detNo
        rw [chL_valid S hk128, if_pos rfl]
        show (if 16 < (mems (litsVS (chL S k))).length then (2 : Int) else 0) = _
        rw [chL_len S hk128]
      unfold DetPost at HDT
      rw [hno] at HDT
      unfold DecPost at HSN HDN
      rw [chL_valid S hk128, chL_smooth S hk128, Bool.true_and] at HSN
      rw [chL_valid S hk128, chL_decom S k, Bool.true_and] at HDN
      have HS2 := hid (smT_smooth (chL_valid S hk128))
      have HD2 := hid (smT_dec (chL_valid S hk128) (chL_decom S k))
      obtain ⟨x0, x1, _, _⟩ := b1.cells
      clear b1 b2 b3 HNM hno hlt
      go_wp2_with fail
      refine (HSM.out _ (Below.refl _ _)).mono ?_
      rintro e w5 ⟨v5, vs5, rfl, hown5, hb5⟩
      obtain ⟨p5, c5, rfl, hd5⟩ := hown5.nodes
      have HNS := hid (show NodesAt w5 (.slice p5 (smT (chL S k)).length c5) (smT (chL S k)) from hown5.nodes)
      have HB5 := hid hb5
      clear x0 x1 hown5 hb5 HSM hd5
      obtain ⟨x0, x1, _, _⟩ := (HBX.out.below HB5.out HBX.out.lt).cells
      have hsx := Box2.new w5 24 (.int .i64 128) (.slice p5 (smT (chL S k)).length c5)
      have HSX := hid hsx
      have hb6 : Below wm.heap.size wm (w5.alloc (.cells #[.int .i64 128, .slice p5 (smT (chL S k)).length c5] 24)) := HB5.out.alloc HB5.out.size _
      have HB6 := hid hb6
      have hal : Below w5.heap.size w5 (w5.alloc (.cells #[.int .i64 128, .slice p5 (smT (chL S k)).length c5] 24)) := (Below.refl _ w5).alloc (Nat.le_refl _) _
      have HN6 := hid (HNS.out.below hal)
      have lx5 : w.heap.size + 1 < w5.heap.size := cell_lt x0
      clear hb6 hsx hal HNS
      have hsT := fun w' (h : Below (w5.alloc (.cells #[.int .i64 128, .slice p5 (smT (chL S k)).length c5] 24)).heap.size (w5.alloc (.cells #[.int .i64 128, .slice p5 (smT (chL S k)).length c5] 24)) w') => Smooth_c 128 (smT (chL S k)) _ w' (HN6.out.below h)
      have hdT := fun w' (h : Below (w5.alloc (.cells #[.int .i64 128, .slice p5 (smT (chL S k)).length c5] 24)).heap.size (w5.alloc (.cells #[.int .i64 128, .slice p5 (smT (chL S k)).length c5] 24)) w') => Decomposable_c 128 (smT (chL S k)) _ w' (HN6.out.below h)
      unfold DecPost at hsT hdT
      rw [HV2.out, HS2.out] at hsT
      rw [HV2.out, HD2.out] at hdT
      have HST := hid hsT
      have HDS := hid hdT
      clear hsT hdT
      go_wp2_with fail
      generalize w5.alloc (.cells #[.int .i64 128, .slice p5 (smT (chL S k)).length c5] 24) = w6 at *
      refine (HDT.out _ HB6.out).mono ?_
      rintro e w7 ⟨rfl, hb7⟩
      have HB7 := hid hb7
      have HM7 := hid (HB6.out.trans (hb7.mono HB6.out.size))
      clear x0 x1 hb7
      obtain ⟨x0, x1, _, _⟩ := (HBX.out.below HM7.out HBX.out.lt).cells
      obtain ⟨z0, z1, _, _⟩ := (HSX.out.below HB7.out HSX.out.lt).cells
      have lz : w5.heap.size < w7.heap.size := cell_lt z0
      generalize hno : (if 16 < k then (2 : Int) else 0) = no
      obtain ⟨d16, d16b⟩ : ((no == 2) == decide (16 < (k : Int))) = true ∧ (no = 2 ∧ 16 < (k : Int) ∨ no = 0 ∧ ¬ 16 < (k : Int)) := by
        rw [← hno]
        by_cases h : 16 < k
        · rw [if_pos h, decide_eq_true (show 16 < (k : Int) by omega)]; exact ⟨rfl, .inl ⟨rfl, by omega⟩⟩
        · rw [if_neg h, decide_eq_false (show ¬ 16 < (k : Int) by omega)]; exact ⟨rfl, .inr ⟨rfl, by omega⟩⟩
      clear hno d16
      generalize hyes : detYes ⟨128, chL S k⟩ = ye
      clear hyes
      have hk2 : (1 < (k : Int) ∧ decide (k < 2) = false ∧ (smT (chL S k)).length = 5 * k + 1) ∨ (¬ 1 < (k : Int) ∧ decide (k < 2) = true ∧ (smT (chL S k)).length = k + 1) := by
        by_cases h : 1 < k
        · exact .inl ⟨by omega, decide_eq_false (by omega), by rw [HLS.out, if_pos h]⟩
        · exact .inr ⟨by omega, decide_eq_true (by omega), by rw [HLS.out, if_neg h]⟩
      have h3c : (no = 2 ∧ 16 < (k : Int) ∧ 1 < (k : Int) ∧ decide (k < 2) = false ∧ (smT (chL S k)).length = 5 * k + 1) ∨ (no = 0 ∧ ¬ 16 < (k : Int) ∧ 1 < (k : Int) ∧ decide (k < 2) = false ∧ (smT (chL S k)).length = 5 * k + 1) ∨ (no = 0 ∧ ¬ 16 < (k : Int) ∧ ¬ 1 < (k : Int) ∧ decide (k < 2) = true ∧ (smT (chL S k)).length = k + 1) := by
        rcases d16b with ⟨a, b⟩ | ⟨a, b⟩
        · rcases hk2 with ⟨c, d⟩ | ⟨c, d⟩
          · exact .inl ⟨a, b, c, d⟩
          · omega
        · rcases hk2 with ⟨c, d⟩ | ⟨c, d⟩
          · exact .inr (.inl ⟨a, b, c, d⟩)
          · exact .inr (.inr ⟨a, b, c, d⟩)
      clear d16b hk2
      rcases h3c with ⟨rfl, h16, h1, h2, h3⟩ | ⟨rfl, h16, h1, h2, h3⟩ | ⟨rfl, h16, h1, h2, h3⟩
      all_goals
        rw [h2] at HSN
        clear h2
        have HL3 := hid h3
        clear h3
        go_wp2_with fail
        refine (HST.out _ HB7.out).mono ?_
        rintro e w8 ⟨rfl, hb8⟩
        have HB8 := hid (HB7.out.trans (hb8.mono HB7.out.size))
        have HM8 := hid (HM7.out.trans (hb8.mono HM7.out.size))
        clear x0 x1 z0 z1 hb8 HB7 HM7 HST HDT
        obtain ⟨x0, x1, _, _⟩ := (HBX.out.below HM8.out HBX.out.lt).cells
        go_wp2_with fail
        refine (HSN.out _ HM8.out).mono ?_
        rintro e w9 ⟨rfl, hb9⟩
        have HB9' := hid (HB8.out.trans (hb9.mono HB8.out.size))
        have HM9 := hid (HM8.out.trans (hb9.mono HM8.out.size))
        clear x0 x1 hb9 HB8 HM8 HSN
        obtain ⟨x0, x1, _, _⟩ := (HBX.out.below HM9.out HBX.out.lt).cells
        obtain ⟨z0, z1, _, _⟩ := (HSX.out.below HB9'.out HSX.out.lt).cells
        have lz : w5.heap.size < w9.heap.size := cell_lt z0
        generalize hN : (smT (chL S k)).length = N at *
        have HLN := hid hN
        clear hN
        have HL4 := HL3.out
        first
          | (have hend : ((N : Int) == (k : Int) + 1 + 4 * (k : Int)) = true := by rw [beq_iff_eq]; omega)
          | (have hend : ((N : Int) == (k : Int) + 1) = true := by rw [beq_iff_eq]; omega)
        clear HL4
        go_wp2_with fail
        refine (HDS.out _ HB9'.out).mono ?_
        rintro e w10 ⟨rfl, hb10⟩
        have HM10 := hid (HM9.out.trans (hb10.mono HM9.out.size))
        clear x0 x1 z0 z1 hb10 HM9 HB9' HDS
        obtain ⟨x0, x1, _, _⟩ := (HBX.out.below HM10.out HBX.out.lt).cells
        go_wp2_with fail
        refine (HDN.out _ HM10.out).mono ?_
        rintro e w11 ⟨rfl, hb11⟩
        have HM11 := hid (HM10.out.trans (hb11.mono HM10.out.size))
        clear x0 x1 hb11 HM10 HDN
        go_wp2_with fail
        refine (HWK.out _ HM11.out).mono ?_
        rintro e w12 ⟨rfl, hb12⟩
        have HM12 := hid (HM11.out.trans (hb12.mono HM11.out.size))
        clear hb12 HM11 HWK
        go_wp2_with fail
        go_ret
        exact ⟨rfl, HB9.out.trans (HM12.out.mono HB9.out.size)⟩
end Go.Proofs.YtpdbfbjfodckgaaDoor
