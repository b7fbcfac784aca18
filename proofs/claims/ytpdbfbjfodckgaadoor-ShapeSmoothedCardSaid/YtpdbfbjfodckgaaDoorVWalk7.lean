/- Walks: the list of a set; the order of sets; all variables up to a number. -/
import Derived.Test.YtpdbfbjfodckgaaDoorVWalk6
import Derived.Test.YtpdbfbjfodckgaaDoorVWalk3
namespace Go.Proofs.YtpdbfbjfodckgaaDoor
open Go.RowKit Go.Shelf
attribute [local go_sem] Oper.semAt_some

theorem info_int : (Tryd.prog.info? 3).map (fun i => (i.zero, i.size, i.bytes)) = some (some (.int .i64 0), 1, 8) := by kernel_rfl
/-- v is a slice in new memory (from block B on) that holds the numbers l; nil just where there is none. -/
def NewInts (w : World) (B : Nat) (v : Value) (l : List Int) : Prop := w.ownsRow B 3 1 v l.length (l.map (Value.int .i64)) ∧ (v = .slice none 0 0 ↔ l = [])
theorem NewInts.ints {w : World} {B : Nat} {v : Value} {l : List Int} (h : NewInts w B v l) : IntsAt w v l := by
  obtain ⟨⟨_, h | ⟨g, cap, cur, rfl, _, hg, hn, _, _, ht⟩⟩, hnil⟩ := h
  · exact ⟨none, 0, by rw [h.1, h.2], .inl (List.eq_nil_of_length_eq_zero h.2)⟩
  · refine ⟨_, cap, rfl, .inr ⟨g, 0, rfl, fun i hi => ?_⟩⟩
    have : (l.map (Value.int .i64))[i]? = some (.int .i64 l[i]) := by simp [hi]
    rw [← ht, List.getElem?_take] at this
    simp [hi] at this
    simp [World.cell?, hg, hi]
    exact this
theorem NewInts.below {w w' : World} {B B' : Nat} {v : Value} {l : List Int} (h : NewInts w B v l) (hb : Below B' w w') (hB : w.heap.size ≤ B') : NewInts w' B v l := by
  obtain ⟨⟨h0, h | ⟨g, cap, cur, rfl, hB', hg, hn, r⟩⟩, hnil⟩ := h
  · exact ⟨⟨h0, .inl h⟩, hnil⟩
  · have := (Array.getElem?_eq_some_iff.1 hg).1
    exact ⟨⟨h0, .inr ⟨g, cap, cur, rfl, hB', (hb.block g (by omega)).trans hg, hn, r⟩⟩, hnil⟩

set_option maxRecDepth 100000 in
set_option maxHeartbeats 2000000 in
theorem AppendSeq_c (Bn : Nat) (s : VS) (w : World) (hBn : SetVar w Bn s) (hT : TabAt w) :
    Calls Tryd.prog 82 #[.slice none 0 0, .func (.func 83) #[] #[.pointer (some ⟨Bn, 0, none⟩)]] w fun e w' => ∃ v, e = .returned v ∧ NewInts w' w.heap.size v (mems s) ∧ Below w.heap.size w w' := by
  refine (callsIn_wide (n := 5)).1 ?_
  have hgl := hT.lt
  obtain ⟨i0, hi, hz0, hz1, hz2⟩ := info_parts info_int
  refine callsIn_of_wp_marks Tryd.func82 rfl trivial ?_ rfl
  simp only [Tryd.ntmps82, List.size_toArray, List.length_cons, List.length_nil, Nat.reduceAdd, Nat.reduceSub, Array.replicate_succ, Array.replicate_zero, List.push_toArray, List.append_toArray, List.nil_append, List.cons_append]
  gi_wp2
  have bO := Boxed.new w 33 (.slice none 0 0)
  have hB0 : Below w.heap.size w (w.alloc (.cells #[.slice none 0 0] 33)) := ((Below.refl _ w).alloc (Nat.le_refl _) _)
  refine wpIn_rangeFunc_ownG rfl (by omega) (gf := 83) (lb := #[.pointer (some ⟨Bn, 0, none⟩)]) rfl trivial (enters_of Tryd.func83 (by kernel_rfl) rfl)
    (members_stops 4 w.heap.size (by omega) hgl Bn s _ (hBn.alloc _) (hT.below hgl hB0)) belowK_t (belowK_b (by simp)) (Below.refl _ _) (fun _ => rfl)
    (fun pre W => (∃ v, Boxed W w.heap.size 33 v ∧ W.ownsRow w.heap.size 3 1 v pre.length (pre.map (Value.int .i64)) ∧ (v = .slice none 0 0 ↔ pre = [])) ∧ Below w.heap.size w W)
    (fun _ _ _ => False)
    (OwnFrom.and (Own.from (holdsRow_own w.heap.size w.heap.size 33 3 1 (fun pre => pre.length) (fun pre => pre.map (Value.int .i64)) (fun pre v => v = .slice none 0 0 ↔ pre = [])) _) (ownFrom_below (Nat.le_refl _) (by simp)))
    (fun _ _ _ _ _ hs _ _ => hs)
    ⟨⟨_, bO, World.ownsRow_nil _ _ _ _, by simp⟩, hB0⟩
    (fun x => { tmps := #[.slice none 0 0, .func (.func 83) #[] #[.pointer (some ⟨Bn, 0, none⟩)], .pointer (some ⟨w.heap.size, 0, none⟩), undef, .slice none 0 0, .int .i64 x, .func (.func 83) #[] #[.pointer (some ⟨Bn, 0, none⟩)], .int .i64 x, undef, undef, undef, undef, undef], defers := [] }) ?assign ?body ?done ?stop
  case assign =>
    intro l x W K hK
    gi_wp2
    exact hK
  case body =>
    rintro l pre x W ⟨⟨v, hv, hrow, hnil⟩, hB⟩ hlt
    have hc := hv.cell
    gi_wp2_with (gi_at_builtin; refine wpListIn_append_own _ rfl _ _ 33 rfl w.heap.size 3 i0 (.int .i64 0) 1 8 Tryd.underlying33 hi hz0 hz1 hz2 rfl (by decide) _ _ _ rfl (hrow.alloc _) ⟨W.heap.size, 0, none⟩ 1 1 [.int .i64 x] rfl rfl (cell_one_new _ _ _) (by simp [Value.oneCell']) (by unfold maxLen; omega) (by omega) (by have := hB.size; simp; omega) ?_; intro v' w1 hown' hgrow _; obtain ⟨g', cap', rfl⟩ := ownsRow_succ hown'; obtain ⟨hv1, hv2, hr2, hk2, hb2⟩ := hv.appended (by decide) hrow hB.size (Nat.le_refl _) hown' hgrow; have hc1 := hv1.cell; have hf1 := hv1.frozen)
    exact ⟨hk2.from _, hb2, ⟨_, hv2, by simpa using hr2, by simp⟩, hB.trans hb2⟩
  case done =>
    rintro D ys W hD rfl ⟨⟨v, hv, hrow, hnil⟩, hB⟩ hK
    have hc := hv.cell
    gi_wp2
    refine ⟨by simp, .inl ⟨_, _, rfl, run_takeDeferred hK, ?_⟩⟩
    exact ⟨_, results_tmp rfl _ _ _, v, rfl, ⟨ownsRow_putObj hrow _ hK rfl, hnil⟩, hB.trans (belowK_b (w := w) (Nat.le_refl _) W D _ _ (by simp at hD; omega) hK rfl rfl)⟩
  case stop =>
    rintro D c pre W _ _ h _
    exact h.elim
set_option maxHeartbeats 400000 in
theorem Collect_c (Bn : Nat) (s : VS) (w : World) (hBn : SetVar w Bn s) (hT : TabAt w) :
    Calls Tryd.prog 75 #[.func (.func 83) #[] #[.pointer (some ⟨Bn, 0, none⟩)]] w fun e w' => ∃ v, e = .returned v ∧ NewInts w' w.heap.size v (mems s) ∧ Below w.heap.size w w' := by
  go_enter Tryd.func75, Tryd.ntmps75
  go_wp2_with (go_at_call 82; refine (AppendSeq_c Bn s _ hBn hT).mono ?_; rintro e w1 ⟨v, rfl, hv, hb⟩)
  go_ret
  exact ⟨_, rfl, hv, hb⟩
def ListPost (s : VS) (w : World) (e : Ending) (w' : World) : Prop := ∃ v, e = .returned v ∧ NewInts w' w.heap.size v (mems s) ∧ Below w.heap.size w w'
theorem NewInts.mono {w : World} {B B' : Nat} {v : Value} {l : List Int} (h : NewInts w B v l) (hB : B' ≤ B) : NewInts w B' v l := by
  obtain ⟨⟨h0, h | ⟨g, cap, cur, rfl, hB', r⟩⟩, hnil⟩ := h
  · exact ⟨⟨h0, .inl h⟩, hnil⟩
  · exact ⟨⟨h0, .inr ⟨g, cap, cur, rfl, by omega, r⟩⟩, hnil⟩
set_option maxHeartbeats 400000 in
theorem List_c (s : VS) (w : World) (hT : TabAt w) :
    Calls Tryd.prog 57 #[encS s] w (ListPost s w) := by
  have hb0 : Below w.heap.size w ((w.alloc (.cells #[.int .u64 ((lw s).toNat : Int), .int .u64 ((hw s).toNat : Int)] 42)).alloc (.cells #[.int .u64 ((lw s).toNat : Int), .int .u64 ((hw s).toNat : Int)] 42)) := ((Below.refl _ w).alloc (Nat.le_refl _) _).alloc (by simp) _
  have hs := SetVar.new (w.alloc (.cells #[.int .u64 ((lw s).toNat : Int), .int .u64 ((hw s).toNat : Int)] 42)) s 42
  rw [World.size_alloc] at hs
  have hT2 := hT.below hT.lt hb0
  go_enter Tryd.func57, Tryd.ntmps57
  go_wp2_with (first | (go_at_call 76; refine (members_c s _).mono ?_; rintro e w1 ⟨rfl, rfl⟩) | (go_at_call 75; refine (Collect_c _ s _ hs hT2).mono ?_; rintro e w1 ⟨v, rfl, hv, hb⟩))
  go_ret
  exact ⟨_, rfl, hv.mono (by simp; omega), hb0.trans (hb.mono (by simp; omega))⟩
end Go.Proofs.YtpdbfbjfodckgaaDoor
