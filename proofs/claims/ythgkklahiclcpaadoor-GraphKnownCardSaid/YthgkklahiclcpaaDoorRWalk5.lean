/- Walks of the reference censusref03: numbers, the first variable, unions, equal lists. -/
import Derived.Test.YthgkklahiclcpaaDoorRWalk4
namespace Go.Proofs.YthgkklahiclcpaaDoor
open Go.RowKit
attribute [local go_sem] bits_or bits_and bits_andNot

/-- A slice in new memory, by its shape. -/
theorem NewInts.cases {w : World} {B : Nat} {v : Value} {l : List Int} (h : NewInts w B v l) :
    (v = .slice none 0 0 ∧ l = []) ∨ ∃ g cap, v = .slice (some ⟨g, 0, none⟩) l.length cap ∧ B ≤ g ∧ g < w.heap.size ∧ l ≠ [] ∧ ∀ i, i < l.length → w.cell? ⟨g, i, none⟩ = some (.int .i64 (l[i]?.getD 0)) := by
  by_cases hl : l = []
  · exact .inl ⟨h.2.2 hl, hl⟩
  · right
    have hi := h.ints
    obtain ⟨⟨h0, h1 | ⟨g, cap, cur, rfl, hB, hg, r⟩⟩, hnil⟩ := h
    · exact absurd (List.eq_nil_of_length_eq_zero h1.2) hl
    · obtain ⟨p, c, e, hc⟩ := hi
      rcases hc with hc | ⟨b, off, rfl, hc⟩
      · exact absurd hc hl
      · cases e
        exact ⟨g, cap, rfl, hB, (Array.getElem?_eq_some_iff.1 hg).1, hl, fun i hi => by simpa using hc i hi⟩

set_option maxHeartbeats 400000 in
theorem rLen_c (s : VS) (w : World) :
    Calls Tryd.prog 50 #[encS s] w fun e w' => e = .returned (.int .i64 (len s)) ∧ Below w.heap.size w w' := by
  have hl : Hid (len s = ((mems s).length : Int)) := rfl
  go_enter Tryd.func50, Tryd.ntmps50
  go_wp2_with fail
  refine (rList_c s _).mono ?_; rintro e w1 ⟨v, rfl, hv, hb⟩
  have hB := ((Below.refl _ w).alloc (Nat.le_refl _) _).trans (hb.mono (by simp))
  rcases hv.cases with ⟨rfl, hm⟩ | ⟨g, cap, rfl, _, _, hm, hc⟩
  · have HM := hid hm
    clear hm hv hb
    go_wp2
    go_ret
    exact ⟨by rw [hl.out, HM.out]; rfl, hB⟩
  · have HC := hid hc
    clear hc hm hv hb
    go_wp2
    go_ret
    exact ⟨by rw [hl.out]; rfl, hB⟩
set_option maxRecDepth 100000 in
set_option maxHeartbeats 1000000 in
theorem rWith_c (s : VS) (v : Int) (w : World) :
    Calls Tryd.prog 63 #[encS s, .int .i64 v] w fun e w' => e = .returned (encS (withV s v)) ∧ Below w.heap.size w w' := by
  obtain ⟨i0, hi, hz0, hz1, hz2⟩ := info_parts info_int
  have sr := (SetVar.new (w.alloc (.cells #[.int .u64 ((lw s).toNat : Int), .int .u64 ((hw s).toNat : Int)] 35)) 0 35)
  simp only [World.size_alloc] at sr
  have hB0 : Below w.heap.size w ((w.alloc (.cells #[.int .u64 ((lw s).toNat : Int), .int .u64 ((hw s).toNat : Int)] 35)).alloc (.cells #[.int .u64 0, .int .u64 0] 35)) := ((Below.refl _ w).alloc (Nat.le_refl _) _).alloc (by simp) _
  go_enter Tryd.func63, Tryd.ntmps63
  go_wp2_with fail
  refine (rList_c s _).mono ?_; rintro e w1 ⟨vl, rfl, hv, hb⟩
  simp only [World.size_alloc] at hv hb
  have hB1 := hB0.trans (hb.mono (by omega))
  have sr1 := sr.below hb (by omega)
  have hs1 := hb.size
  simp only [World.size_alloc] at hs1
  have hml := mems_length s
  have hrow := hv.1
  clear hB0 sr hb
  go_wp2_with (at_builtin; refine wpList_append_own _ rfl _ _ 25 rfl (w.heap.size + 1 + 1) 3 i0 (.int .i64 0) 1 8 Tryd.underlying25 hi hz0 hz1 hz2 rfl (by decide) _ _ _ rfl (hrow.alloc _) ⟨w1.heap.size, 0, none⟩ 1 1 [.int .i64 v] rfl rfl (cell_one_new _ _ _) (by simp [Value.oneCell']) (by unfold maxLen; omega) (by omega) (by simp; omega) ?_; intro v' w3 hown' hgrow _; obtain ⟨g', cap', rfl⟩ := ownsRow_succ hown')
  have hlt2 := hrow.lt
  have hn2 : NewInts w3 (w.heap.size + 1 + 1) (.slice (some ⟨g', 0, none⟩) ((mems s).length + 1) cap') (mems s ++ [v]) := ⟨by simpa using hown', by simp⟩
  have hB3 := (hB1.alloc (by omega) _).grown hgrow (by simp; omega) (fun j e => by have := hlt2 j e; omega)
  have sr3 := (sr1.alloc _).kept hgrow (fun e => by have := hlt2 _ e.symm; omega)
  have hs3 := hgrow.size
  simp only [World.size_alloc] at hs3
  clear hown' hgrow hlt2 hrow hB1 sr1 hv
  refine (rOf_c _ (mems s ++ [v]) _ hn2.ints (by simp; omega)).mono ?_; rintro e w4 ⟨rfl, hb4⟩
  have sr4 := sr3.below hb4 (by omega)
  have hB4 := hB3.trans (hb4.mono (by omega))
  obtain ⟨r0, r1, q0, q1⟩ := sr4.cells
  have he : ofL (mems s ++ [v]) = withV s v := by
    rw [ofL, List.foldl_append]; show withV (ofL (mems s)) v = _; rw [ofL_mems]
  rw [he]
  clear sr3 hB3 hn2 hb4
  go_wp2
  refine bodyPost_ret (results_set rfl rfl (sr4.store _)) rfl ?_
  exact ⟨rfl, (hB4.setCell (by simp <;> omega) _).setCell (by simp <;> omega) _⟩

/-- Equal lists of numbers, up to k. -/
def eqTo (a b : List Int) (k : Nat) : Prop := ∀ i, i < k → a[i]?.getD 0 = b[i]?.getD 0
theorem eq_of_eqTo {a b : List Int} (h : a.length = b.length) (he : eqTo a b a.length) : a = b := by
  apply List.ext_getElem h
  intro i h1 h2
  have := he i h1
  simpa [h1, h2] using this
end Go.Proofs.YthgkklahiclcpaaDoor
