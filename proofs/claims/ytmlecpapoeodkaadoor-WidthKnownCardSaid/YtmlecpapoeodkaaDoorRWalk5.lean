/- Walks of the reference censusref03: numbers, the first variable, unions, equal lists. -/
import Derived.Test.YtmlecpapoeodkaaDoorRWalk4
namespace Go.Proofs.YtmlecpapoeodkaaDoor
open Go.RowKit
attribute [local go_sem] bits_or bits_and bits_andNot

/-- A slice in new memory, by its shape. -/
theorem NewInts.cases {w : World} {B : Nat} {v : Value} {l : List Int} (h : NewInts w B v l) :
    (v = .slice none 0 0 ∧ l = []) ∨ ∃ g cap, v = .slice (some ⟨g, 0, none⟩) l.length cap ∧ B ≤ g ∧ g < w.heap.size ∧ l ≠ [] ∧ ∀ i, i < l.length → w.cell? ⟨g, i, none⟩ = some (.int .i64 (l[i]?.getD 0)) := by
  by_cases hl : l = []
  · exact .inl ⟨h.2.2 hl, hl⟩
  · right
    have hi := h.ints
    obtain ⟨⟨h0, h1 | ⟨g, cap, cur, rfl, hB, hg, r⟩⟩, hnil⟩ := h
    · exact absurd (List.eq_nil_of_length_eq_zero h1.2) hl
    · obtain ⟨p, c, e, hc⟩ := hi
      rcases hc with hc | ⟨b, off, rfl, hc⟩
      · exact absurd hc hl
      · cases e
        exact ⟨g, cap, rfl, hB, (Array.getElem?_eq_some_iff.1 hg).1, hl, fun i hi => by simpa using hc i hi⟩

set_option maxHeartbeats 400000 in
theorem rLen_c (s : VS) (w : World) :
    Calls Tryd.prog 71 #[encS s] w fun e w' => e = .returned (.int .i64 (len s)) ∧ Below w.heap.size w w' := by
  have hl : Hid (len s = ((mems s).length : Int)) := rfl
  go_enter Tryd.func71, Tryd.ntmps71
  go_wp2_with fail
  refine (rList_c s _).mono ?_; rintro e w1 ⟨v, rfl, hv, hb⟩
  have hB := ((Below.refl _ w).alloc (Nat.le_refl _) _).trans (hb.mono (by simp))
  rcases hv.cases with ⟨rfl, hm⟩ | ⟨g, cap, rfl, _, _, hm, hc⟩
  · have HM := hid hm
    clear hm hv hb
    go_wp2
    go_ret
    exact ⟨by rw [hl.out, HM.out]; rfl, hB⟩
  · have HC := hid hc
    clear hc hm hv hb
    go_wp2
    go_ret
    exact ⟨by rw [hl.out]; rfl, hB⟩
set_option maxRecDepth 100000 in
set_option maxHeartbeats 1000000 in
theorem rWith_c (s : VS) (v : Int) (w : World) :
    Calls Tryd.prog 58 #[encS s, .int .i64 v] w fun e w' => e = .returned (encS (withV s v)) ∧ Below w.heap.size w w' := by
  obtain ⟨i0, hi, hz0, hz1, hz2⟩ := info_parts info_int
  have sr := (SetVar.new (w.alloc (.cells #[.int .u64 ((lw s).toNat : Int), .int .u64 ((hw s).toNat : Int)] 32)) 0 32)
  simp only [World.size_alloc] at sr
  have hB0 : Below w.heap.size w ((w.alloc (.cells #[.int .u64 ((lw s).toNat : Int), .int .u64 ((hw s).toNat : Int)] 32)).alloc (.cells #[.int .u64 0, .int .u64 0] 32)) := ((Below.refl _ w).alloc (Nat.le_refl _) _).alloc (by simp) _
  go_enter Tryd.func58, Tryd.ntmps58
  go_wp2_with fail
  refine (rList_c s _).mono ?_; rintro e w1 ⟨vl, rfl, hv, hb⟩
  simp only [World.size_alloc] at hv hb
  have hB1 := hB0.trans (hb.mono (by omega))
  have sr1 := sr.below hb (by omega)
  have hs1 := hb.size
  simp only [World.size_alloc] at hs1
  have hml := mems_length s
  have hrow := hv.1
  clear hB0 sr hb
  go_wp2_with (at_builtin; refine wpList_append_own _ rfl _ _ 23 rfl (w.heap.size + 1 + 1) 3 i0 (.int .i64 0) 1 8 Tryd.underlying23 hi hz0 hz1 hz2 rfl (by decide) _ _ _ rfl (hrow.alloc _) ⟨w1.heap.size, 0, none⟩ 1 1 [.int .i64 v] rfl rfl (cell_one_new _ _ _) (by simp [Value.oneCell']) (by unfold maxLen; omega) (by omega) (by simp; omega) ?_; intro v' w3 hown' hgrow _; obtain ⟨g', cap', rfl⟩ := ownsRow_succ hown')
  have hlt2 := hrow.lt
  have hn2 : NewInts w3 (w.heap.size + 1 + 1) (.slice (some ⟨g', 0, none⟩) ((mems s).length + 1) cap') (mems s ++ [v]) := ⟨by simpa using hown', by simp⟩
  have hB3 := (hB1.alloc (by omega) _).grown hgrow (by simp; omega) (fun j e => by have := hlt2 j e; omega)
  have sr3 := (sr1.alloc _).kept hgrow (fun e => by have := hlt2 _ e.symm; omega)
  have hs3 := hgrow.size
  simp only [World.size_alloc] at hs3
  clear hown' hgrow hlt2 hrow hB1 sr1 hv
  refine (rOf_c _ (mems s ++ [v]) _ hn2.ints (by simp; omega)).mono ?_; rintro e w4 ⟨rfl, hb4⟩
  have sr4 := sr3.below hb4 (by omega)
  have hB4 := hB3.trans (hb4.mono (by omega))
  obtain ⟨r0, r1, q0, q1⟩ := sr4.cells
  have he : ofL (mems s ++ [v]) = withV s v := by
    rw [ofL, List.foldl_append]; show withV (ofL (mems s)) v = _; rw [ofL_mems]
  rw [he]
  clear sr3 hB3 hn2 hb4
  go_wp2
  refine bodyPost_ret (results_set rfl rfl (sr4.store _)) rfl ?_
  exact ⟨rfl, (hB4.setCell (by simp <;> omega) _).setCell (by simp <;> omega) _⟩

/-- Equal lists of numbers, up to k. -/
def eqTo (a b : List Int) (k : Nat) : Prop := ∀ i, i < k → a[i]?.getD 0 = b[i]?.getD 0
theorem eq_of_eqTo {a b : List Int} (h : a.length = b.length) (he : eqTo a b a.length) : a = b := by
  apply List.ext_getElem h
  intro i h1 h2
  have := he i h1
  simpa [h1, h2] using this
set_option maxRecDepth 100000 in
set_option maxHeartbeats 1000000 in
theorem rSame_c (u v : Value) (a b : List Int) (w : World) (hu : IntsAt w u a) (hv : IntsAt w v b) (ha : a.length ≤ 140737488355328) (_hb : b.length ≤ 140737488355328) :
    Calls Tryd.prog 24 #[u, v] w fun e w' => e = .returned (.bool (decide (a = b))) ∧ Below w.heap.size w w' := by
  obtain ⟨p, c, rfl, hp⟩ := hu
  obtain ⟨q, d, rfl, hq⟩ := hv
  have HP := hid hp
  have HQ := hid hq
  clear hp hq
  by_cases hlen : a.length = b.length
  · have hl : ((a.length : Int) != (b.length : Int)) = false := by simp [hlen]
    have HL := hid hlen
    rw [← hlen]
    clear hlen
    have hl : ((a.length : Int) != (a.length : Int)) = false := by simp
    go_enter Tryd.func24, Tryd.ntmps24
    go_wp2
    go_loopw [5] (fun i wr => ∃ k : Nat, k ≤ a.length ∧ i = .int .i64 k ∧ eqTo a b k ∧ Below w.heap.size w wr) (fun i _ => a.length - (intOf i).toNat)
    case atStart => exact ⟨0, Nat.zero_le _, rfl, fun i hi => by omega, Below.refl _ _⟩
    case round =>
      obtain ⟨k, hk, rfl, he, hB⟩ := hrel
      by_cases hlt : k < a.length
      · obtain ⟨b1, o1, rfl, hc1⟩ := HP.out.resolve_left (by intro e; rw [e] at hlt; simp at hlt)
        obtain ⟨b2, o2, rfl, hc2⟩ := HQ.out.resolve_left (by intro e; have := HL.out; rw [e] at this; simp at this; rw [this] at hlt; simp at hlt)
        have h1 := hc1 k hlt
        have h2 := hc2 k (by rw [← HL.out]; exact hlt)
        have d1 := (hB.cell (p := ⟨b1, o1 + k, none⟩) (cell_lt h1)).trans h1
        have d2 := (hB.cell (p := ⟨b2, o2 + k, none⟩) (cell_lt h2)).trans h2
        have z1 : (0 : Int) ≤ (k : Int) := by omega
        have z2 : (k : Int) < (a.length : Int) := by omega
        have HE := hid he
        clear hc1 hc2 h1 h2 he
        by_cases heq : a[k]?.getD 0 = b[k]?.getD 0
        · have HE2 := hid (show eqTo a b (k + 1) from fun i hi => by
            by_cases e : i = k
            · subst e; exact heq
            · exact HE.out i (by omega))
          rw [← heq] at d2
          clear heq
          generalize a[k]?.getD 0 = x at d1 d2
          have hx : (x != x) = false := by simp
          go_wp2_with fail
          go_quiet (fail)
          go_wp2_with fail
          go_roundw
          case rel => exact ⟨k + 1, by omega, by go_num, HE2.out, below_drewN hB _⟩
          case measure => simp [intOf]; omega
        · have hne : decide (a = b) = false := by
            rw [decide_eq_false_iff_not]; intro e; rw [e] at heq; exact heq rfl
          have HN := hid hne
          have hx : (a[k]?.getD 0 != b[k]?.getD 0) = true := by simpa using heq
          clear hne heq
          generalize a[k]?.getD 0 = x at d1 hx
          generalize b[k]?.getD 0 = y at d2 hx
          go_wp2_with fail
          go_quiet (fail)
          go_wp2_with fail
          go_ret
          exact ⟨by rw [HN.out]; rfl, below_drewN hB _⟩
      · obtain rfl : k = a.length := by omega
        have HT := hid (show decide (a = b) = true from decide_eq_true (eq_of_eqTo HL.out he))
        clear he
        go_wp2_with fail
        go_ret
        exact ⟨by rw [HT.out]; rfl, hB⟩
  · have hl : ((a.length : Int) != (b.length : Int)) = true := by simp; omega
    have hne : decide (a = b) = false := by
      rw [decide_eq_false_iff_not]; intro e; rw [e] at hlen; exact hlen rfl
    rw [hne]
    clear hne hlen
    go_enter Tryd.func24, Tryd.ntmps24
    go_wp2_with fail
    go_ret
    exact ⟨rfl, Below.refl _ _⟩
end Go.Proofs.YtmlecpapoeodkaaDoor
