/- Proved: the law VarsOne of the layer vars: With and Without change one variable alone, at every set and every two numbers; the examples hold. Condition: the table of math/bits is as its initialiser lays it, tied by the card. -/
import Derived.Test.YthckmpdnkinmlaaDoorLawA
import Derived.Test.YthckmpdnkinmlaaDoorInv
import Derived.Test.YthckmpdnkinmlaaDoorFrame
import Derived.Test.YthckmpdnkinmlaaDoorCards
namespace Go.Proofs.YthckmpdnkinmlaaDoor
open Go.ChangeShapes Go.WideShapes Go.ChangeAt Go.WideMaps Go.WideElems Go.RowKit
attribute [local go_sem ↓] run_eqlS run_neqS

theorem one_of (s : VS) (v : Int) : (decide (1 ≤ v) && decide (v ≤ 128)) = has (withV s v) v ∧ has (withoutV s v) v = false ∧ withoutV (withV s v) v = withoutV s v ∧ withV (withoutV s v) v = withV s v := by
  refine ⟨?_, ?_, ?_, ?_⟩
  · rw [has_withV]
    by_cases h : 1 ≤ v ∧ v ≤ 128
    · simp [h.1, h.2]
    · have : has s v = false := by
        by_cases h1 : v < 1
        · exact has_low h1
        · exact has_high (by omega)
      rw [this]; simp
  · rw [has_withoutV]; simp
  · apply ext_has; intro u h1 h2
    rw [has_withoutV, has_withoutV, has_withV]
    by_cases e : u = v <;> simp [e]
  · apply ext_has; intro u h1 h2
    rw [has_withV, has_withV, has_withoutV]
    by_cases e : u = v
    · subst e; simp [h1, h2]
    · simp [e]
theorem one_other (s : VS) {v u : Int} (h : v ≠ u) : has (withV s v) u = has s u ∧ has (withoutV s v) u = has s u := by
  rw [has_withV, has_withoutV]
  have : ¬ u = v := fun e => h e.symm
  simp [this]
/-- A value, once it is made. -/
def gv (f : Nat → Bool) (i : Nat) (x : Value) : Value := if f i = true then x else undef
theorem gv_upd (f : Nat → Bool) (i j : Nat) (x : Value) : gv (upd f i) j x = if j = i then x else gv f j x := by
  unfold gv upd; by_cases h : j = i <;> simp [h]
theorem gv_t {f : Nat → Bool} {i : Nat} (h : f i = true) (x : Value) : gv f i x = x := by simp [gv, h]
theorem gv_f {f : Nat → Bool} {i : Nat} (h : f i = false) (x : Value) : gv f i x = undef := by simp [gv, h]
/-- The temporaries in the first region. -/
def oneTmps (s : VS) (v u : Int) (b p7 p8 : Nat) (f : Nat → Bool) : Array Value := #[encS s, .int .i64 v, .int .i64 u, .pointer (some ⟨b, 0, none⟩), undef, undef, .bool false, gv f 6 (.pointer (some ⟨p7, 0, none⟩)), gv f 7 (.pointer (some ⟨p8, 0, none⟩)), undef, gv f 0 (encS s), gv f 1 (.int .i64 v), gv f 2 (encS (withV s v)), gv f 3 (encS s), gv f 4 (.int .i64 v), gv f 5 (encS (withoutV s v)), undef, undef, undef, undef, undef, undef, undef, undef, undef, undef, undef, undef, undef, undef, undef, undef, undef, undef, undef, undef, undef, undef, undef, undef, undef, undef, undef, undef, undef, undef, undef, undef, undef, undef, undef, undef, undef, undef, undef, undef, undef, undef, undef, undef, undef, undef, undef, undef, undef, undef, undef, undef]
/-- What holds in the first region. -/
structure OneI (s : VS) (v u : Int) (w : World) (f : Nat → Bool) (a : Act) (w' : World) (p7 p8 : Nat) : Prop where
  act : a = ⟨oneTmps s v u w.heap.size p7 p8 f, []⟩
  hB : Below w.heap.size w w'
  ss : SetVar w' w.heap.size s
  h7 : f 6 = true → w.heap.size < p7 ∧ SetVar w' p7 (if f 8 = true then withV s v else 0)
  h8 : f 7 = true → w.heap.size < p8 ∧ SetVar w' p8 (if f 9 = true then withoutV s v else 0)
  ne : f 6 = true → f 7 = true → p7 ≠ p8
theorem OneI.later {s : VS} {v u : Int} {w : World} {f : Nat → Bool} {a a' : Act} {w' w'' : World} {p7 p8 : Nat} (h : OneI s v u w f a w' p7 p8) (hb : Below w'.heap.size w' w'') {i : Nat} (hi : i < 6)
    (ha : a' = ⟨oneTmps s v u w.heap.size p7 p8 (upd f i), []⟩) : OneI s v u w (upd f i) a' w'' p7 p8 where
  act := ha
  hB := h.hB.trans (hb.mono h.hB.size)
  ss := h.ss.below hb h.ss.lt
  h7 := fun e => by
    have e' : f 6 = true := by simpa [upd, show ¬ 6 = i by omega] using e
    have hh := (h.h7 e').2.below hb (h.h7 e').2.lt
    simpa [upd, show ¬ 8 = i by omega] using ⟨(h.h7 e').1, hh⟩
  h8 := fun e => by
    have e' : f 7 = true := by simpa [upd, show ¬ 7 = i by omega] using e
    have hh := (h.h8 e').2.below hb (h.h8 e').2.lt
    simpa [upd, show ¬ 9 = i by omega] using ⟨(h.h8 e').1, hh⟩
  ne := fun e e2 => h.ne (by simpa [upd, show ¬ 6 = i by omega] using e) (by simpa [upd, show ¬ 7 = i by omega] using e2)
set_option maxRecDepth 100000 in
set_option maxHeartbeats 4000000 in
theorem varsOne_walk (s : VS) (v : Int) (hv : -9223372036854775808 ≤ v ∧ v ≤ 9223372036854775807) (u : Int) (hu : -9223372036854775808 ≤ u ∧ u ≤ 9223372036854775807) (w : World) (hT : TabAt w) :
    Calls Tryd.prog 8 #[encS s, .int .i64 v, .int .i64 u] w fun e w' => e = .returned (.bool true) ∧ Below w.heap.size w w' := by
  have hB : Below w.heap.size w (w.alloc (.cells #[.int .u64 ((lw s).toNat : Int), .int .u64 ((hw s).toNat : Int)] 26)).drew := ((Below.refl _ w).alloc (Nat.le_refl _) _).drew
  have ss : SetVar (w.alloc (.cells #[.int .u64 ((lw s).toNat : Int), .int .u64 ((hw s).toNat : Int)] 26)).drew w.heap.size s := SetVar.new w s 26
  go_enter Tryd.func8, Tryd.ntmps8
  go_wp2_with fail
  refine Go.Proofs.YthckmpdnkinmlaaDoor.wp_region_inv (fun f a w' => ∃ p7 p8, OneI s v u w f a w' p7 p8) rfl (by decide +kernel) ?_ ?_ ?_
  · exact ⟨0, 0, rfl, hB, ss, fun h => (by cases h), fun h => (by cases h), fun h => (by cases h)⟩
  · rintro f i a w1 ⟨p7, p8, hI⟩ hi hf hcl hdep
    have hi : i < 10 := hi
    have ha := hI.act
    obtain ⟨z0, z1, _, _⟩ := hI.ss.cells
    subst ha
    rcases (by omega : i = 0 ∨ i = 1 ∨ i = 2 ∨ i = 3 ∨ i = 4 ∨ i = 5 ∨ i = 6 ∨ i = 7 ∨ i = 8 ∨ i = 9) with rfl | rfl | rfl | rfl | rfl | rfl | rfl | rfl | rfl | rfl
    · refine wpOp_value rfl rfl (v := encS s) (w' := w1) ?_ ⟨p7, p8, hI.later (Below.refl _ _) (by omega) ?_⟩
      · simp [execOp, go_sem, Act.eval, oneTmps, z0, z1]
      · simp [Act.put, oneTmps, gv_upd]
    · refine wpOp_value rfl rfl (v := .int .i64 v) (w' := w1) ?_ ⟨p7, p8, hI.later (Below.refl _ _) (by omega) ?_⟩
      · simp [execOp, go_sem, Act.eval, oneTmps]
      · simp [Act.put, oneTmps, gv_upd]
    · have d := hdep _ rfl
      simp [Region.binds] at d
      obtain ⟨d0, d1⟩ := d
      refine wpOp_call rfl rfl (f := 31) (args := #[encS s, .int .i64 v]) (w' := w1) ?_ ?_
      · simp [execOp, go_sem, Act.eval, oneTmps, gv_t d0, gv_t d1]
      · refine (With_c _ _ _).mono ?_
        rintro e w2 ⟨rfl, hb⟩
        refine ⟨_, rfl, p7, p8, hI.later hb (by omega) ?_⟩
        simp [Act.put, oneTmps, gv_upd]
    · refine wpOp_value rfl rfl (v := encS s) (w' := w1) ?_ ⟨p7, p8, hI.later (Below.refl _ _) (by omega) ?_⟩
      · simp [execOp, go_sem, Act.eval, oneTmps, z0, z1]
      · simp [Act.put, oneTmps, gv_upd]
    · refine wpOp_value rfl rfl (v := .int .i64 v) (w' := w1) ?_ ⟨p7, p8, hI.later (Below.refl _ _) (by omega) ?_⟩
      · simp [execOp, go_sem, Act.eval, oneTmps]
      · simp [Act.put, oneTmps, gv_upd]
    · have d := hdep _ rfl
      simp [Region.binds] at d
      obtain ⟨d3, d4, _⟩ := d
      refine wpOp_call rfl rfl (f := 33) (args := #[encS s, .int .i64 v]) (w' := w1) ?_ ?_
      · simp [execOp, go_sem, Act.eval, oneTmps, gv_t d3, gv_t d4]
      · refine (Without_c _ _ _).mono ?_
        rintro e w2 ⟨rfl, hb⟩
        refine ⟨_, rfl, p7, p8, hI.later hb (by omega) ?_⟩
        simp [Act.put, oneTmps, gv_upd]
    · have hb : Below w1.heap.size w1 (w1.alloc (.cells #[.int .u64 0, .int .u64 0] 26)) := (Below.refl _ w1).alloc (Nat.le_refl _) _
      have n8 : f 8 = false := by
        cases e : f 8 with
        | false => rfl
        | true =>
          have d := hcl 8 _ rfl e
          simp [Region.binds] at d
          have : f 6 = true := by first | exact d.1 | exact d.2.1 | exact d.2.2.1
          rw [hf] at this; cases this
      refine wpOp_value rfl rfl (v := .pointer (some ⟨w1.heap.size, 0, none⟩)) (w' := w1.alloc (.cells #[.int .u64 0, .int .u64 0] 26)) ?_ ⟨w1.heap.size, p8, ?_, ?_, ?_, ?_, ?_, ?_⟩
      · simp [execOp, go_sem, Act.eval, oneTmps]
      · simp [Act.put, oneTmps, gv_upd]
      · exact hI.hB.trans (hb.mono hI.hB.size)
      · exact hI.ss.below hb hI.ss.lt
      · intro _
        refine ⟨hI.ss.lt, ?_⟩
        simp only [upd, n8]
        exact SetVar.new w1 0 _
      · intro h
        have h' : f 7 = true := by simpa [upd] using h
        have := (hI.h8 h').2.below hb (hI.h8 h').2.lt
        simpa [upd] using ⟨(hI.h8 h').1, this⟩
      · intro _ h e
        have h' : f 7 = true := by simpa [upd] using h
        have := (hI.h8 h').2.lt
        omega
    · have hb : Below w1.heap.size w1 (w1.alloc (.cells #[.int .u64 0, .int .u64 0] 26)) := (Below.refl _ w1).alloc (Nat.le_refl _) _
      have n9 : f 9 = false := by
        cases e : f 9 with
        | false => rfl
        | true =>
          have d := hcl 9 _ rfl e
          simp [Region.binds] at d
          have : f 7 = true := by first | exact d.1 | exact d.2.1 | exact d.2.2.1
          rw [hf] at this; cases this
      refine wpOp_value rfl rfl (v := .pointer (some ⟨w1.heap.size, 0, none⟩)) (w' := w1.alloc (.cells #[.int .u64 0, .int .u64 0] 26)) ?_ ⟨p7, w1.heap.size, ?_, ?_, ?_, ?_, ?_, ?_⟩
      · simp [execOp, go_sem, Act.eval, oneTmps]
      · simp [Act.put, oneTmps, gv_upd]
      · exact hI.hB.trans (hb.mono hI.hB.size)
      · exact hI.ss.below hb hI.ss.lt
      · intro h
        have h' : f 6 = true := by simpa [upd] using h
        have := (hI.h7 h').2.below hb (hI.h7 h').2.lt
        simpa [upd] using ⟨(hI.h7 h').1, this⟩
      · intro _
        refine ⟨hI.ss.lt, ?_⟩
        simp only [upd, n9]
        exact SetVar.new w1 0 _
      · intro h _ e
        have h' : f 6 = true := by simpa [upd] using h
        have := (hI.h7 h').2.lt
        omega
    · have d := hdep _ rfl
      simp [Region.binds] at d
      have dp : f 6 = true := by first | exact d.1 | exact d.2.1 | exact d.2.2.1
      have dv : f 2 = true := by first | exact d.1 | exact d.2.1 | exact d.2.2.1
      obtain ⟨lt7, s7⟩ := hI.h7 dp
      obtain ⟨c0, c1, f0, f1⟩ := s7.cells
      refine wpOp_skip rfl rfl (w' := (w1.setCell ⟨p7, 0, none⟩ (.int .u64 ((lw (withV s v)).toNat : Int))).setCell ⟨p7, 1, none⟩ (.int .u64 ((hw (withV s v)).toNat : Int))) ?_ ?_
      · simp [execOp, go_sem, Act.eval, oneTmps, gv_t dp, gv_t dv, c0, c1, f0, f1]
      · have hst := s7.store (withV s v)
        have hg : w1.grownBy ((w1.setCell ⟨p7, 0, none⟩ (.int .u64 ((lw (withV s v)).toNat : Int))).setCell ⟨p7, 1, none⟩ (.int .u64 ((hw (withV s v)).toNat : Int))) (some p7) := ⟨rfl, rfl, rfl, by simp [World.setCell], fun k hk hne => by
          rw [Below.heap_setCell _ _ _ _ (by intro e; exact hne (by rw [e])), Below.heap_setCell _ _ _ _ (by intro e; exact hne (by rw [e]))]⟩
        generalize (w1.setCell ⟨p7, 0, none⟩ (.int .u64 ((lw (withV s v)).toNat : Int))).setCell ⟨p7, 1, none⟩ (.int .u64 ((hw (withV s v)).toNat : Int)) = w2 at *
        refine ⟨p7, p8, ?_, ?_, ?_, ?_, ?_, ?_⟩
        · simp [Act.put, oneTmps, gv_upd]
        · exact hI.hB.grown hg hI.hB.size (fun k e => by cases e; omega)
        · exact hI.ss.kept hg (by simp <;> omega)
        · intro h
          have h' : f 6 = true := by simpa [upd] using h
          simpa [upd] using ⟨lt7, hst⟩
        · intro h
          have h' : f 7 = true := by simpa [upd] using h
          have hne : p7 ≠ p8 := hI.ne (by first | exact dp | exact h') (by first | exact dp | exact h')
          have := (hI.h8 h').2.kept hg (by simp <;> omega)
          simpa [upd] using ⟨(hI.h8 h').1, this⟩
        · intro h1 h2
          exact hI.ne (by simpa [upd] using h1) (by simpa [upd] using h2)
    · have d := hdep _ rfl
      simp [Region.binds] at d
      have dp : f 7 = true := by first | exact d.1 | exact d.2.1 | exact d.2.2.1
      have dv : f 5 = true := by first | exact d.1 | exact d.2.1 | exact d.2.2.1
      obtain ⟨lt8, s8⟩ := hI.h8 dp
      obtain ⟨c0, c1, f0, f1⟩ := s8.cells
      refine wpOp_skip rfl rfl (w' := (w1.setCell ⟨p8, 0, none⟩ (.int .u64 ((lw (withoutV s v)).toNat : Int))).setCell ⟨p8, 1, none⟩ (.int .u64 ((hw (withoutV s v)).toNat : Int))) ?_ ?_
      · simp [execOp, go_sem, Act.eval, oneTmps, gv_t dp, gv_t dv, c0, c1, f0, f1]
      · have hst := s8.store (withoutV s v)
        have hg : w1.grownBy ((w1.setCell ⟨p8, 0, none⟩ (.int .u64 ((lw (withoutV s v)).toNat : Int))).setCell ⟨p8, 1, none⟩ (.int .u64 ((hw (withoutV s v)).toNat : Int))) (some p8) := ⟨rfl, rfl, rfl, by simp [World.setCell], fun k hk hne => by
          rw [Below.heap_setCell _ _ _ _ (by intro e; exact hne (by rw [e])), Below.heap_setCell _ _ _ _ (by intro e; exact hne (by rw [e]))]⟩
        generalize (w1.setCell ⟨p8, 0, none⟩ (.int .u64 ((lw (withoutV s v)).toNat : Int))).setCell ⟨p8, 1, none⟩ (.int .u64 ((hw (withoutV s v)).toNat : Int)) = w2 at *
        refine ⟨p7, p8, ?_, ?_, ?_, ?_, ?_, ?_⟩
        · simp [Act.put, oneTmps, gv_upd]
        · exact hI.hB.grown hg hI.hB.size (fun k e => by cases e; omega)
        · exact hI.ss.kept hg (by simp <;> omega)
        · intro h
          have h' : f 6 = true := by simpa [upd] using h
          have hne : p7 ≠ p8 := hI.ne (by first | exact dp | exact h') (by first | exact dp | exact h')
          have := (hI.h7 h').2.kept hg (by simp <;> omega)
          simpa [upd] using ⟨(hI.h7 h').1, this⟩
        · intro h
          have h' : f 7 = true := by simpa [upd] using h
          simpa [upd] using ⟨lt8, hst⟩
        · intro h1 h2
          exact hI.ne (by simpa [upd] using h1) (by simpa [upd] using h2)
  · rename_i hk
    rintro f a w1 ⟨p7, p8, hI⟩ hf
    have hf : ∀ i, i < 10 → f i = true := hf
    have hact := hI.act
    subst hact
    obtain ⟨g7, s7⟩ := hI.h7 (hf 6 (by omega))
    obtain ⟨g8, s8⟩ := hI.h8 (hf 7 (by omega))
    have hne := hI.ne (hf 6 (by omega)) (hf 7 (by omega))
    rw [hf 8 (by omega), if_pos rfl] at s7
    rw [hf 9 (by omega), if_pos rfl] at s8
    have hB := hI.hB
    have ss := hI.ss
    refine hk _ _ ?_
    clear hk
    simp only [oneTmps, gv_t (hf 0 (by omega)), gv_t (hf 1 (by omega)), gv_t (hf 2 (by omega)), gv_t (hf 3 (by omega)), gv_t (hf 4 (by omega)), gv_t (hf 5 (by omega)), gv_t (hf 6 (by omega)), gv_t (hf 7 (by omega))]
    clear hI hf
    obtain ⟨o1, o2, o3, o4⟩ := one_of s v
    have l7 := s7.lt
    have l8 := s8.lt
    have lS := ss.lt
    obtain ⟨a0, a1, _, _⟩ := s7.cells
    obtain ⟨b0, b1, _, _⟩ := s8.cells
    obtain ⟨c0, c1, _, _⟩ := ss.cells
    replace hT := hT.below hT.lt hB
    have hin : (1 ≤ v ∧ v ≤ 128 ∧ has (withV s v) v = true) ∨ (¬ 1 ≤ v ∧ has (withV s v) v = false) ∨ (1 ≤ v ∧ ¬ v ≤ 128 ∧ has (withV s v) v = false) := by
      by_cases h1 : 1 ≤ v
      · by_cases h2 : v ≤ 128
        · exact .inl ⟨h1, h2, by rw [← o1]; simp [h1, h2]⟩
        · exact .inr (.inr ⟨h1, h2, by rw [← o1]; simp [h2]⟩)
      · exact .inr (.inl ⟨h1, by rw [← o1]; simp [h1]⟩)
    clear o1
    have hot : v = u ∨ ((v != u) = true ∧ (has (withV s v) u == has s u) = true ∧ (has (withoutV s v) u == has s u) = true) := by
      by_cases h : v = u
      · exact .inl h
      · exact .inr ⟨by simp [h], by rw [(one_other s h).1]; simp, by rw [(one_other s h).2]; simp⟩
    rcases hin with ⟨h1, h2, e1⟩ | ⟨h1, e1⟩ | ⟨h1, h2, e1⟩
    all_goals (
      go_wp2_with fail
      refine (Has_c _ _ _).mono ?_
      rintro e w2 ⟨rfl, hb⟩
      replace s7 := s7.below hb s7.lt
      replace s8 := s8.below hb s8.lt
      replace ss := ss.below hb ss.lt
      replace hT := hT.below hT.lt hb
      replace hB := hB.trans (hb.mono hB.size)
      clear hb
      clear a0 a1 b0 b1 c0 c1 l7 l8 lS
      obtain ⟨a0, a1, _, _⟩ := s7.cells
      obtain ⟨b0, b1, _, _⟩ := s8.cells
      obtain ⟨c0, c1, _, _⟩ := ss.cells
      have l7 := s7.lt
      have l8 := s8.lt
      have lS := ss.lt
      simp only [e1]
      go_wp2_with fail
      refine (Has_c _ _ _).mono ?_
      rintro e w3 ⟨rfl, hb⟩
      replace s7 := s7.below hb s7.lt
      replace s8 := s8.below hb s8.lt
      replace ss := ss.below hb ss.lt
      replace hT := hT.below hT.lt hb
      replace hB := hB.trans (hb.mono hB.size)
      clear hb
      clear a0 a1 b0 b1 c0 c1 l7 l8 lS
      obtain ⟨a0, a1, _, _⟩ := s7.cells
      obtain ⟨b0, b1, _, _⟩ := s8.cells
      obtain ⟨c0, c1, _, _⟩ := ss.cells
      have l7 := s7.lt
      have l8 := s8.lt
      have lS := ss.lt
      simp only [o2]
      rcases hot with rfl | ⟨y3, y4, y5⟩)
    all_goals (
      go_wp2_with fail
      refine wp_region_pure (by kernel_rfl) (by kernel_rfl) ?_
      repeat (go_big_quiet_step ((first
        | (go_at_call 29; exact Calls.ext_of (Has_c _ _ _)))))
      refine wpQuiet_nil ?_
      intro w4 hb
      replace s7 := s7.below hb s7.lt
      replace s8 := s8.below hb s8.lt
      replace ss := ss.below hb ss.lt
      replace hT := hT.below hT.lt hb
      replace hB := hB.trans (hb.mono hB.size)
      clear hb
      clear a0 a1 b0 b1 c0 c1 l7 l8 lS
      obtain ⟨a0, a1, _, _⟩ := s7.cells
      obtain ⟨b0, b1, _, _⟩ := s8.cells
      obtain ⟨c0, c1, _, _⟩ := ss.cells
      have l7 := s7.lt
      have l8 := s8.lt
      have lS := ss.lt
      go_wp2_with fail
      refine wp_region_pure (by kernel_rfl) (by kernel_rfl) ?_
      have q1 := fun x => o3 ▸ Without_c (withV s v) v x
      have q2 := fun x => o4 ▸ With_c (withoutV s v) v x
      have y1 : (withoutV s v == withoutV s v) = true := by simp
      have y2 : (withV s v == withV s v) = true := by simp
      repeat (go_big_quiet_step ((first
        | (go_at_call 31; exact Calls.ext_of (q2 _))
        | (go_at_call 33; exact Calls.ext_of (q1 _))
        | (go_at_call 13; exact Calls.ext_of (works_c _ (hT.below hT.lt (ext_below _ _)))))))
      refine wpQuiet_nil ?_
      intro w5 hb
      replace hB := hB.trans (hb.mono hB.size)
      clear hb
      go_wp2
      go_ret
      exact ⟨rfl, hB⟩)

set_option maxRecDepth 100000 in
theorem varsOne_lifted (os : Os) (started : os.Started) (H : Type) (enc : TypeId × Value → H) :
    ReturnsInHanded {} Tryd.checked os 8 .any (fun w args => (Rows.varsOneSpec.pre enc Tryd.prog Tryd.f8 [] false w args ∧ laidMetH Tryd.prog [("math/bits.deBruijn64tab", Rows.laid_math_bits_deBruijn64tab)] w) ∧ sizedMet enc Tryd.prog Tryd.f8 (OpenSpec.ofChange Rows.varsOneSpec) false w args)
      (Rows.varsOneSpec.post enc Tryd.prog Tryd.f8 false true false false) := by
  refine returnsInHanded_of_change_and (C := Tryd.checked) (X := fun w _ => laidMetH Tryd.prog [("math/bits.deBruijn64tab", Rows.laid_math_bits_deBruijn64tab)] w) (fun _ _ _ hh h => h.of_heap hh) own started (by kernel_rfl) Tryd.func8
    (ChangeSpec.witness_shaped (enc := enc) (C := Tryd.checked) (os := os) (X := fun w _ => laidMetH Tryd.prog [("math/bits.deBruijn64tab", Rows.laid_math_bits_deBruijn64tab)] w) false (World.doorLaid Tryd.prog 400 os) #[.agg #[.int .u64 0, .int .u64 0], .int .i64 0, .int .i64 0] 8 rfl (World.shaped_of_RefB (by kernel_rfl) (by kernel_rfl)) (by kernel_rfl) (by kernel_rfl) (by kernel_rfl) (door_met os _)) ?_
  intro W base args ds gs before hval0 hW _ _ hL _
  have hval : ∀ (j : Nat) t v, Tryd.f8.params[j]? = some t → args[j]? = some v → Value.okWide Tryd.prog W .any base t v := hval0
  have hW' := hW
  obtain ⟨p, q, hA0, hV, rfl, hfz, hnd⟩ := hW
  have hA : DataW.TrodAll enc Tryd.prog W 0 (fun _ => true) true Tryd.f8.params.toList args.toList ds p := hA0
  rw [Tryd.params8] at hA hval
  obtain ⟨v0, vs0, d0, ds0, p0, q0, hargs, rfl, rfl, h0, r0⟩ := trodAll_cons hA
  obtain ⟨v1, vs1, d1, ds1, p1, q1, rfl, rfl, rfl, h1, r1⟩ := trodAll_cons r0
  obtain ⟨v2, vs2, d2, ds2, p2, q2, rfl, rfl, rfl, h2, r2⟩ := trodAll_cons r1
  obtain ⟨rfl, rfl, rfl⟩ := trodAll_nil r2
  obtain rfl : args = #[v0, v1, v2] := by cases args; simp_all
  have k0 := h0
  have lt0 : ∀ x ∈ p0, x.block < W.heap.size := by obtain ⟨m, hm⟩ := k0; exact DataW.trod_lt m _ _ _ hm
  have k1 := h1
  have lt1 : ∀ x ∈ p1, x.block < W.heap.size := by obtain ⟨m, hm⟩ := k1; exact DataW.trod_lt m _ _ _ hm
  have k2 := h2
  have lt2 : ∀ x ∈ p2, x.block < W.heap.size := by obtain ⟨m, hm⟩ := k2; exact DataW.trod_lt m _ _ _ hm
  obtain ⟨rfl, rfl⟩ := trodVars_none hV
  obtain ⟨s0, rfl⟩ := open_set (hval 0 26 v0 rfl rfl) k0
  obtain ⟨s1, rfl, rfl, rfl, wf1⟩ := open_int Tryd.underlying3 (hval 1 3 v1 rfl rfl) h1
  have bd1 := bounds_i64 wf1
  obtain ⟨s2, rfl, rfl, rfl, wf2⟩ := open_int Tryd.underlying3 (hval 2 3 v2 rfl rfl) h2
  have bd2 := bounds_i64 wf2
  have hT := of_laid hL
  clear hA0 hval0 hL
  simp only [List.append_nil] at hW'
  refine (varsOne_walk s0 s1 bd1 s2 bd2 W hT).mono fun e W' ⟨he, bel⟩ => ?_
  subst he
  exact ⟨_, rfl, _, _, _, [], _, [], hW', trodAll_mk1 (shut_bool Tryd.underlying4 _), (trodAll_cons_mk (Below.trod laidOut (by kernel_rfl) (of_decide_eq_true (by kernel_rfl)) k0 bel lt0) (trodAll_cons_mk (shut_int Tryd.underlying3 wf1) (trodAll_cons_mk (shut_int Tryd.underlying3 wf2) trodAll_mk0))), rfl, bel.frame _, fun h => by cases h⟩
theorem varsOne_holds : Rows.VarsOneSaid :=
  OpenClaim.holds_of_wide 8 Tryd.f8 rfl rfl rfl rfl rfl rfl rfl ⟨rfl, rfl, rfl, rfl, rfl⟩ rfl rfl rfl rfl rfl (by kernel_rfl) Tryd.func8 (by kernel_rfl)
    (of_decide_eq_true (by kernel_rfl)) (by unfold Func.isWrapper; rw [if_neg (of_decide_eq_false (by kernel_rfl))]; exact ⟨rfl, rfl⟩)
    (fun os started H enc _ => varsOne_lifted os started H enc)
/-- THE CARD. -/
theorem varsOne_card : Rows.VarsOneCardSaid :=
  Claim7.holds_tied_plain_at .later [] [.data] true Rows.varsOneCard.stood.harness false
    varsOne_holds (fun _ h => by cases h) (by kernel_rfl) (fun _ h => by cases h) varsOne_row_tie rfl ⟨rfl, rfl⟩ (by kernel_rfl) rfl
    (fun f fn hf hfn => by
      obtain rfl : f = 8 := Option.some.inj ((show Tryd.prog.funcNamed "census/censuslaw03.VarsOne" = some 8 by kernel_rfl).symm.trans hf) |>.symm
      obtain rfl : fn = Tryd.f8 := (Option.some.inj (Tryd.func8.symm.trans hfn)).symm
      exact ⟨by kernel_rfl, fun j t ht => by
        rw [Tryd.params8] at ht
        have hm : t ∈ [26, 3, 3] := by simpa using Array.mem_of_getElem? ht
        have hall : ([26, 3, 3].all fun u => !Tryd.prog.wantsStandIn u) = true := by kernel_rfl
        exact (show Tryd.prog.wantsStandIn t = false by simpa using List.all_eq_true.1 hall t hm)⟩)
    (by kernel_rfl)
#print axioms varsOne_card
end Go.Proofs.YthckmpdnkinmlaaDoor
