/- Proved: the law VarsKnown of the layer vars: its examples hold. Condition: the table of math/bits is as its initialiser lays it, tied by the card. -/
import Derived.Test.YthckmpdnkinmlaaDoorLawA
import Derived.Test.YthckmpdnkinmlaaDoorInv
import Derived.Test.YthckmpdnkinmlaaDoorFrame
import Derived.Test.YthckmpdnkinmlaaDoorCards
namespace Go.Proofs.YthckmpdnkinmlaaDoor
open Go.ChangeShapes Go.WideShapes Go.ChangeAt Go.WideMaps Go.WideElems Go.RowKit
attribute [local go_sem ↓] run_eqlS run_neqS

theorem kn1 : ((lw (ofL [65])).toNat : Int) = 0 ∧ ((hw (ofL [65])).toNat : Int) = 1 ∧ ((lw (allV (-1))).toNat : Int) = 0 ∧ ((hw (allV (-1))).toNat : Int) = 0 := by decide +kernel
theorem kn2 : (withoutV (ofL [1, 3]) 1 == ofL [3]) = true ∧ (withV (ofL [1]) 129 == ofL [1]) = true ∧ (minus (ofL [1, 2]) (ofL [2, 3]) == ofL [1]) = true := by decide +kernel
theorem kn3 : mems (ofL [128, 3]) = [3, 128] ∧ len (allV 128) = 128 ∧ (allV 1000 == allV 128) = true ∧ first 0 = 0 := by decide +kernel
theorem kn4 : less (ofL [1]) (ofL [1, 3]) = true ∧ less (ofL [1, 3]) (ofL [1, 2]) = true ∧ less (ofL [1]) (ofL [1]) = false := by decide +kernel
/-- A value, once it is made. -/
def gv (f : Nat → Bool) (i : Nat) (x : Value) : Value := if f i = true then x else undef
def gw (f : Nat → Bool) (i : Nat) (x y : Value) : Value := if f i = true then x else y
theorem gv_upd (f : Nat → Bool) (i j : Nat) (x : Value) : gv (upd f i) j x = if j = i then x else gv f j x := by
  unfold gv upd; by_cases h : j = i <;> simp [h]
theorem gw_upd (f : Nat → Bool) (i j : Nat) (x y : Value) : gw (upd f i) j x y = if j = i then x else gw f j x y := by
  unfold gw upd; by_cases h : j = i <;> simp [h]
theorem gv_t {f : Nat → Bool} {i : Nat} (h : f i = true) (x : Value) : gv f i x = x := by simp [gv, h]
theorem gw_t {f : Nat → Bool} {i : Nat} (h : f i = true) (x y : Value) : gw f i x y = x := by simp [gw, h]
/-- The temporaries in a region. -/
def kaTmps (p1 p2 : Nat) (x4 x5 x6 x7 : Value) (q8 q20 q31 q33 : Nat) (f : Nat → Bool) : Array Value := #[.bool false, .pointer (some ⟨p1, 0, none⟩), .pointer (some ⟨p2, 0, none⟩), undef, x4, x5, x6, x7, gv f 0 (.slice (some ⟨q8, 0, none⟩) 1 1), gv f 1 (encS (ofL [65])), gv f 2 (encS (ofL [65])), gv f 3 (.bool false), gv f 4 (.bool false), gv f 5 (encS (allV (-1))), gv f 6 (encS (allV (-1))), gv f 7 (.bool false), gv f 8 (.bool false), gv f 9 (.bool false), gv f 10 (encS (ofL [1, 3])), gv f 11 (encS (withoutV (ofL [1, 3]) 1)), gv f 12 (.slice (some ⟨q20, 0, none⟩) 1 1), gv f 13 (encS (ofL [3])), gv f 14 (.bool false), gv f 15 (.bool false), gv f 16 (.bool false), gv f 17 (encS (ofL [1])), gv f 18 (encS (withV (ofL [1]) 129)), gv f 19 (encS (ofL [1])), gv f 20 (.bool false), gv f 21 (.bool false), gv f 22 (.bool false), gv f 23 (.slice (some ⟨q31, 0, none⟩) 2 2), gv f 24 (encS (ofL [1, 2])), gv f 25 (.slice (some ⟨q33, 0, none⟩) 2 2), gv f 26 (encS (ofL [2, 3])), gv f 27 (encS (minus (ofL [1, 2]) (ofL [2, 3]))), gv f 28 (encS (ofL [1])), gv f 29 (.bool false), gv f 30 (.bool false), undef, undef, undef, undef, undef, undef, undef, undef, undef, undef, undef, undef, undef, undef, undef, undef, undef, undef, undef, undef, undef, undef, undef, undef, undef, undef, undef, undef, undef, undef, undef, undef, undef, undef, undef, undef, undef, undef, undef, undef, undef, undef, undef, undef, undef, undef, undef, undef, undef, undef, undef]
/-- What holds in a region. -/
structure kaI (p1 p2 : Nat) (x4 x5 x6 x7 : Value) (w0 : World) (f : Nat → Bool) (a : Act) (w' : World) (q8 q20 q31 q33 : Nat) : Prop where
  act : a = ⟨kaTmps p1 p2 x4 x5 x6 x7 q8 q20 q31 q33 f, []⟩
  hB : Below w0.heap.size w0 w'
  i0 : f 0 = true → IntsAt w' (.slice (some ⟨q8, 0, none⟩) 1 1) [65]
  i12 : f 12 = true → IntsAt w' (.slice (some ⟨q20, 0, none⟩) 1 1) [3]
  i23 : f 23 = true → IntsAt w' (.slice (some ⟨q31, 0, none⟩) 2 2) [1, 2]
  i25 : f 25 = true → IntsAt w' (.slice (some ⟨q33, 0, none⟩) 2 2) [2, 3]
theorem kaI.later {p1 p2 : Nat} {w0 : World} {x4 x5 x6 x7 : Value} {f : Nat → Bool} {a a' : Act} {w' w'' : World} {q8 q20 q31 q33 : Nat} (h : kaI p1 p2 x4 x5 x6 x7 w0 f a w' q8 q20 q31 q33) (hb : Below w'.heap.size w' w'') {i : Nat} (hi : 0 ≠ i ∧ 12 ≠ i ∧ 23 ≠ i ∧ 25 ≠ i)
    (ha : a' = ⟨kaTmps p1 p2 x4 x5 x6 x7 q8 q20 q31 q33 (upd f i), []⟩) : kaI p1 p2 x4 x5 x6 x7 w0 (upd f i) a' w'' q8 q20 q31 q33 where
  act := ha
  hB := h.hB.trans (hb.mono h.hB.size)
  i0 := fun e => (h.i0 (by simpa [upd, hi.1] using e)).below hb
  i12 := fun e => (h.i12 (by simpa [upd, hi.2.1] using e)).below hb
  i23 := fun e => (h.i23 (by simpa [upd, hi.2.2.1] using e)).below hb
  i25 := fun e => (h.i25 (by simpa [upd, hi.2.2.2] using e)).below hb
/-- The temporaries in a region. -/
def kbTmps (p1 p2 : Nat) (x3 x4 x5 x6 x7 x8 x9 x10 x11 x12 x13 x14 x15 x16 x17 x18 x19 x20 x21 x22 x23 x24 x25 x26 x27 x28 x29 x30 x31 x32 x33 x34 x35 x36 x37 x38 x39 x40 x41 x42 x43 x44 x45 x46 x47 x48 x49 x50 x51 x52 x53 x54 x55 x56 x57 x58 x59 x60 x61 x62 x63 x64 x65 x66 x67 x68 x69 x70 x71 : Value) (q77 : Nat) (f : Nat → Bool) : Array Value := #[gw f 18 (.bool true) (.bool false), .pointer (some ⟨p1, 0, none⟩), .pointer (some ⟨p2, 0, none⟩), x3, x4, x5, x6, x7, x8, x9, x10, x11, x12, x13, x14, x15, x16, x17, x18, x19, x20, x21, x22, x23, x24, x25, x26, x27, x28, x29, x30, x31, x32, x33, x34, x35, x36, x37, x38, x39, x40, x41, x42, x43, x44, x45, x46, x47, x48, x49, x50, x51, x52, x53, x54, x55, x56, x57, x58, x59, x60, x61, x62, x63, x64, x65, x66, x67, x68, x69, x70, x71, gv f 0 (encS (ofL [1])), gv f 1 (encS (ofL [1, 3])), gv f 2 (.bool (less (ofL [1]) (ofL [1, 3]))), gv f 3 (.bool true), gv f 4 (encS (ofL [1, 3])), gv f 5 (.slice (some ⟨q77, 0, none⟩) 2 2), gv f 6 (encS (ofL [1, 2])), gv f 7 (.bool (less (ofL [1, 3]) (ofL [1, 2]))), gv f 8 (.bool true), gv f 9 (.bool true), gv f 10 (encS (ofL [1])), gv f 11 (encS (ofL [1])), gv f 12 (.bool (less (ofL [1]) (ofL [1]))), gv f 13 (.bool true), gv f 14 (.bool true), gv f 15 (.bool true), gv f 16 (.bool true), gv f 17 (.bool true)]
/-- What holds in a region. -/
structure kbI (p1 p2 : Nat) (x3 x4 x5 x6 x7 x8 x9 x10 x11 x12 x13 x14 x15 x16 x17 x18 x19 x20 x21 x22 x23 x24 x25 x26 x27 x28 x29 x30 x31 x32 x33 x34 x35 x36 x37 x38 x39 x40 x41 x42 x43 x44 x45 x46 x47 x48 x49 x50 x51 x52 x53 x54 x55 x56 x57 x58 x59 x60 x61 x62 x63 x64 x65 x66 x67 x68 x69 x70 x71 : Value) (w0 : World) (f : Nat → Bool) (a : Act) (w' : World) (q77 : Nat) : Prop where
  act : a = ⟨kbTmps p1 p2 x3 x4 x5 x6 x7 x8 x9 x10 x11 x12 x13 x14 x15 x16 x17 x18 x19 x20 x21 x22 x23 x24 x25 x26 x27 x28 x29 x30 x31 x32 x33 x34 x35 x36 x37 x38 x39 x40 x41 x42 x43 x44 x45 x46 x47 x48 x49 x50 x51 x52 x53 x54 x55 x56 x57 x58 x59 x60 x61 x62 x63 x64 x65 x66 x67 x68 x69 x70 x71 q77 f, []⟩
  hB : Below w0.heap.size w0 w'
  i5 : f 5 = true → IntsAt w' (.slice (some ⟨q77, 0, none⟩) 2 2) [1, 2]
theorem kbI.later {p1 p2 : Nat} {w0 : World} {x3 x4 x5 x6 x7 x8 x9 x10 x11 x12 x13 x14 x15 x16 x17 x18 x19 x20 x21 x22 x23 x24 x25 x26 x27 x28 x29 x30 x31 x32 x33 x34 x35 x36 x37 x38 x39 x40 x41 x42 x43 x44 x45 x46 x47 x48 x49 x50 x51 x52 x53 x54 x55 x56 x57 x58 x59 x60 x61 x62 x63 x64 x65 x66 x67 x68 x69 x70 x71 : Value} {f : Nat → Bool} {a a' : Act} {w' w'' : World} {q77 : Nat} (h : kbI p1 p2 x3 x4 x5 x6 x7 x8 x9 x10 x11 x12 x13 x14 x15 x16 x17 x18 x19 x20 x21 x22 x23 x24 x25 x26 x27 x28 x29 x30 x31 x32 x33 x34 x35 x36 x37 x38 x39 x40 x41 x42 x43 x44 x45 x46 x47 x48 x49 x50 x51 x52 x53 x54 x55 x56 x57 x58 x59 x60 x61 x62 x63 x64 x65 x66 x67 x68 x69 x70 x71 w0 f a w' q77) (hb : Below w'.heap.size w' w'') {i : Nat} (hi : 5 ≠ i)
    (ha : a' = ⟨kbTmps p1 p2 x3 x4 x5 x6 x7 x8 x9 x10 x11 x12 x13 x14 x15 x16 x17 x18 x19 x20 x21 x22 x23 x24 x25 x26 x27 x28 x29 x30 x31 x32 x33 x34 x35 x36 x37 x38 x39 x40 x41 x42 x43 x44 x45 x46 x47 x48 x49 x50 x51 x52 x53 x54 x55 x56 x57 x58 x59 x60 x61 x62 x63 x64 x65 x66 x67 x68 x69 x70 x71 q77 (upd f i), []⟩) : kbI p1 p2 x3 x4 x5 x6 x7 x8 x9 x10 x11 x12 x13 x14 x15 x16 x17 x18 x19 x20 x21 x22 x23 x24 x25 x26 x27 x28 x29 x30 x31 x32 x33 x34 x35 x36 x37 x38 x39 x40 x41 x42 x43 x44 x45 x46 x47 x48 x49 x50 x51 x52 x53 x54 x55 x56 x57 x58 x59 x60 x61 x62 x63 x64 x65 x66 x67 x68 x69 x70 x71 w0 (upd f i) a' w'' q77 where
  act := ha
  hB := h.hB.trans (hb.mono h.hB.size)
  i5 := fun e => (h.i5 (by simpa [upd, hi] using e)).below hb
set_option maxRecDepth 100000 in
set_option maxHeartbeats 8000000 in
theorem varsKnown_walk (w : World) (hT0 : TabAt w) :
    Calls Tryd.prog 12 #[] w fun e w' => e = .returned (.bool true) ∧ Below w.heap.size w w' := by
  obtain ⟨a1, a2, a3, a4⟩ := kn1
  obtain ⟨b1, b2, b3⟩ := kn2
  obtain ⟨c1, c2, c3, c4⟩ := kn3
  obtain ⟨d1, d2, d3⟩ := kn4
  have C1 := hid c1
  clear c1
  go_enter Tryd.func12, Tryd.ntmps12
  go_wp2_with fail
  refine (Of_c _ [1, 3] _ (IntsAt.lit _ [1, 3] _ (by simp)) (by decide)).mono ?_; rintro e w1 ⟨rfl, hb⟩
  have hB := ((Below.refl _ w).alloc (Nat.le_refl _) (.cells #[.int .i64 1, .int .i64 3] 3)).trans (hb.mono (by simp))
  clear hb
  go_wp2_with fail
  refine (Of_c _ [1] _ (IntsAt.lit _ [1] _ (by simp)) (by decide)).mono ?_; rintro e w2 ⟨rfl, hb⟩
  replace hB := (hB.alloc hB.size (.cells #[.int .i64 1] 3)).trans (hb.mono (by have := hB.size; simp <;> omega))
  clear hb
  go_wp2_with fail
  have hB3 : Below w.heap.size w ((w2.alloc (.cells #[.int .u64 ((lw (ofL [1, 3])).toNat : Int), .int .u64 ((hw (ofL [1, 3])).toNat : Int)] 26)).alloc (.cells #[.int .u64 ((lw (ofL [1])).toNat : Int), .int .u64 ((hw (ofL [1])).toNat : Int)] 26)) := (hB.alloc hB.size _).alloc (by have := hB.size; simp <;> omega) _
  have s1 : SetVar ((w2.alloc (.cells #[.int .u64 ((lw (ofL [1, 3])).toNat : Int), .int .u64 ((hw (ofL [1, 3])).toNat : Int)] 26)).alloc (.cells #[.int .u64 ((lw (ofL [1])).toNat : Int), .int .u64 ((hw (ofL [1])).toNat : Int)] 26)) w2.heap.size (ofL [1, 3]) := (SetVar.new w2 (ofL [1, 3]) _).below ((Below.refl _ _).alloc (Nat.le_refl _) _) (by simp)
  have s2 : SetVar ((w2.alloc (.cells #[.int .u64 ((lw (ofL [1, 3])).toNat : Int), .int .u64 ((hw (ofL [1, 3])).toNat : Int)] 26)).alloc (.cells #[.int .u64 ((lw (ofL [1])).toNat : Int), .int .u64 ((hw (ofL [1])).toNat : Int)] 26)) (w2.heap.size + 1) (ofL [1]) := by simpa using SetVar.new (w2.alloc (.cells #[.int .u64 ((lw (ofL [1, 3])).toNat : Int), .int .u64 ((hw (ofL [1, 3])).toNat : Int)] 26)) (ofL [1]) 26
  have hT : TabAt ((w2.alloc (.cells #[.int .u64 ((lw (ofL [1, 3])).toNat : Int), .int .u64 ((hw (ofL [1, 3])).toNat : Int)] 26)).alloc (.cells #[.int .u64 ((lw (ofL [1])).toNat : Int), .int .u64 ((hw (ofL [1])).toNat : Int)] 26)) := hT0.below hT0.lt hB3
  clear hB
  generalize ((w2.alloc (.cells #[.int .u64 ((lw (ofL [1, 3])).toNat : Int), .int .u64 ((hw (ofL [1, 3])).toNat : Int)] 26)).alloc (.cells #[.int .u64 ((lw (ofL [1])).toNat : Int), .int .u64 ((hw (ofL [1])).toNat : Int)] 26)) = w3 at *
  generalize w2.heap.size + 1 = p2 at *
  generalize w2.heap.size = p1 at *
  refine Go.Proofs.YthckmpdnkinmlaaDoor.wp_region_inv (fun f a w' => ∃ x4 x5 x6 x7 q8 q20 q31 q33, kaI p1 p2 x4 x5 x6 x7 w3 f a w' q8 q20 q31 q33) rfl (by decide +kernel) ?_ ?_ ?_
  · exact ⟨_, _, _, _, 0, 0, 0, 0, rfl, (Below.refl _ w3).drew, fun h => (by cases h), fun h => (by cases h), fun h => (by cases h), fun h => (by cases h)⟩
  · rintro f i a w1 ⟨x4, x5, x6, x7, q8, q20, q31, q33, hI⟩ hi hf hcl hdep
    have hi : i < 31 := hi
    have ha := hI.act
    obtain ⟨z0, z1, _, _⟩ := (s1.below hI.hB s1.lt).cells
    obtain ⟨y0, y1, _, _⟩ := (s2.below hI.hB s2.lt).cells
    subst ha
    rcases (by omega : i = 0 ∨ i = 1 ∨ i = 2 ∨ i = 3 ∨ i = 4 ∨ i = 5 ∨ i = 6 ∨ i = 7 ∨ i = 8 ∨ i = 9 ∨ i = 10 ∨ i = 11 ∨ i = 12 ∨ i = 13 ∨ i = 14 ∨ i = 15 ∨ i = 16 ∨ i = 17 ∨ i = 18 ∨ i = 19 ∨ i = 20 ∨ i = 21 ∨ i = 22 ∨ i = 23 ∨ i = 24 ∨ i = 25 ∨ i = 26 ∨ i = 27 ∨ i = 28 ∨ i = 29 ∨ i = 30) with rfl | rfl | rfl | rfl | rfl | rfl | rfl | rfl | rfl | rfl | rfl | rfl | rfl | rfl | rfl | rfl | rfl | rfl | rfl | rfl | rfl | rfl | rfl | rfl | rfl | rfl | rfl | rfl | rfl | rfl | rfl
    · have hb : Below w1.heap.size w1 (w1.alloc (.cells #[.int .i64 65] 3)) := (Below.refl _ w1).alloc (Nat.le_refl _) _
      refine wpOp_value rfl rfl (v := .slice (some ⟨w1.heap.size, 0, none⟩) 1 1) (w' := w1.alloc (.cells #[.int .i64 65] 3)) ?_ ⟨x4, x5, x6, x7, w1.heap.size, q20, q31, q33, ?_⟩
      · simp [execOp, go_sem]
      · exact { act := (by simp [Act.put, kaTmps, gv_upd]), hB := hI.hB.trans (hb.mono hI.hB.size), i0 := fun _ => IntsAt.lit w1 [65] 3 (by simp), i12 := fun e => (hI.i12 (by simpa [upd] using e)).below hb, i23 := fun e => (hI.i23 (by simpa [upd] using e)).below hb, i25 := fun e => (hI.i25 (by simpa [upd] using e)).below hb }
    · have d := hdep _ rfl
      simp [Region.binds] at d
      refine wpOp_call rfl rfl (f := 14) (args := #[.slice (some ⟨q8, 0, none⟩) 1 1]) (w' := w1) ?_ ?_
      · simp [execOp, go_sem, Act.eval, kaTmps, gv, d]
      · refine (Of_c _ [65] w1 (hI.i0 (by first | exact d | exact d.1 | exact d.2 | exact d.2.1 | exact d.2.2 | exact d.2.2.1 | exact d.2.2.2.1)) (by decide)).mono ?_
        rintro e w2 ⟨rfl, hb⟩
        refine ⟨_, rfl, x4, x5, x6, x7, q8, q20, q31, q33, hI.later hb (by decide) ?_⟩
        simp [Act.put, kaTmps, gv_upd]
    · refine wpOp_value rfl rfl (v := encS (ofL [65])) (w' := w1) ?_ ⟨x4, x5, x6, x7, q8, q20, q31, q33, hI.later (Below.refl _ _) (by decide) ?_⟩
      · simp [execOp, go_sem, Act.eval, kaTmps, gv, encS, a1, a2]
      · simp [Act.put, kaTmps, gv_upd]
    · have d := hdep _ rfl
      simp [Region.binds] at d
      refine wpOp_value rfl rfl (v := .bool false) (w' := w1) ?_ ⟨x4, x5, x6, x7, q8, q20, q31, q33, hI.later (Below.refl _ _) (by decide) ?_⟩
      · simp [execOp, go_sem, Act.eval, kaTmps, gv, d]
      · simp [Act.put, kaTmps, gv_upd]
    · have d := hdep _ rfl
      simp [Region.binds] at d
      refine wpOp_value rfl rfl (v := .bool false) (w' := w1) ?_ ⟨x4, x5, x6, x7, q8, q20, q31, q33, hI.later (Below.refl _ _) (by decide) ?_⟩
      · simp [execOp, go_sem, Act.eval, kaTmps, gv, d]
      · simp [Act.put, kaTmps, gv_upd]
    · have d := hdep _ rfl
      simp [Region.binds] at d
      refine wpOp_call rfl (by simp [Region.wanted, yielded, kaTmps, gv, d]) (f := 17) (args := #[.int .i64 (-1)]) (w' := w1) ?_ ?_
      · simp [execOp, go_sem, Act.eval, kaTmps, gv, d]
      · refine (All_c _ _).mono ?_
        rintro e w2 ⟨rfl, hb⟩
        refine ⟨_, rfl, x4, x5, x6, x7, q8, q20, q31, q33, hI.later hb (by decide) ?_⟩
        simp [Act.put, kaTmps, gv_upd]
    · have d := hdep _ rfl
      simp [Region.binds] at d
      refine wpOp_value rfl (by simp [Region.wanted, yielded, kaTmps, gv, d]) (v := encS (allV (-1))) (w' := w1) ?_ ⟨x4, x5, x6, x7, q8, q20, q31, q33, hI.later (Below.refl _ _) (by decide) ?_⟩
      · simp [execOp, go_sem, Act.eval, kaTmps, gv, d, encS, a3, a4]
      · simp [Act.put, kaTmps, gv_upd]
    · have d := hdep _ rfl
      simp [Region.binds] at d
      refine wpOp_value rfl (by simp [Region.wanted, yielded, kaTmps, gv, d]) (v := .bool false) (w' := w1) ?_ ⟨x4, x5, x6, x7, q8, q20, q31, q33, hI.later (Below.refl _ _) (by decide) ?_⟩
      · simp [execOp, go_sem, Act.eval, kaTmps, gv, d]
      · simp [Act.put, kaTmps, gv_upd]
    · have d := hdep _ rfl
      simp [Region.binds] at d
      refine wpOp_value rfl rfl (v := .bool false) (w' := w1) ?_ ⟨x4, x5, x6, x7, q8, q20, q31, q33, hI.later (Below.refl _ _) (by decide) ?_⟩
      · simp [execOp, go_sem, Act.eval, kaTmps, gv, d]
      · simp [Act.put, kaTmps, gv_upd]
    · have d := hdep _ rfl
      simp [Region.binds] at d
      refine wpOp_value rfl rfl (v := .bool false) (w' := w1) ?_ ⟨x4, x5, x6, x7, q8, q20, q31, q33, hI.later (Below.refl _ _) (by decide) ?_⟩
      · simp [execOp, go_sem, Act.eval, kaTmps, gv, d]
      · simp [Act.put, kaTmps, gv_upd]
    · have d := hdep _ rfl
      simp [Region.binds] at d
      refine wpOp_value rfl (by simp [Region.wanted, yielded, kaTmps, gv, d]) (v := encS (ofL [1, 3])) (w' := w1) ?_ ⟨x4, x5, x6, x7, q8, q20, q31, q33, hI.later (Below.refl _ _) (by decide) ?_⟩
      · simp [execOp, go_sem, Act.eval, kaTmps, gv, d, z0, z1, encS]
      · simp [Act.put, kaTmps, gv_upd]
    · have d := hdep _ rfl
      simp [Region.binds] at d
      refine wpOp_call rfl (by simp [Region.wanted, yielded, kaTmps, gv, d]) (f := 33) (args := #[encS (ofL [1, 3]), .int .i64 1]) (w' := w1) ?_ ?_
      · simp [execOp, go_sem, Act.eval, kaTmps, gv, d]
      · refine (Without_c _ _ _).mono ?_
        rintro e w2 ⟨rfl, hb⟩
        refine ⟨_, rfl, x4, x5, x6, x7, q8, q20, q31, q33, hI.later hb (by decide) ?_⟩
        simp [Act.put, kaTmps, gv_upd]
    · have d := hdep _ rfl
      simp [Region.binds] at d
      have hb : Below w1.heap.size w1 (w1.alloc (.cells #[.int .i64 3] 3)) := (Below.refl _ w1).alloc (Nat.le_refl _) _
      refine wpOp_value rfl (by simp [Region.wanted, yielded, kaTmps, gv, d]) (v := .slice (some ⟨w1.heap.size, 0, none⟩) 1 1) (w' := w1.alloc (.cells #[.int .i64 3] 3)) ?_ ⟨x4, x5, x6, x7, q8, w1.heap.size, q31, q33, ?_⟩
      · simp [execOp, go_sem]
      · exact { act := (by simp [Act.put, kaTmps, gv_upd]), hB := hI.hB.trans (hb.mono hI.hB.size), i0 := fun e => (hI.i0 (by simpa [upd] using e)).below hb, i12 := fun _ => IntsAt.lit w1 [3] 3 (by simp), i23 := fun e => (hI.i23 (by simpa [upd] using e)).below hb, i25 := fun e => (hI.i25 (by simpa [upd] using e)).below hb }
    · have d := hdep _ rfl
      simp [Region.binds] at d
      refine wpOp_call rfl (by simp [Region.wanted, yielded, kaTmps, gv, d]) (f := 14) (args := #[.slice (some ⟨q20, 0, none⟩) 1 1]) (w' := w1) ?_ ?_
      · simp [execOp, go_sem, Act.eval, kaTmps, gv, d]
      · refine (Of_c _ [3] w1 (hI.i12 (by first | exact d | exact d.1 | exact d.2 | exact d.2.1 | exact d.2.2 | exact d.2.2.1 | exact d.2.2.2.1)) (by decide)).mono ?_
        rintro e w2 ⟨rfl, hb⟩
        refine ⟨_, rfl, x4, x5, x6, x7, q8, q20, q31, q33, hI.later hb (by decide) ?_⟩
        simp [Act.put, kaTmps, gv_upd]
    · have d := hdep _ rfl
      simp [Region.binds] at d
      refine wpOp_value rfl (by simp [Region.wanted, yielded, kaTmps, gv, d]) (v := .bool false) (w' := w1) ?_ ⟨x4, x5, x6, x7, q8, q20, q31, q33, hI.later (Below.refl _ _) (by decide) ?_⟩
      · simp [execOp, go_sem, Act.eval, kaTmps, gv, d, b1]
      · simp [Act.put, kaTmps, gv_upd]
    · have d := hdep _ rfl
      simp [Region.binds] at d
      refine wpOp_value rfl rfl (v := .bool false) (w' := w1) ?_ ⟨x4, x5, x6, x7, q8, q20, q31, q33, hI.later (Below.refl _ _) (by decide) ?_⟩
      · simp [execOp, go_sem, Act.eval, kaTmps, gv, d]
      · simp [Act.put, kaTmps, gv_upd]
    · have d := hdep _ rfl
      simp [Region.binds] at d
      refine wpOp_value rfl rfl (v := .bool false) (w' := w1) ?_ ⟨x4, x5, x6, x7, q8, q20, q31, q33, hI.later (Below.refl _ _) (by decide) ?_⟩
      · simp [execOp, go_sem, Act.eval, kaTmps, gv, d]
      · simp [Act.put, kaTmps, gv_upd]
    · have d := hdep _ rfl
      simp [Region.binds] at d
      refine wpOp_value rfl (by simp [Region.wanted, yielded, kaTmps, gv, d]) (v := encS (ofL [1])) (w' := w1) ?_ ⟨x4, x5, x6, x7, q8, q20, q31, q33, hI.later (Below.refl _ _) (by decide) ?_⟩
      · simp [execOp, go_sem, Act.eval, kaTmps, gv, d, y0, y1, encS]
      · simp [Act.put, kaTmps, gv_upd]
    · have d := hdep _ rfl
      simp [Region.binds] at d
      refine wpOp_call rfl (by simp [Region.wanted, yielded, kaTmps, gv, d]) (f := 31) (args := #[encS (ofL [1]), .int .i64 129]) (w' := w1) ?_ ?_
      · simp [execOp, go_sem, Act.eval, kaTmps, gv, d]
      · refine (With_c _ _ _).mono ?_
        rintro e w2 ⟨rfl, hb⟩
        refine ⟨_, rfl, x4, x5, x6, x7, q8, q20, q31, q33, hI.later hb (by decide) ?_⟩
        simp [Act.put, kaTmps, gv_upd]
    · have d := hdep _ rfl
      simp [Region.binds] at d
      refine wpOp_value rfl (by simp [Region.wanted, yielded, kaTmps, gv, d]) (v := encS (ofL [1])) (w' := w1) ?_ ⟨x4, x5, x6, x7, q8, q20, q31, q33, hI.later (Below.refl _ _) (by decide) ?_⟩
      · simp [execOp, go_sem, Act.eval, kaTmps, gv, d, y0, y1, encS]
      · simp [Act.put, kaTmps, gv_upd]
    · have d := hdep _ rfl
      simp [Region.binds] at d
      refine wpOp_value rfl (by simp [Region.wanted, yielded, kaTmps, gv, d]) (v := .bool false) (w' := w1) ?_ ⟨x4, x5, x6, x7, q8, q20, q31, q33, hI.later (Below.refl _ _) (by decide) ?_⟩
      · simp [execOp, go_sem, Act.eval, kaTmps, gv, d, b2]
      · simp [Act.put, kaTmps, gv_upd]
    · have d := hdep _ rfl
      simp [Region.binds] at d
      refine wpOp_value rfl rfl (v := .bool false) (w' := w1) ?_ ⟨x4, x5, x6, x7, q8, q20, q31, q33, hI.later (Below.refl _ _) (by decide) ?_⟩
      · simp [execOp, go_sem, Act.eval, kaTmps, gv, d]
      · simp [Act.put, kaTmps, gv_upd]
    · have d := hdep _ rfl
      simp [Region.binds] at d
      refine wpOp_value rfl rfl (v := .bool false) (w' := w1) ?_ ⟨x4, x5, x6, x7, q8, q20, q31, q33, hI.later (Below.refl _ _) (by decide) ?_⟩
      · simp [execOp, go_sem, Act.eval, kaTmps, gv, d]
      · simp [Act.put, kaTmps, gv_upd]
    · have d := hdep _ rfl
      simp [Region.binds] at d
      have hb : Below w1.heap.size w1 (w1.alloc (.cells #[.int .i64 1, .int .i64 2] 3)) := (Below.refl _ w1).alloc (Nat.le_refl _) _
      refine wpOp_value rfl (by simp [Region.wanted, yielded, kaTmps, gv, d]) (v := .slice (some ⟨w1.heap.size, 0, none⟩) 2 2) (w' := w1.alloc (.cells #[.int .i64 1, .int .i64 2] 3)) ?_ ⟨x4, x5, x6, x7, q8, q20, w1.heap.size, q33, ?_⟩
      · simp [execOp, go_sem]
      · exact { act := (by simp [Act.put, kaTmps, gv_upd]), hB := hI.hB.trans (hb.mono hI.hB.size), i0 := fun e => (hI.i0 (by simpa [upd] using e)).below hb, i12 := fun e => (hI.i12 (by simpa [upd] using e)).below hb, i23 := fun _ => IntsAt.lit w1 [1, 2] 3 (by simp), i25 := fun e => (hI.i25 (by simpa [upd] using e)).below hb }
    · have d := hdep _ rfl
      simp [Region.binds] at d
      refine wpOp_call rfl (by simp [Region.wanted, yielded, kaTmps, gv, d]) (f := 14) (args := #[.slice (some ⟨q31, 0, none⟩) 2 2]) (w' := w1) ?_ ?_
      · simp [execOp, go_sem, Act.eval, kaTmps, gv, d]
      · refine (Of_c _ [1, 2] w1 (hI.i23 (by first | exact d | exact d.1 | exact d.2 | exact d.2.1 | exact d.2.2 | exact d.2.2.1 | exact d.2.2.2.1)) (by decide)).mono ?_
        rintro e w2 ⟨rfl, hb⟩
        refine ⟨_, rfl, x4, x5, x6, x7, q8, q20, q31, q33, hI.later hb (by decide) ?_⟩
        simp [Act.put, kaTmps, gv_upd]
    · have d := hdep _ rfl
      simp [Region.binds] at d
      have hb : Below w1.heap.size w1 (w1.alloc (.cells #[.int .i64 2, .int .i64 3] 3)) := (Below.refl _ w1).alloc (Nat.le_refl _) _
      refine wpOp_value rfl (by simp [Region.wanted, yielded, kaTmps, gv, d]) (v := .slice (some ⟨w1.heap.size, 0, none⟩) 2 2) (w' := w1.alloc (.cells #[.int .i64 2, .int .i64 3] 3)) ?_ ⟨x4, x5, x6, x7, q8, q20, q31, w1.heap.size, ?_⟩
      · simp [execOp, go_sem]
      · exact { act := (by simp [Act.put, kaTmps, gv_upd]), hB := hI.hB.trans (hb.mono hI.hB.size), i0 := fun e => (hI.i0 (by simpa [upd] using e)).below hb, i12 := fun e => (hI.i12 (by simpa [upd] using e)).below hb, i23 := fun e => (hI.i23 (by simpa [upd] using e)).below hb, i25 := fun _ => IntsAt.lit w1 [2, 3] 3 (by simp) }
    · have d := hdep _ rfl
      simp [Region.binds] at d
      refine wpOp_call rfl (by simp [Region.wanted, yielded, kaTmps, gv, d]) (f := 14) (args := #[.slice (some ⟨q33, 0, none⟩) 2 2]) (w' := w1) ?_ ?_
      · simp [execOp, go_sem, Act.eval, kaTmps, gv, d]
      · refine (Of_c _ [2, 3] w1 (hI.i25 (by first | exact d | exact d.1 | exact d.2 | exact d.2.1 | exact d.2.2 | exact d.2.2.1 | exact d.2.2.2.1)) (by decide)).mono ?_
        rintro e w2 ⟨rfl, hb⟩
        refine ⟨_, rfl, x4, x5, x6, x7, q8, q20, q31, q33, hI.later hb (by decide) ?_⟩
        simp [Act.put, kaTmps, gv_upd]
    · have d := hdep _ rfl
      simp [Region.binds] at d
      refine wpOp_call rfl (by simp [Region.wanted, yielded, kaTmps, gv, d]) (f := 25) (args := #[encS (ofL [1, 2]), encS (ofL [2, 3])]) (w' := w1) ?_ ?_
      · simp [execOp, go_sem, Act.eval, kaTmps, gv, d]
      · refine (Minus_c _ _ _).mono ?_
        rintro e w2 ⟨rfl, hb⟩
        refine ⟨_, rfl, x4, x5, x6, x7, q8, q20, q31, q33, hI.later hb (by decide) ?_⟩
        simp [Act.put, kaTmps, gv_upd]
    · have d := hdep _ rfl
      simp [Region.binds] at d
      refine wpOp_value rfl (by simp [Region.wanted, yielded, kaTmps, gv, d]) (v := encS (ofL [1])) (w' := w1) ?_ ⟨x4, x5, x6, x7, q8, q20, q31, q33, hI.later (Below.refl _ _) (by decide) ?_⟩
      · simp [execOp, go_sem, Act.eval, kaTmps, gv, d, y0, y1, encS]
      · simp [Act.put, kaTmps, gv_upd]
    · have d := hdep _ rfl
      simp [Region.binds] at d
      refine wpOp_value rfl (by simp [Region.wanted, yielded, kaTmps, gv, d]) (v := .bool false) (w' := w1) ?_ ⟨x4, x5, x6, x7, q8, q20, q31, q33, hI.later (Below.refl _ _) (by decide) ?_⟩
      · simp [execOp, go_sem, Act.eval, kaTmps, gv, d, b3]
      · simp [Act.put, kaTmps, gv_upd]
    · have d := hdep _ rfl
      simp [Region.binds] at d
      refine wpOp_value rfl rfl (v := .bool false) (w' := w1) ?_ ⟨x4, x5, x6, x7, q8, q20, q31, q33, hI.later (Below.refl _ _) (by decide) ?_⟩
      · simp [execOp, go_sem, Act.eval, kaTmps, gv, d]
      · simp [Act.put, kaTmps, gv_upd]
  · rename_i hk
    rintro f a w1 ⟨x4, x5, x6, x7, q8, q20, q31, q33, hI⟩ hf
    have hf : ∀ i, i < 31 → f i = true := hf
    have hact := hI.act
    subst hact
    have hb := hI.hB
    refine hk _ _ ?_
    clear hk hI
    simp only [kaTmps, gv_t (hf 0 (by omega)), gv_t (hf 1 (by omega)), gv_t (hf 2 (by omega)), gv_t (hf 3 (by omega)), gv_t (hf 4 (by omega)), gv_t (hf 5 (by omega)), gv_t (hf 6 (by omega)), gv_t (hf 7 (by omega)), gv_t (hf 8 (by omega)), gv_t (hf 9 (by omega)), gv_t (hf 10 (by omega)), gv_t (hf 11 (by omega)), gv_t (hf 12 (by omega)), gv_t (hf 13 (by omega)), gv_t (hf 14 (by omega)), gv_t (hf 15 (by omega)), gv_t (hf 16 (by omega)), gv_t (hf 17 (by omega)), gv_t (hf 18 (by omega)), gv_t (hf 19 (by omega)), gv_t (hf 20 (by omega)), gv_t (hf 21 (by omega)), gv_t (hf 22 (by omega)), gv_t (hf 23 (by omega)), gv_t (hf 24 (by omega)), gv_t (hf 25 (by omega)), gv_t (hf 26 (by omega)), gv_t (hf 27 (by omega)), gv_t (hf 28 (by omega)), gv_t (hf 29 (by omega)), gv_t (hf 30 (by omega))]
    clear hf
    replace s1 := s1.below hb s1.lt
    replace s2 := s2.below hb s2.lt
    replace hT := hT.below hT.lt hb
    have hB := hB3.trans (hb.mono hB3.size)
    clear hb hB3
    go_wp2_with fail
    refine (Of_c _ [128, 3] _ (IntsAt.lit _ [128, 3] _ (by simp)) (by decide)).mono ?_; rintro e w4 ⟨rfl, hb0⟩
    have hb := ((Below.refl _ w1).alloc (Nat.le_refl _) (.cells #[.int .i64 128, .int .i64 3] 3)).trans (hb0.mono (by simp))
    clear hb0
    replace s1 := s1.below hb s1.lt; replace s2 := s2.below hb s2.lt; replace hT := hT.below hT.lt hb; replace hB := hB.trans (hb.mono hB.size); clear hb
    go_wp2_with fail
    refine (List_c _ _ hT).mono ?_; rintro e w5 ⟨v, rfl, hn, hb⟩
    rw [C1.out] at hn
    replace s1 := s1.below hb s1.lt; replace s2 := s2.below hb s2.lt; replace hT := hT.below hT.lt hb; replace hB := hB.trans (hb.mono hB.size); clear hb
    obtain ⟨hv, hl⟩ | ⟨g, cap, rfl, _, hg, _, hc⟩ := hn.cases
    · cases hl
    have g0 := hc 0 (by simp)
    have g1 := hc 1 (by simp)
    go_wp2_with fail
    have F0 : ∀ w : World, TabAt w → Calls Tryd.prog 39 #[.agg #[.int .u64 0, .int .u64 0]] w fun e w' => e = .returned (.int .i64 0) ∧ Below w.heap.size w w' := fun w hT => by
      have h := First_c 0 w hT
      rw [c4] at h
      exact h
    refine (F0 _ hT).mono ?_; rintro e w6 ⟨rfl, hb⟩
    replace s1 := s1.below hb s1.lt; replace s2 := s2.below hb s2.lt; replace hT := hT.below hT.lt hb; replace hB := hB.trans (hb.mono hB.size); clear hb
    go_wp2_with fail
    refine (All_c _ _).mono ?_; rintro e w6 ⟨rfl, hb⟩
    replace s1 := s1.below hb s1.lt; replace s2 := s2.below hb s2.lt; replace hT := hT.below hT.lt hb; replace hB := hB.trans (hb.mono hB.size); clear hb
    go_wp2_with fail
    have L0 := Len_c (allV 128)
    rw [c2] at L0
    refine (L0 _).mono ?_; rintro e w6 ⟨rfl, hb⟩
    replace s1 := s1.below hb s1.lt; replace s2 := s2.below hb s2.lt; replace hT := hT.below hT.lt hb; replace hB := hB.trans (hb.mono hB.size); clear hb
    go_wp2_with fail
    refine (All_c _ _).mono ?_; rintro e w6 ⟨rfl, hb⟩
    replace s1 := s1.below hb s1.lt; replace s2 := s2.below hb s2.lt; replace hT := hT.below hT.lt hb; replace hB := hB.trans (hb.mono hB.size); clear hb
    go_wp2_with fail
    refine (All_c _ _).mono ?_; rintro e w6 ⟨rfl, hb⟩
    replace s1 := s1.below hb s1.lt; replace s2 := s2.below hb s2.lt; replace hT := hT.below hT.lt hb; replace hB := hB.trans (hb.mono hB.size); clear hb
    go_wp2_with fail
    refine Go.Proofs.YthckmpdnkinmlaaDoor.wp_region_inv (fun f a w' => ∃ x3 x4 x5 x6 x7 x8 x9 x10 x11 x12 x13 x14 x15 x16 x17 x18 x19 x20 x21 x22 x23 x24 x25 x26 x27 x28 x29 x30 x31 x32 x33 x34 x35 x36 x37 x38 x39 x40 x41 x42 x43 x44 x45 x46 x47 x48 x49 x50 x51 x52 x53 x54 x55 x56 x57 x58 x59 x60 x61 x62 x63 x64 x65 x66 x67 x68 x69 x70 x71 q77, kbI p1 p2 x3 x4 x5 x6 x7 x8 x9 x10 x11 x12 x13 x14 x15 x16 x17 x18 x19 x20 x21 x22 x23 x24 x25 x26 x27 x28 x29 x30 x31 x32 x33 x34 x35 x36 x37 x38 x39 x40 x41 x42 x43 x44 x45 x46 x47 x48 x49 x50 x51 x52 x53 x54 x55 x56 x57 x58 x59 x60 x61 x62 x63 x64 x65 x66 x67 x68 x69 x70 x71 w6 f a w' q77) rfl (by decide +kernel) ?_ ?_ ?_
    · exact ⟨_, _, _, _, _, _, _, _, _, _, _, _, _, _, _, _, _, _, _, _, _, _, _, _, _, _, _, _, _, _, _, _, _, _, _, _, _, _, _, _, _, _, _, _, _, _, _, _, _, _, _, _, _, _, _, _, _, _, _, _, _, _, _, _, _, _, _, _, _, 0, rfl, (Below.refl _ w6).drew, fun h => (by cases h)⟩
    · rintro f i a w1 ⟨x3, x4, x5, x6, x7, x8, x9, x10, x11, x12, x13, x14, x15, x16, x17, x18, x19, x20, x21, x22, x23, x24, x25, x26, x27, x28, x29, x30, x31, x32, x33, x34, x35, x36, x37, x38, x39, x40, x41, x42, x43, x44, x45, x46, x47, x48, x49, x50, x51, x52, x53, x54, x55, x56, x57, x58, x59, x60, x61, x62, x63, x64, x65, x66, x67, x68, x69, x70, x71, q77, hI⟩ hi hf hcl hdep
      have hi : i < 19 := hi
      have ha := hI.act
      obtain ⟨z0, z1, _, _⟩ := (s1.below hI.hB s1.lt).cells
      obtain ⟨y0, y1, _, _⟩ := (s2.below hI.hB s2.lt).cells
      subst ha
      rcases (by omega : i = 0 ∨ i = 1 ∨ i = 2 ∨ i = 3 ∨ i = 4 ∨ i = 5 ∨ i = 6 ∨ i = 7 ∨ i = 8 ∨ i = 9 ∨ i = 10 ∨ i = 11 ∨ i = 12 ∨ i = 13 ∨ i = 14 ∨ i = 15 ∨ i = 16 ∨ i = 17 ∨ i = 18) with rfl | rfl | rfl | rfl | rfl | rfl | rfl | rfl | rfl | rfl | rfl | rfl | rfl | rfl | rfl | rfl | rfl | rfl | rfl
      · refine wpOp_value rfl rfl (v := encS (ofL [1])) (w' := w1) ?_ ⟨x3, x4, x5, x6, x7, x8, x9, x10, x11, x12, x13, x14, x15, x16, x17, x18, x19, x20, x21, x22, x23, x24, x25, x26, x27, x28, x29, x30, x31, x32, x33, x34, x35, x36, x37, x38, x39, x40, x41, x42, x43, x44, x45, x46, x47, x48, x49, x50, x51, x52, x53, x54, x55, x56, x57, x58, x59, x60, x61, x62, x63, x64, x65, x66, x67, x68, x69, x70, x71, q77, hI.later (Below.refl _ _) (by decide) ?_⟩
        · simp [execOp, go_sem, Act.eval, kbTmps, gv, y0, y1, encS]
        · simp [Act.put, kbTmps, gw_upd, gv_upd]
      · refine wpOp_value rfl rfl (v := encS (ofL [1, 3])) (w' := w1) ?_ ⟨x3, x4, x5, x6, x7, x8, x9, x10, x11, x12, x13, x14, x15, x16, x17, x18, x19, x20, x21, x22, x23, x24, x25, x26, x27, x28, x29, x30, x31, x32, x33, x34, x35, x36, x37, x38, x39, x40, x41, x42, x43, x44, x45, x46, x47, x48, x49, x50, x51, x52, x53, x54, x55, x56, x57, x58, x59, x60, x61, x62, x63, x64, x65, x66, x67, x68, x69, x70, x71, q77, hI.later (Below.refl _ _) (by decide) ?_⟩
        · simp [execOp, go_sem, Act.eval, kbTmps, gv, z0, z1, encS]
        · simp [Act.put, kbTmps, gw_upd, gv_upd]
      · have d := hdep _ rfl
        simp [Region.binds] at d
        refine wpOp_call rfl rfl (f := 19) (args := #[encS (ofL [1]), encS (ofL [1, 3])]) (w' := w1) ?_ ?_
        · simp [execOp, go_sem, Act.eval, kbTmps, gv, d]
        · refine (Less_c _ _ _ (hT.below hT.lt hI.hB)).mono ?_
          rintro e w2 ⟨rfl, hb⟩
          refine ⟨_, rfl, x3, x4, x5, x6, x7, x8, x9, x10, x11, x12, x13, x14, x15, x16, x17, x18, x19, x20, x21, x22, x23, x24, x25, x26, x27, x28, x29, x30, x31, x32, x33, x34, x35, x36, x37, x38, x39, x40, x41, x42, x43, x44, x45, x46, x47, x48, x49, x50, x51, x52, x53, x54, x55, x56, x57, x58, x59, x60, x61, x62, x63, x64, x65, x66, x67, x68, x69, x70, x71, q77, hI.later hb (by decide) ?_⟩
          simp [Act.put, kbTmps, gw_upd, gv_upd]
      · have d := hdep _ rfl
        simp [Region.binds] at d
        refine wpOp_value rfl rfl (v := .bool true) (w' := w1) ?_ ⟨x3, x4, x5, x6, x7, x8, x9, x10, x11, x12, x13, x14, x15, x16, x17, x18, x19, x20, x21, x22, x23, x24, x25, x26, x27, x28, x29, x30, x31, x32, x33, x34, x35, x36, x37, x38, x39, x40, x41, x42, x43, x44, x45, x46, x47, x48, x49, x50, x51, x52, x53, x54, x55, x56, x57, x58, x59, x60, x61, x62, x63, x64, x65, x66, x67, x68, x69, x70, x71, q77, hI.later (Below.refl _ _) (by decide) ?_⟩
        · simp [execOp, go_sem, Act.eval, kbTmps, gv, d, d1]
        · simp [Act.put, kbTmps, gw_upd, gv_upd]
      · have d := hdep _ rfl
        simp [Region.binds] at d
        refine wpOp_value rfl (by simp [Region.wanted, yielded, kbTmps, gv, d]) (v := encS (ofL [1, 3])) (w' := w1) ?_ ⟨x3, x4, x5, x6, x7, x8, x9, x10, x11, x12, x13, x14, x15, x16, x17, x18, x19, x20, x21, x22, x23, x24, x25, x26, x27, x28, x29, x30, x31, x32, x33, x34, x35, x36, x37, x38, x39, x40, x41, x42, x43, x44, x45, x46, x47, x48, x49, x50, x51, x52, x53, x54, x55, x56, x57, x58, x59, x60, x61, x62, x63, x64, x65, x66, x67, x68, x69, x70, x71, q77, hI.later (Below.refl _ _) (by decide) ?_⟩
        · simp [execOp, go_sem, Act.eval, kbTmps, gv, d, z0, z1, encS]
        · simp [Act.put, kbTmps, gw_upd, gv_upd]
      · have d := hdep _ rfl
        simp [Region.binds] at d
        have hb : Below w1.heap.size w1 (w1.alloc (.cells #[.int .i64 1, .int .i64 2] 3)) := (Below.refl _ w1).alloc (Nat.le_refl _) _
        refine wpOp_value rfl (by simp [Region.wanted, yielded, kbTmps, gv, d]) (v := .slice (some ⟨w1.heap.size, 0, none⟩) 2 2) (w' := w1.alloc (.cells #[.int .i64 1, .int .i64 2] 3)) ?_ ⟨x3, x4, x5, x6, x7, x8, x9, x10, x11, x12, x13, x14, x15, x16, x17, x18, x19, x20, x21, x22, x23, x24, x25, x26, x27, x28, x29, x30, x31, x32, x33, x34, x35, x36, x37, x38, x39, x40, x41, x42, x43, x44, x45, x46, x47, x48, x49, x50, x51, x52, x53, x54, x55, x56, x57, x58, x59, x60, x61, x62, x63, x64, x65, x66, x67, x68, x69, x70, x71, w1.heap.size, ?_⟩
        · simp [execOp, go_sem]
        · exact { act := (by simp [Act.put, kbTmps, gw_upd, gv_upd]), hB := hI.hB.trans (hb.mono hI.hB.size), i5 := fun _ => IntsAt.lit w1 [1, 2] 3 (by simp) }
      · have d := hdep _ rfl
        simp [Region.binds] at d
        refine wpOp_call rfl (by simp [Region.wanted, yielded, kbTmps, gv, d]) (f := 14) (args := #[.slice (some ⟨q77, 0, none⟩) 2 2]) (w' := w1) ?_ ?_
        · simp [execOp, go_sem, Act.eval, kbTmps, gv, d]
        · refine (Of_c _ [1, 2] w1 (hI.i5 (by first | exact d | exact d.1 | exact d.2 | exact d.2.1 | exact d.2.2 | exact d.2.2.1 | exact d.2.2.2.1)) (by decide)).mono ?_
          rintro e w2 ⟨rfl, hb⟩
          refine ⟨_, rfl, x3, x4, x5, x6, x7, x8, x9, x10, x11, x12, x13, x14, x15, x16, x17, x18, x19, x20, x21, x22, x23, x24, x25, x26, x27, x28, x29, x30, x31, x32, x33, x34, x35, x36, x37, x38, x39, x40, x41, x42, x43, x44, x45, x46, x47, x48, x49, x50, x51, x52, x53, x54, x55, x56, x57, x58, x59, x60, x61, x62, x63, x64, x65, x66, x67, x68, x69, x70, x71, q77, hI.later hb (by decide) ?_⟩
          simp [Act.put, kbTmps, gw_upd, gv_upd]
      · have d := hdep _ rfl
        simp [Region.binds] at d
        refine wpOp_call rfl (by simp [Region.wanted, yielded, kbTmps, gv, d]) (f := 19) (args := #[encS (ofL [1, 3]), encS (ofL [1, 2])]) (w' := w1) ?_ ?_
        · simp [execOp, go_sem, Act.eval, kbTmps, gv, d]
        · refine (Less_c _ _ _ (hT.below hT.lt hI.hB)).mono ?_
          rintro e w2 ⟨rfl, hb⟩
          refine ⟨_, rfl, x3, x4, x5, x6, x7, x8, x9, x10, x11, x12, x13, x14, x15, x16, x17, x18, x19, x20, x21, x22, x23, x24, x25, x26, x27, x28, x29, x30, x31, x32, x33, x34, x35, x36, x37, x38, x39, x40, x41, x42, x43, x44, x45, x46, x47, x48, x49, x50, x51, x52, x53, x54, x55, x56, x57, x58, x59, x60, x61, x62, x63, x64, x65, x66, x67, x68, x69, x70, x71, q77, hI.later hb (by decide) ?_⟩
          simp [Act.put, kbTmps, gw_upd, gv_upd]
      · have d := hdep _ rfl
        simp [Region.binds] at d
        refine wpOp_value rfl rfl (v := .bool true) (w' := w1) ?_ ⟨x3, x4, x5, x6, x7, x8, x9, x10, x11, x12, x13, x14, x15, x16, x17, x18, x19, x20, x21, x22, x23, x24, x25, x26, x27, x28, x29, x30, x31, x32, x33, x34, x35, x36, x37, x38, x39, x40, x41, x42, x43, x44, x45, x46, x47, x48, x49, x50, x51, x52, x53, x54, x55, x56, x57, x58, x59, x60, x61, x62, x63, x64, x65, x66, x67, x68, x69, x70, x71, q77, hI.later (Below.refl _ _) (by decide) ?_⟩
        · simp [execOp, go_sem, Act.eval, kbTmps, gv, d, d2]
        · simp [Act.put, kbTmps, gw_upd, gv_upd]
      · have d := hdep _ rfl
        simp [Region.binds] at d
        refine wpOp_value rfl rfl (v := .bool true) (w' := w1) ?_ ⟨x3, x4, x5, x6, x7, x8, x9, x10, x11, x12, x13, x14, x15, x16, x17, x18, x19, x20, x21, x22, x23, x24, x25, x26, x27, x28, x29, x30, x31, x32, x33, x34, x35, x36, x37, x38, x39, x40, x41, x42, x43, x44, x45, x46, x47, x48, x49, x50, x51, x52, x53, x54, x55, x56, x57, x58, x59, x60, x61, x62, x63, x64, x65, x66, x67, x68, x69, x70, x71, q77, hI.later (Below.refl _ _) (by decide) ?_⟩
        · simp [execOp, go_sem, Act.eval, kbTmps, gv, d]
        · simp [Act.put, kbTmps, gw_upd, gv_upd]
      · have d := hdep _ rfl
        simp [Region.binds] at d
        refine wpOp_value rfl (by simp [Region.wanted, yielded, kbTmps, gv, d]) (v := encS (ofL [1])) (w' := w1) ?_ ⟨x3, x4, x5, x6, x7, x8, x9, x10, x11, x12, x13, x14, x15, x16, x17, x18, x19, x20, x21, x22, x23, x24, x25, x26, x27, x28, x29, x30, x31, x32, x33, x34, x35, x36, x37, x38, x39, x40, x41, x42, x43, x44, x45, x46, x47, x48, x49, x50, x51, x52, x53, x54, x55, x56, x57, x58, x59, x60, x61, x62, x63, x64, x65, x66, x67, x68, x69, x70, x71, q77, hI.later (Below.refl _ _) (by decide) ?_⟩
        · simp [execOp, go_sem, Act.eval, kbTmps, gv, d, y0, y1, encS]
        · simp [Act.put, kbTmps, gw_upd, gv_upd]
      · have d := hdep _ rfl
        simp [Region.binds] at d
        refine wpOp_value rfl (by simp [Region.wanted, yielded, kbTmps, gv, d]) (v := encS (ofL [1])) (w' := w1) ?_ ⟨x3, x4, x5, x6, x7, x8, x9, x10, x11, x12, x13, x14, x15, x16, x17, x18, x19, x20, x21, x22, x23, x24, x25, x26, x27, x28, x29, x30, x31, x32, x33, x34, x35, x36, x37, x38, x39, x40, x41, x42, x43, x44, x45, x46, x47, x48, x49, x50, x51, x52, x53, x54, x55, x56, x57, x58, x59, x60, x61, x62, x63, x64, x65, x66, x67, x68, x69, x70, x71, q77, hI.later (Below.refl _ _) (by decide) ?_⟩
        · simp [execOp, go_sem, Act.eval, kbTmps, gv, d, y0, y1, encS]
        · simp [Act.put, kbTmps, gw_upd, gv_upd]
      · have d := hdep _ rfl
        simp [Region.binds] at d
        refine wpOp_call rfl (by simp [Region.wanted, yielded, kbTmps, gv, d]) (f := 19) (args := #[encS (ofL [1]), encS (ofL [1])]) (w' := w1) ?_ ?_
        · simp [execOp, go_sem, Act.eval, kbTmps, gv, d]
        · refine (Less_c _ _ _ (hT.below hT.lt hI.hB)).mono ?_
          rintro e w2 ⟨rfl, hb⟩
          refine ⟨_, rfl, x3, x4, x5, x6, x7, x8, x9, x10, x11, x12, x13, x14, x15, x16, x17, x18, x19, x20, x21, x22, x23, x24, x25, x26, x27, x28, x29, x30, x31, x32, x33, x34, x35, x36, x37, x38, x39, x40, x41, x42, x43, x44, x45, x46, x47, x48, x49, x50, x51, x52, x53, x54, x55, x56, x57, x58, x59, x60, x61, x62, x63, x64, x65, x66, x67, x68, x69, x70, x71, q77, hI.later hb (by decide) ?_⟩
          simp [Act.put, kbTmps, gw_upd, gv_upd]
      · have d := hdep _ rfl
        simp [Region.binds] at d
        refine wpOp_value rfl (by simp [Region.wanted, yielded, kbTmps, gv, d]) (v := .bool true) (w' := w1) ?_ ⟨x3, x4, x5, x6, x7, x8, x9, x10, x11, x12, x13, x14, x15, x16, x17, x18, x19, x20, x21, x22, x23, x24, x25, x26, x27, x28, x29, x30, x31, x32, x33, x34, x35, x36, x37, x38, x39, x40, x41, x42, x43, x44, x45, x46, x47, x48, x49, x50, x51, x52, x53, x54, x55, x56, x57, x58, x59, x60, x61, x62, x63, x64, x65, x66, x67, x68, x69, x70, x71, q77, hI.later (Below.refl _ _) (by decide) ?_⟩
        · simp [execOp, go_sem, Act.eval, kbTmps, gv, d, d3]
        · simp [Act.put, kbTmps, gw_upd, gv_upd]
      · have d := hdep _ rfl
        simp [Region.binds] at d
        refine wpOp_value rfl rfl (v := .bool true) (w' := w1) ?_ ⟨x3, x4, x5, x6, x7, x8, x9, x10, x11, x12, x13, x14, x15, x16, x17, x18, x19, x20, x21, x22, x23, x24, x25, x26, x27, x28, x29, x30, x31, x32, x33, x34, x35, x36, x37, x38, x39, x40, x41, x42, x43, x44, x45, x46, x47, x48, x49, x50, x51, x52, x53, x54, x55, x56, x57, x58, x59, x60, x61, x62, x63, x64, x65, x66, x67, x68, x69, x70, x71, q77, hI.later (Below.refl _ _) (by decide) ?_⟩
        · simp [execOp, go_sem, Act.eval, kbTmps, gv, d]
        · simp [Act.put, kbTmps, gw_upd, gv_upd]
      · have d := hdep _ rfl
        simp [Region.binds] at d
        refine wpOp_value rfl rfl (v := .bool true) (w' := w1) ?_ ⟨x3, x4, x5, x6, x7, x8, x9, x10, x11, x12, x13, x14, x15, x16, x17, x18, x19, x20, x21, x22, x23, x24, x25, x26, x27, x28, x29, x30, x31, x32, x33, x34, x35, x36, x37, x38, x39, x40, x41, x42, x43, x44, x45, x46, x47, x48, x49, x50, x51, x52, x53, x54, x55, x56, x57, x58, x59, x60, x61, x62, x63, x64, x65, x66, x67, x68, x69, x70, x71, q77, hI.later (Below.refl _ _) (by decide) ?_⟩
        · simp [execOp, go_sem, Act.eval, kbTmps, gv, d]
        · simp [Act.put, kbTmps, gw_upd, gv_upd]
      · have d := hdep _ rfl
        simp [Region.binds] at d
        refine wpOp_call rfl (by simp [Region.wanted, yielded, kbTmps, gv, d]) (f := 13) (args := #[]) (w' := w1) ?_ ?_
        · simp [execOp, go_sem, Act.eval, kbTmps, gv, d]
        · refine (works_c _ (hT.below hT.lt hI.hB)).mono ?_
          rintro e w2 ⟨rfl, hb⟩
          refine ⟨_, rfl, x3, x4, x5, x6, x7, x8, x9, x10, x11, x12, x13, x14, x15, x16, x17, x18, x19, x20, x21, x22, x23, x24, x25, x26, x27, x28, x29, x30, x31, x32, x33, x34, x35, x36, x37, x38, x39, x40, x41, x42, x43, x44, x45, x46, x47, x48, x49, x50, x51, x52, x53, x54, x55, x56, x57, x58, x59, x60, x61, x62, x63, x64, x65, x66, x67, x68, x69, x70, x71, q77, hI.later hb (by decide) ?_⟩
          simp [Act.put, kbTmps, gw_upd, gv_upd]
      · have d := hdep _ rfl
        simp [Region.binds] at d
        refine wpOp_value rfl rfl (v := .bool true) (w' := w1) ?_ ⟨x3, x4, x5, x6, x7, x8, x9, x10, x11, x12, x13, x14, x15, x16, x17, x18, x19, x20, x21, x22, x23, x24, x25, x26, x27, x28, x29, x30, x31, x32, x33, x34, x35, x36, x37, x38, x39, x40, x41, x42, x43, x44, x45, x46, x47, x48, x49, x50, x51, x52, x53, x54, x55, x56, x57, x58, x59, x60, x61, x62, x63, x64, x65, x66, x67, x68, x69, x70, x71, q77, hI.later (Below.refl _ _) (by decide) ?_⟩
        · simp [execOp, go_sem, Act.eval, kbTmps, gv, d]
        · simp [Act.put, kbTmps, gw_upd, gv_upd]
      · have d := hdep _ rfl
        simp [Region.binds] at d
        refine wpOp_value rfl rfl (v := .bool true) (w' := w1) ?_ ⟨x3, x4, x5, x6, x7, x8, x9, x10, x11, x12, x13, x14, x15, x16, x17, x18, x19, x20, x21, x22, x23, x24, x25, x26, x27, x28, x29, x30, x31, x32, x33, x34, x35, x36, x37, x38, x39, x40, x41, x42, x43, x44, x45, x46, x47, x48, x49, x50, x51, x52, x53, x54, x55, x56, x57, x58, x59, x60, x61, x62, x63, x64, x65, x66, x67, x68, x69, x70, x71, q77, hI.later (Below.refl _ _) (by decide) ?_⟩
        · simp [execOp, go_sem, Act.eval, kbTmps, gv, d]
        · simp [Act.put, kbTmps, gw_upd, gv_upd]
    · rename_i hk
      rintro f a w1 ⟨x3, x4, x5, x6, x7, x8, x9, x10, x11, x12, x13, x14, x15, x16, x17, x18, x19, x20, x21, x22, x23, x24, x25, x26, x27, x28, x29, x30, x31, x32, x33, x34, x35, x36, x37, x38, x39, x40, x41, x42, x43, x44, x45, x46, x47, x48, x49, x50, x51, x52, x53, x54, x55, x56, x57, x58, x59, x60, x61, x62, x63, x64, x65, x66, x67, x68, x69, x70, x71, q77, hI⟩ hf
      have hf : ∀ i, i < 19 → f i = true := hf
      have hact := hI.act
      subst hact
      have hb := hI.hB
      refine hk _ _ ?_
      clear hk hI
      simp only [kbTmps, gv_t (hf 0 (by omega)), gv_t (hf 1 (by omega)), gv_t (hf 2 (by omega)), gv_t (hf 3 (by omega)), gv_t (hf 4 (by omega)), gv_t (hf 5 (by omega)), gv_t (hf 6 (by omega)), gv_t (hf 7 (by omega)), gv_t (hf 8 (by omega)), gv_t (hf 9 (by omega)), gv_t (hf 10 (by omega)), gv_t (hf 11 (by omega)), gv_t (hf 12 (by omega)), gv_t (hf 13 (by omega)), gv_t (hf 14 (by omega)), gv_t (hf 15 (by omega)), gv_t (hf 16 (by omega)), gv_t (hf 17 (by omega)), gw_t (hf 18 (by omega))]
      clear hf
      replace hB := hB.trans (hb.mono hB.size)
      go_wp2
      go_ret
      exact ⟨rfl, hB⟩

set_option maxRecDepth 100000 in
theorem varsKnown_lifted (os : Os) (started : os.Started) (H : Type) (enc : TypeId × Value → H) :
    ReturnsInHanded {} Tryd.checked os 12 .any (fun w args => (Rows.varsKnownSpec.pre enc Tryd.prog Tryd.f12 [] false w args ∧ laidMetH Tryd.prog [("math/bits.deBruijn64tab", Rows.laid_math_bits_deBruijn64tab)] w) ∧ sizedMet enc Tryd.prog Tryd.f12 (OpenSpec.ofChange Rows.varsKnownSpec) false w args)
      (Rows.varsKnownSpec.post enc Tryd.prog Tryd.f12 false true false false) := by
  refine returnsInHanded_of_change_and (C := Tryd.checked) (X := fun w _ => laidMetH Tryd.prog [("math/bits.deBruijn64tab", Rows.laid_math_bits_deBruijn64tab)] w) (fun _ _ _ hh h => h.of_heap hh) own started (by kernel_rfl) Tryd.func12
    (ChangeSpec.witness_shaped (enc := enc) (C := Tryd.checked) (os := os) (X := fun w _ => laidMetH Tryd.prog [("math/bits.deBruijn64tab", Rows.laid_math_bits_deBruijn64tab)] w) false (World.doorLaid Tryd.prog 400 os) #[] 8 rfl (World.shaped_of_RefB (by kernel_rfl) (by kernel_rfl)) (by kernel_rfl) (by kernel_rfl) (by kernel_rfl) (door_met os _)) ?_
  intro W base args ds gs before hval0 hW _ _ hL _
  have hval : ∀ (j : Nat) t v, Tryd.f12.params[j]? = some t → args[j]? = some v → Value.okWide Tryd.prog W .any base t v := hval0
  have hW' := hW
  obtain ⟨p, q, hA0, hV, rfl, hfz, hnd⟩ := hW
  have hA : DataW.TrodAll enc Tryd.prog W 0 (fun _ => true) true Tryd.f12.params.toList args.toList ds p := hA0
  rw [Tryd.params12] at hA hval
  obtain ⟨rfl, rfl, rfl⟩ := trodAll_none hA
  obtain ⟨rfl, rfl⟩ := trodVars_none hV
  have hT := of_laid hL
  clear hA0 hval0 hL
  simp only [List.append_nil] at hW'
  refine (varsKnown_walk W hT).mono fun e W' ⟨he, bel⟩ => ?_
  subst he
  exact ⟨_, rfl, _, _, _, [], _, [], hW', trodAll_mk1 (shut_bool Tryd.underlying4 _), trodAll_mk0, rfl, bel.frame _, fun h => by cases h⟩
theorem varsKnown_holds : Rows.VarsKnownSaid :=
  OpenClaim.holds_of_wide 12 Tryd.f12 rfl rfl rfl rfl rfl rfl rfl ⟨rfl, rfl, rfl, rfl, rfl⟩ rfl rfl rfl rfl rfl (by kernel_rfl) Tryd.func12 (by kernel_rfl)
    (of_decide_eq_true (by kernel_rfl)) (by unfold Func.isWrapper; rw [if_neg (of_decide_eq_false (by kernel_rfl))]; exact ⟨rfl, rfl⟩)
    (fun os started H enc _ => varsKnown_lifted os started H enc)
/-- THE CARD. -/
theorem varsKnown_card : Rows.VarsKnownCardSaid :=
  Claim7.holds_tied_plain_at .later [] [.data] true Rows.varsKnownCard.stood.harness false
    varsKnown_holds (fun _ h => by cases h) (by kernel_rfl) (fun _ h => by cases h) varsKnown_row_tie rfl ⟨rfl, rfl⟩ (by kernel_rfl) rfl
    (fun f fn hf hfn => by
      obtain rfl : f = 12 := Option.some.inj ((show Tryd.prog.funcNamed "census/censuslaw03.VarsKnown" = some 12 by kernel_rfl).symm.trans hf) |>.symm
      obtain rfl : fn = Tryd.f12 := (Option.some.inj (Tryd.func12.symm.trans hfn)).symm
      exact ⟨by kernel_rfl, fun j t ht => by
        rw [Tryd.params12] at ht
        simp at ht⟩)
    (by kernel_rfl)
#print axioms varsKnown_card
end Go.Proofs.YthckmpdnkinmlaaDoor
