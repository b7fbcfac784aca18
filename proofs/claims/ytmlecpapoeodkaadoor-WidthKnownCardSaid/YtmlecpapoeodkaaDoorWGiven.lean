/- Walks: the laws' small functions and comparisons; widths of trees; trees in new memory. -/
import Derived.Test.YtmlecpapoeodkaaDoorWMem
import Derived.Test.YtmlecpapoeodkaaDoorWDec
import Derived.Test.YtmlecpapoeodkaaDoorSWalk4
import Derived.BigQuiet
namespace Go.Proofs.YtmlecpapoeodkaaDoor
open Go.RowKit
attribute [local go_sem ↓] run_eqlS run_neqS run_eqlS0 run_neqS0

def LawPost (w : World) (e : Ending) (w' : World) : Prop := e = .returned (.bool true) ∧ Below w.heap.size w w'
def cyc : List VS := [0#128, 10#128, 5#128, 10#128, 5#128]
theorem lit_ints (w : World) (l : List Int) (T : Nat) (_h : l ≠ []) : IntsAt (w.alloc (.cells (l.map (Value.int .i64)).toArray T)) (.slice (some ⟨w.heap.size, 0, none⟩) l.length l.length) l := by
  refine ⟨_, _, rfl, .inr ⟨w.heap.size, 0, rfl, fun i hi => ?_⟩⟩
  rw [World.cell?, show (w.alloc (.cells (l.map (Value.int .i64)).toArray T)).heap[w.heap.size]? = _ from heap_alloc_new w _]
  simp [hi]
theorem lit_sets (w : World) (L : List VS) (C : Array Value) (hC : C.toList = setCells L) : SetRow (w.alloc (.cells C 32)) w.heap.size L :=
  setRow_of_take (heap_alloc_new w _) (by rw [hC, ← setCells_length, List.take_length])
set_option maxRecDepth 100000 in
set_option maxHeartbeats 1000000 in
theorem circle_c (w : World) : Calls Tryd.prog 14 #[] w fun e w' => ∃ v, e = .returned v ∧ SetsAt w' v cyc ∧ Below w.heap.size w w' := by
  have h := lit_sets w cyc #[.int .u64 0, .int .u64 0, .int .u64 10, .int .u64 0, .int .u64 5, .int .u64 0, .int .u64 10, .int .u64 0, .int .u64 5, .int .u64 0] (by kernel_rfl)
  have HS := hid h
  clear h
  go_enter Tryd.func14, Tryd.ntmps14
  go_wp2_with fail
  go_ret
  exact ⟨_, rfl, HS.out.sets 5, (Below.refl _ w).alloc (Nat.le_refl _) _⟩
set_option maxRecDepth 100000 in
set_option maxHeartbeats 1000000 in
theorem taken_c (p q : Option Addr) (n c m d : Nat) (w : World) : Calls Tryd.prog 17 #[.agg #[.slice p n c, .slice q m d]] w fun e w' => e = .returned (.agg #[.slice p n c, .slice q m d]) ∧ Below w.heap.size w w' := by
  have hB : Below w.heap.size w ((w.alloc (.cells #[.slice p n c, .slice q m d] 25)).alloc (.cells #[.slice none 0 0, .slice none 0 0] 33)) := ((Below.refl _ w).alloc (Nat.le_refl _) _).alloc (by simp) _
  have b1 := (Box2.new w 25 (.slice p n c) (.slice q m d)).alloc (.cells #[.slice none 0 0, .slice none 0 0] 33)
  have b2 := Box2.new (w.alloc (.cells #[.slice p n c, .slice q m d] 25)) 33 (.slice none 0 0) (.slice none 0 0)
  rw [World.size_alloc] at b2
  obtain ⟨c0, c1, _, _⟩ := b1.cells
  obtain ⟨d0, d1, f0, f1⟩ := b2.cells
  clear b1 b2 hB
  go_enter Tryd.func17, Tryd.ntmps17
  go_wp2_with fail
  have b3 := Box2.new (w.alloc (.cells #[.slice p n c, .slice q m d] 25)) 33 (.slice p n c) (.slice q m d)
  rw [World.size_alloc] at b3
  exact bodyPost_ret (results_boxR rfl rfl b3) rfl ⟨rfl, ((Below.refl _ w).alloc (Nat.le_refl _) _).alloc (by simp) _⟩
def fewB (B : List VS) (U : List Int) : Bool := decide (B.length ≤ 100) && decide (U.length ≤ 100)
set_option maxRecDepth 100000 in
set_option maxHeartbeats 1000000 in
theorem few_c (x y : Value) (B : List VS) (U : List Int) (w : World) (hx : SetsAt w x B) (hy : IntsAt w y U) : Calls Tryd.prog 25 #[.agg #[x, y]] w fun e w' => e = .returned (.bool (fewB B U)) ∧ Below w.heap.size w w' := by
  obtain ⟨p, c, rfl, _⟩ := hx
  obtain ⟨p2, c2, rfl, _⟩ := hy
  have HB := hid ((Below.refl _ w).alloc (Nat.le_refl _) (.cells #[.slice p B.length c, .slice p2 U.length c2] 33))
  obtain ⟨c0, c1, _, _⟩ := (Box2.new w 33 (.slice p B.length c) (.slice p2 U.length c2)).cells
  by_cases h1 : B.length ≤ 100
  · have d1 : decide ((B.length : Int) ≤ 100) = true := decide_eq_true (by omega)
    have e : fewB B U = decide ((U.length : Int) ≤ 100) := by
      unfold fewB
      rw [decide_eq_true h1, Bool.true_and]
      by_cases h : U.length ≤ 100
      · rw [decide_eq_true h, decide_eq_true (by omega)]
      · rw [decide_eq_false h, decide_eq_false (by omega)]
    have E := hid e
    clear h1 e
    go_enter Tryd.func25, Tryd.ntmps25
    go_wp2_with fail
    go_ret
    exact ⟨by rw [E.out]; rfl, HB.out⟩
  · have d1 : decide ((B.length : Int) ≤ 100) = false := decide_eq_false (by omega)
    have e : fewB B U = false := by unfold fewB; rw [decide_eq_false h1, Bool.false_and]
    have E := hid e
    clear h1 e
    go_enter Tryd.func25, Tryd.ntmps25
    go_wp2_with fail
    go_ret
    exact ⟨by rw [E.out]; rfl, HB.out⟩
theorem mostL_take (B : List VS) (k : Nat) (h : k < B.length) : mostL (B.take (k + 1)) = max (mostL (B.take k)) (len B[k]) := by
  unfold mostL
  rw [List.take_succ_eq_append_getElem h, List.foldl_append]; rfl
theorem mostL_range (B : List VS) : 0 ≤ mostL B ∧ mostL B ≤ 128 := by
  refine ⟨(mostL_aux B 0).1, ?_⟩
  rcases (mostL_aux B 0).2.2 with h | ⟨b, _, h⟩
  · unfold mostL; omega
  · have := len_le b; unfold mostL; omega
set_option maxRecDepth 100000 in
set_option maxHeartbeats 2000000 in
theorem wWidth_c (x y : Value) (B : List VS) (w : World) (hx : SetsAt w x B) (hl : B.length ≤ 140737488355328) :
    Calls Tryd.prog 19 #[.agg #[x, y]] w fun e w' => e = .returned (.int .i64 (widthT B)) ∧ Below w.heap.size w w' := by
  obtain ⟨p, c, rfl, hp⟩ := hx
  have HP := hid hp
  clear hp
  have hB0 : Below w.heap.size w (w.alloc (.cells #[.slice p B.length c, y] 25)) := (Below.refl _ w).alloc (Nat.le_refl _) _
  have b0 := Box2.new w 25 (.slice p B.length c) y
  obtain ⟨c0, c1, _, _⟩ := b0.cells
  go_enter Tryd.func19, Tryd.ntmps19
  go_wp2_with fail
  generalize w.alloc (.cells #[.slice p B.length c, y] 25) = w1 at *
  have HC0 := hid c0
  clear c0 c1 b0
  go_loopw [3, 9] (fun m i wr => ∃ k : Nat, k ≤ B.length ∧ i = .int .i64 k ∧ m = .int .i64 (mostL (B.take k)) ∧ Below w1.heap.size w1 wr) (fun _ i _ => B.length - (intOf i).toNat)
  case atStart => exact ⟨0, Nat.zero_le _, rfl, rfl, Below.refl _ _⟩
  case round =>
    obtain ⟨k, hk, rfl, rfl, hB⟩ := hrel
    have hBw := hB0.trans (hB.mono hB0.size)
    by_cases hkl : k < B.length
    · obtain ⟨b, off, rfl, hm⟩ := HP.out.resolve_left (by rintro rfl; simp at hkl)
      have hs := (hm k hkl).below hBw
      obtain ⟨q0, q1⟩ := hs
      have HT := hid (mostL_take B k hkl)
      have hr := mostL_range (B.take k)
      have zk : (0 : Int) ≤ (k : Int) ∧ (k : Int) < (B.length : Int) := by omega
      have hlb : b < wr.heap.size := cell_lt q0
      generalize hs : B[k] = s at *
      generalize mostL (B.take k) = m at *
      have hS := SetVar.new wr s 32
      have hbA : Below wr.heap.size wr (wr.alloc (.cells #[.int .u64 ((lw s).toNat : Int), .int .u64 ((hw s).toNat : Int)] 32)) := (Below.refl _ wr).alloc (Nat.le_refl _) _
      obtain ⟨n0, n1, _, _⟩ := hS.cells
      have HL := hid (Len_c s (wr.alloc (.cells #[.int .u64 ((lw s).toNat : Int), .int .u64 ((hw s).toNat : Int)] 32)))
      have HBA := hid (hB.trans (hbA.mono hB.size))
      have hls := len_le s
      have hlp := len_pos (s := s)
      clear hm hs hbA hS
      go_wp2_with fail
      refine HL.out.mono ?_
      rintro e w2 ⟨rfl, hb2⟩
      have hB2 := HBA.out.trans (hb2.mono HBA.out.size)
      clear n0 n1 q0 q1
      by_cases hd : m < len s
      · have e : max m (len s) = len s := by omega
        rw [e] at HT
        clear e
        go_wp2_with fail
        go_roundw
        case rel => exact ⟨k + 1, by omega, by go_num, by rw [HT.out], hB2⟩
        case measure => simp [intOf]; omega
      · have e : max m (len s) = m := by omega
        rw [e] at HT
        clear e
        go_wp2_with fail
        go_roundw
        case rel => exact ⟨k + 1, by omega, by go_num, by rw [HT.out], hB2⟩
        case measure => simp [intOf]; omega
    · obtain rfl : k = B.length := by omega
      have hc := (hB.cell (cell_lt HC0.out)).trans HC0.out
      rw [List.take_length]
      have hr := mostL_range B
      by_cases he : B = []
      · have hW : Hid (widthT B = -1) := by show _ = _; unfold widthT; rw [if_pos he]
        have hz : ((B.length : Int) == 0) = true := by rw [he]; rfl
        have hz2 : (B.length : Int) = 0 := by rw [he]; rfl
        clear he
        go_wp2_with fail
        go_ret
        exact ⟨by rw [hW.out]; rfl, hBw⟩
      · have hW : Hid (widthT B = mostL B - 1) := by show _ = _; unfold widthT; rw [if_neg he]
        have hp : 0 < B.length := List.length_pos_iff.2 he
        have hz : ((B.length : Int) == 0) = false := by simp; omega
        have hz2 : ¬ (B.length : Int) = 0 := by omega
        generalize mostL B = m at *
        clear he
        go_wp2_with fail
        go_ret
        exact ⟨by rw [hW.out]; exact ret_int (by go_num), hBw⟩
theorem SetsAt.get {w : World} {b off c : Nat} {L : List VS} (h : SetsAt w (.slice (some ⟨b, off, none⟩) L.length c) L) (i : Nat) (hi : i < L.length) :
    ∃ s, L[i] = s ∧ w.cell? ⟨b, off + i * 2, none⟩ = some (.int .u64 ((lw s).toNat : Int)) ∧ w.cell? ⟨b, off + i * 2 + 1, none⟩ = some (.int .u64 ((hw s).toNat : Int)) := by
  obtain ⟨p, c', e, h⟩ := h
  injection e with e1 _ _
  subst e1
  obtain ⟨b', off', e, hc⟩ := h.resolve_left (by rintro rfl; simp at hi)
  injection e with e; injection e with e1 e2 _
  subst e1; subst e2
  exact ⟨_, rfl, (hc i hi).lo, (hc i hi).hi⟩
theorem SetsAt.form {w : World} {v : Value} {L : List VS} (h : SetsAt w v L) (hne : 0 < L.length) : ∃ b off c, v = .slice (some ⟨b, off, none⟩) L.length c ∧ b < w.heap.size := by
  obtain ⟨p, c, rfl, h⟩ := h
  obtain ⟨b, off, rfl, hc⟩ := h.resolve_left (by rintro rfl; simp at hne)
  exact ⟨b, off, c, rfl, cell_lt (hc 0 hne).lo⟩
theorem IntsAt.form {w : World} {v : Value} {l : List Int} (h : IntsAt w v l) (hne : 0 < l.length) : ∃ b off c, v = .slice (some ⟨b, off, none⟩) l.length c ∧ b < w.heap.size ∧ ∀ i (hi : i < l.length), w.cell? ⟨b, off + i, none⟩ = some (.int .i64 l[i]) := by
  obtain ⟨p, c, rfl, h⟩ := h
  obtain ⟨b, off, rfl, hc⟩ := h.resolve_left (by rintro rfl; simp at hne)
  refine ⟨b, off, c, rfl, cell_lt (hc 0 hne), fun i hi => ?_⟩
  have := hc i hi
  rwa [List.getElem?_eq_getElem hi, Option.getD_some] at this
def eqToI {α : Type} (a b : List α) (k : Nat) : Prop := ∀ i, i < k → a[i]? = b[i]?
theorem eqToI_all {α : Type} {a b : List α} (h : a.length = b.length) (he : eqToI a b a.length) : a = b := by
  apply List.ext_getElem? 
  intro i
  by_cases hi : i < a.length
  · exact he i hi
  · rw [List.getElem?_eq_none (by omega), List.getElem?_eq_none (by omega)]
theorem eqToI_succ {α : Type} {a b : List α} {k : Nat} (h : eqToI a b k) (ha : k < a.length) (hb : k < b.length) (e : a[k] = b[k]) : eqToI a b (k + 1) := fun i hi => by
  by_cases e' : i = k
  · subst e'; rw [List.getElem?_eq_getElem ha, List.getElem?_eq_getElem hb, e]
  · exact h i (by omega)
set_option maxRecDepth 100000 in
set_option maxHeartbeats 2000000 in
theorem equal_c (u v : Value) (a b : List VS) (w : World) (hu : SetsAt w u a) (hv : SetsAt w v b) (ha : a.length ≤ 140737488355328) (_hb : b.length ≤ 140737488355328) :
    Calls Tryd.prog 23 #[u, v] w fun e w' => e = .returned (.bool (decide (a = b))) ∧ Below w.heap.size w w' := by
  obtain ⟨p, c, rfl, hp⟩ := id hu
  obtain ⟨q, d, rfl, hq⟩ := id hv
  clear hp hq
  by_cases hlen : a.length = b.length
  · have HL := hid hlen
    have HU := hid hu
    have HV := hid hv
    rw [← hlen]
    have hl : ((a.length : Int) != (a.length : Int)) = false := by simp
    clear hlen hu hv
    go_enter Tryd.func23, Tryd.ntmps23
    go_wp2_with fail
    go_loopw [13] (fun i wr => ∃ k : Nat, k ≤ a.length ∧ i = .int .i64 k ∧ Hid (eqToI a b k) ∧ Below w.heap.size w wr) (fun i _ => a.length - (intOf i).toNat)
    case atStart => exact ⟨0, Nat.zero_le _, rfl, fun i hi => by omega, Below.refl _ _⟩
    case round =>
      obtain ⟨k, hk, rfl, he, hB⟩ := hrel
      by_cases hlt : k < a.length
      · have hkb : k < b.length := by rw [← HL.out]; exact hlt
        have hua := HU.out.below hB
        have hvb := HV.out.below hB
        obtain ⟨b1, o1, c1, e1, l1⟩ := hua.form (by omega)
        obtain ⟨b2, o2, c2, e2, l2⟩ := hvb.form (by omega)
        injection e1 with e1 _ e1'
        injection e2 with e2 _ e2'
        subst e1; subst e2; subst e1'; subst e2'
        obtain ⟨s, hs, r0, r1⟩ := hua.get k hlt
        obtain ⟨t, ht, q0, q1⟩ := hvb.get k hkb
        have z1 : (0 : Int) ≤ (k : Int) ∧ (k : Int) < (a.length : Int) := by omega
        have HE := hid (eqToI_succ he.out hlt hkb)
        have HNE := hid (fun (h : a[k] ≠ b[k]) => (decide_eq_false (by rintro rfl; exact h rfl) : decide (a = b) = false))
        rw [hs, ht] at HE HNE
        clear hua hvb hs ht hkb he
        by_cases heq : s = t
        · have HE2 := hid (HE.out heq)
          subst heq
          have hx : (!(s == s)) = false := by simp
          clear HE HNE
          go_wp2_with fail
          go_quiet (fail)
          go_wp2_with fail
          go_roundw
          case rel => exact ⟨k + 1, by omega, by go_num, HE2.out, below_drewN hB _⟩
          case measure => simp [intOf]; omega
        · have hx : (!(s == t)) = true := by simp [heq]
          have hx2 : (s == t) = false := by simp [heq]
          have HD := hid (HNE.out heq)
          clear HE HNE heq
          go_wp2_with fail
          go_quiet (fail)
          go_wp2_with fail
          go_ret
          exact ⟨by rw [HD.out]; rfl, below_drewN hB _⟩
      · obtain rfl : k = a.length := by omega
        have HD := hid (decide_eq_true (eqToI_all HL.out he.out))
        go_wp2_with fail
        go_ret
        exact ⟨by rw [HD.out]; rfl, hB⟩
  · have hl : ((a.length : Int) != (b.length : Int)) = true := by simp; omega
    have HD := hid (decide_eq_false (show ¬ a = b by rintro rfl; exact hlen rfl))
    clear hlen
    go_enter Tryd.func23, Tryd.ntmps23
    go_wp2_with fail
    go_ret
    exact ⟨by rw [HD.out]; rfl, Below.refl _ _⟩
set_option maxRecDepth 100000 in
set_option maxHeartbeats 4000000 in
theorem same_c (x y x2 y2 : Value) (B B2 : List VS) (U U2 : List Int) (w : World) (hx : SetsAt w x B) (hy : IntsAt w y U) (hx2 : SetsAt w x2 B2) (hy2 : IntsAt w y2 U2)
    (hB : B.length ≤ 140737488355328) (hU : U.length ≤ 140737488355328) (hB2 : B2.length ≤ 140737488355328) (hU2 : U2.length ≤ 140737488355328) :
    Calls Tryd.prog 16 #[.agg #[x, y], .agg #[x2, y2]] w fun e w' => e = .returned (.bool (decide (B = B2 ∧ U = U2))) ∧ Below w.heap.size w w' := by
  obtain ⟨p, c, rfl, hp⟩ := id hx
  obtain ⟨q, d, rfl, hq⟩ := id hx2
  obtain ⟨p', c', rfl, hp'⟩ := id hy
  obtain ⟨q', d', rfl, hq'⟩ := id hy2
  clear hp hq hp' hq'
  have hbb : Below w.heap.size w ((w.alloc (.cells #[.slice p B.length c, .slice p' U.length c'] 33)).alloc (.cells #[.slice q B2.length d, .slice q' U2.length d'] 33)) := ((Below.refl _ w).alloc (Nat.le_refl _) _).alloc (by simp) _
  have b1 := (Box2.new w 33 (.slice p B.length c) (.slice p' U.length c')).alloc (.cells #[.slice q B2.length d, .slice q' U2.length d'] 33)
  have b2 := Box2.new (w.alloc (.cells #[.slice p B.length c, .slice p' U.length c'] 33)) 33 (.slice q B2.length d) (.slice q' U2.length d')
  rw [World.size_alloc] at b2
  by_cases hlen : B.length = B2.length
  · have hl : ((B.length : Int) != (B2.length : Int)) = false := by simp; omega
    have HL := hid hlen
    have HS := hid (fun w' (h : Below w.heap.size w w') => rSame_c _ _ U U2 w' (hy.below h) (hy2.below h) hU hU2)
    have HX := hid (fun w' (h : Below w.heap.size w w') => hx.below h)
    have HX2 := hid (fun w' (h : Below w.heap.size w w') => hx2.below h)
    have HBB := hid hbb
    obtain ⟨c0, c1, _, _⟩ := b1.cells
    obtain ⟨d0, d1, _, _⟩ := b2.cells
    have BB1 := hid b1
    have BB2 := hid b2
    clear hlen hx hy hx2 hy2 hbb b1 b2
    go_enter Tryd.func16, Tryd.ntmps16
    go_wp2_with fail
    generalize (w.alloc (.cells #[.slice p B.length c, .slice p' U.length c'] 33)).alloc (.cells #[.slice q B2.length d, .slice q' U2.length d'] 33) = w1 at *
    refine (HS.out _ HBB.out).mono ?_
    rintro e w2 ⟨rfl, hb2⟩
    have hB2 := HBB.out.trans (hb2.mono HBB.out.size)
    have e1 := BB1.out.below hb2 BB1.out.lt
    have e2 := BB2.out.below hb2 BB2.out.lt
    clear c0 c1 d0 d1
    by_cases hu : U = U2
    · have HU := hid hu
      rw [decide_eq_true hu]
      clear hu
      have E1 := hid e1
      have E2 := hid e2
      clear e1 e2
      go_wp2_with fail
      clear hl
      go_loopw [5] (fun i wr => ∃ k : Nat, k ≤ B.length ∧ i = .int .i64 k ∧ Hid (eqToI B B2 k) ∧ Below w2.heap.size w2 wr) (fun i _ => B.length - (intOf i).toNat)
      case atStart => exact ⟨0, Nat.zero_le _, rfl, fun i hi => by omega, Below.refl _ _⟩
      case round =>
        obtain ⟨k, hk, rfl, he, hBr⟩ := hrel
        have hBw := hB2.trans (hBr.mono hB2.size)
        obtain ⟨c0, c1, _, _⟩ := (E1.out.below hBr E1.out.lt).cells
        obtain ⟨d0, d1, _, _⟩ := (E2.out.below hBr E2.out.lt).cells
        have lw1 : w.heap.size < wr.heap.size := cell_lt c0
        have lw2 : w.heap.size + 1 < wr.heap.size := cell_lt d0
        by_cases hlt : k < B.length
        · have hkb : k < B2.length := by rw [← HL.out]; exact hlt
          have hua := HX.out wr hBw
          have hvb := HX2.out wr hBw
          obtain ⟨b1, o1, c1', e1, l1⟩ := hua.form (by omega)
          obtain ⟨b2, o2, c2', e2, l2⟩ := hvb.form (by omega)
          injection e1 with e1 _ e1'
          injection e2 with e2 _ e2'
          subst e1; subst e2; subst e1'; subst e2'
          obtain ⟨s, hs, r0, r1⟩ := hua.get k hlt
          obtain ⟨t, ht, q0, q1⟩ := hvb.get k hkb
          have z1 : (0 : Int) ≤ (k : Int) ∧ (k : Int) < (B.length : Int) := by omega
          have z2 : (k : Int) < (B2.length : Int) := by omega
          have HE := hid (eqToI_succ he.out hlt hkb)
          have HNE := hid (fun (h : B[k] ≠ B2[k]) => (decide_eq_false (by rintro ⟨rfl, _⟩; exact h rfl) : decide (B = B2 ∧ U = U2) = false))
          rw [hs, ht] at HE HNE
          clear hua hvb hs ht hkb he
          by_cases heq : s = t
          · have HE2 := hid (HE.out heq)
            subst heq
            have hx : (!(s == s)) = false := by simp
            clear HE HNE
            go_wp2_with fail
            go_quiet (fail)
            go_wp2_with fail
            go_roundw
            case rel => exact ⟨k + 1, by omega, by go_num, HE2.out, below_drewN hBr _⟩
            case measure => simp [intOf]; omega
          · have hx : (!(s == t)) = true := by simp [heq]
            have hx2 : (s == t) = false := by simp [heq]
            have HD := hid (HNE.out heq)
            clear HE HNE heq
            go_wp2_with fail
            go_quiet (fail)
            go_wp2_with fail
            go_ret
            exact ⟨by rw [HD.out]; rfl, below_drewN hBw _⟩
        · obtain rfl : k = B.length := by omega
          have HD := hid (decide_eq_true (show B = B2 ∧ U = U2 from ⟨eqToI_all HL.out he.out, HU.out⟩))
          go_wp2_with fail
          go_ret
          exact ⟨by rw [HD.out]; rfl, hBw⟩
    · rw [decide_eq_false hu]
      have HD := hid (decide_eq_false (show ¬ (B = B2 ∧ U = U2) from fun h => hu h.2))
      clear hu
      go_wp2_with fail
      go_ret
      exact ⟨by rw [HD.out]; rfl, hB2⟩
  · have hl : ((B.length : Int) != (B2.length : Int)) = true := by simp; omega
    have HD := hid (decide_eq_false (show ¬ (B = B2 ∧ U = U2) from fun h => hlen (by rw [h.1])))
    obtain ⟨c0, c1, _, _⟩ := b1.cells
    obtain ⟨d0, d1, _, _⟩ := b2.cells
    have HBB := hid hbb
    clear hlen hx hy hx2 hy2 hbb b1 b2
    go_enter Tryd.func16, Tryd.ntmps16
    go_wp2_with fail
    go_ret
    exact ⟨by rw [HD.out]; rfl, HBB.out⟩
theorem own_apart {w : World} {B B' : Nat} {e e' : TypeId} {size size' : Nat} {v v' : Value} {n n' : Nat} {xs xs' : List Value} (h : w.ownsRow B e size v n xs) (h' : w.ownsRow B' e' size' v' n' xs') (ht : e ≠ e') : v.ownBlock = none ∨ v.ownBlock ≠ v'.ownBlock := by
  rcases h.2 with ⟨rfl, _⟩ | ⟨g, cap, cur, rfl, _, hg, _⟩
  · exact .inl rfl
  · rcases h'.2 with ⟨rfl, _⟩ | ⟨g', cap', cur', rfl, _, hg', _⟩
    · exact .inr (by intro e; cases e)
    · right
      intro e1
      obtain rfl : g = g' := by simpa [Value.ownBlock] using e1
      rw [hg] at hg'
      injection hg' with hg'; injection hg' with _ e2 _
      exact ht e2
theorem Box2.app {w w' : World} {b : Nat} {T : TypeId} {x y : Value} (h : Box2 w b T x y) {B : Nat} {e : TypeId} {size : Nat} {v : Value} {n : Nat} {xs : List Value} (ho : w.ownsRow B e size v n xs) (hg : w.grownBy w' v.ownBlock) (ht : T ≠ e) : Box2 w' b T x y :=
  h.kept hg (own_ne_box ho h ht).symm
theorem below_app {w0 w w' : World} {e : TypeId} {size : Nat} {v : Value} {n : Nat} {xs : List Value} {B : Nat} (hb : Below B w0 w) (hB : B ≤ w0.heap.size) (ho : w.ownsRow B e size v n xs) (hg : w.grownBy w' v.ownBlock) : Below B w0 w' :=
  hb.grown hg (Nat.le_trans hB hb.size) (fun k e => (ho.lt k e).1)
theorem grownBy_01 (w : World) (b : Nat) (x y : Value) : w.grownBy ((w.setCell ⟨b, 0, none⟩ x).setCell ⟨b, 1, none⟩ y) (some b) :=
  ⟨rfl, rfl, rfl, by simp [World.setCell], fun k _ hne => by
    rw [Below.heap_setCell _ _ _ _ (by intro e; exact hne (by rw [e])), Below.heap_setCell _ _ _ _ (by intro e; exact hne (by rw [e]))]⟩
theorem below_01 {B : Nat} {a w : World} {b : Nat} (h : Below B a w) (hb : B ≤ b) (x y : Value) : Below B a ((w.setCell ⟨b, 0, none⟩ x).setCell ⟨b, 1, none⟩ y) :=
  (h.setCell (p := ⟨b, 0, none⟩) hb x).setCell (p := ⟨b, 1, none⟩) hb y
set_option maxRecDepth 100000 in
set_option maxHeartbeats 4000000 in
theorem given_c (x y : Value) (L : List VS) (U : List Int) (w : World) (hx : SetsAt w x L) (hy : IntsAt w y U) (hl : L.length ≤ 1000) (hu : U.length ≤ 1000) :
    Calls Tryd.prog 26 #[.agg #[x, y]] w fun e w' => ∃ x2 y2, e = .returned (.agg #[x2, y2]) ∧ OwnSets w' w.heap.size x2 L ∧ OwnInts w' w.heap.size y2 U ∧ Below w.heap.size w w' := by
  obtain ⟨p, c, rfl, hp⟩ := id hx
  obtain ⟨p', c', rfl, hp'⟩ := id hy
  clear hp hp'
  have hbb : Below w.heap.size w ((w.alloc (.cells #[.slice p L.length c, .slice p' U.length c'] 33)).alloc (.cells #[.slice none 0 0, .slice none 0 0] 25)) := ((Below.refl _ w).alloc (Nat.le_refl _) _).alloc (by simp) _
  have b1 := (Box2.new w 33 (.slice p L.length c) (.slice p' U.length c')).alloc (.cells #[.slice none 0 0, .slice none 0 0] 25)
  have b2 := Box2.new (w.alloc (.cells #[.slice p L.length c, .slice p' U.length c'] 33)) 25 (.slice none 0 0) (.slice none 0 0)
  rw [World.size_alloc] at b2
  have HX := hid (fun w' (h : Below w.heap.size w w') => hx.below h)
  have HY := hid (fun w' (h : Below w.heap.size w w') => hy.below h)
  have hbd := hbb.drew
  have HBB := hid hbd
  have BB1 := hid b1
  have BB2 := hid b2
  clear hx hy b1 b2 hbb hbd
  go_enter Tryd.func26, Tryd.ntmps26
  go_wp2_with fail
  generalize (w.alloc (.cells #[.slice p L.length c, .slice p' U.length c'] 33)).alloc (.cells #[.slice none 0 0, .slice none 0 0] 25) = w1 at *
  refine Go.Proofs.YtmlecpapoeodkaaDoor.wp_region_L 10 7 (fun w' => Box2 w' (w.heap.size) 33 (.slice p L.length c) (.slice p' U.length c') ∧ Box2 w' (w.heap.size + 1) 25 (.slice none 0 0) (.slice none 0 0)) (by kernel_rfl) rfl ⟨BB1.out, BB2.out⟩ (fun _ => ?_)
  refine wpAnyL_pure (i := 1) (v := .pointer (some ⟨w.heap.size, 0, none⟩)) (by simp only [List.getElem?_toArray, List.getElem?_cons_zero, List.getElem?_cons_succ] <;> rfl) (by kernel_rfl) (by kernel_rfl) (by kernel_rfl) (by exact fun _ _ _ h => h) (by decide) (.inr ⟨BB1.out, BB2.out⟩) (Or.inl ⟨by rfl, fun w _ => (by simp [execOp, go_sem, Act.eval])⟩) (fun _ => ?_)
  simp only [Act.put, List.setIfInBounds_toArray, List.set_cons_zero, List.set_cons_succ]
  refine wpAnyL_load2 (i := 2) (v := .slice p L.length c) (by simp only [List.getElem?_toArray, List.getElem?_cons_zero, List.getElem?_cons_succ] <;> rfl) (by kernel_rfl) (by kernel_rfl) (by kernel_rfl) (by exact fun _ _ _ h => h) (by decide) (Waits.more (j := 3) rfl ⟨⟨3, .chain⟩, by simp, rfl, rfl⟩ (Waits.one rfl ⟨⟨2, .data⟩, by simp, rfl, rfl⟩)) (by kernel_rfl) (by kernel_rfl) (.inr ⟨BB1.out, BB2.out⟩) (Or.inl ⟨by rfl, fun w hw => (by obtain ⟨x0, _⟩ := hw; simp [execOp, go_sem, Act.eval, x0.cells.1])⟩) (fun _ => ?_)
  simp only [Act.put, List.setIfInBounds_toArray, List.set_cons_zero, List.set_cons_succ]
  refine wpAnyL_pure (i := 5) (v := .pointer (some ⟨w.heap.size, 1, none⟩)) (by simp only [List.getElem?_toArray, List.getElem?_cons_zero, List.getElem?_cons_succ] <;> rfl) (by kernel_rfl) (by kernel_rfl) (by kernel_rfl) (by exact fun _ _ _ h => h) (by decide) (.inr ⟨BB1.out, BB2.out⟩) (Or.inl ⟨by rfl, fun w _ => (by simp [execOp, go_sem, Act.eval])⟩) (fun _ => ?_)
  simp only [Act.put, List.setIfInBounds_toArray, List.set_cons_zero, List.set_cons_succ]
  refine wpAnyL_load2 (i := 6) (v := .slice p' U.length c') (by simp only [List.getElem?_toArray, List.getElem?_cons_zero, List.getElem?_cons_succ] <;> rfl) (by kernel_rfl) (by kernel_rfl) (by kernel_rfl) (by exact fun _ _ _ h => h) (by decide) (Waits.one rfl ⟨⟨6, .data⟩, by simp, rfl, rfl⟩) (by kernel_rfl) (by kernel_rfl) (.inr ⟨BB1.out, BB2.out⟩) (Or.inl ⟨by rfl, fun w hw => (by obtain ⟨x0, _⟩ := hw; simp [execOp, go_sem, Act.eval, x0.cells.2.1])⟩) (fun _ => ?_)
  simp only [Act.put, List.setIfInBounds_toArray, List.set_cons_zero, List.set_cons_succ]
  refine wpAnyL_two (i := 0) (j := 4) (by kernel_rfl) (by simp only [List.getElem?_toArray, List.getElem?_cons_zero] <;> rfl) (by rfl) (by simp only [List.getElem?_toArray, List.getElem?_cons_zero, List.getElem?_cons_succ] <;> rfl) (by rfl) ?_ ?_
  · have faa1_0 : Hid (Box2 (w1.drew.alloc (.cells #[] 32)) (w.heap.size) 33 (.slice p L.length c) (.slice p' U.length c')) := BB1.out.alloc _
    have faa1_1 : Hid (Box2 (w1.drew.alloc (.cells #[] 32)) (w.heap.size + 1) 25 (.slice none 0 0) (.slice none 0 0)) := BB2.out.alloc _
    have ona1 := own_noneS w1.drew (Nat.le_trans (Nat.le_refl _) HBB.out.size)
    have bba1 := HBB.out.alloc HBB.out.size (.cells #[] 32)
    refine opwp_value (v := .slice (some ⟨w1.drew.heap.size, 0, none⟩) 0 0) (w' := (w1.drew.alloc (.cells #[] 32))) (by simp [execOp, go_sem]) ⟨.inr ⟨faa1_0.out, faa1_1.out⟩, ?_⟩
    simp only [Act.put, List.setIfInBounds_toArray, List.set_cons_zero, List.set_cons_succ]
    refine wpAnyL_two (i := 3) (j := 4) (by kernel_rfl) (by simp only [List.getElem?_toArray, List.getElem?_cons_zero, List.getElem?_cons_succ] <;> rfl) (by rfl) (by simp only [List.getElem?_toArray, List.getElem?_cons_zero, List.getElem?_cons_succ] <;> rfl) (by rfl) ?_ ?_
    · refine opwp_append_S _ _ rfl w.heap.size _ [] rfl ona1 _ L rfl (HX.out _ bba1) (by simp; omega) bba1.size ?_
      intro vaa2 waa2 onaa2 hgaa2 _
      rw [List.nil_append] at onaa2
      have bbaa2 := below_app bba1 (Nat.le_refl _) ona1 hgaa2
      have faaa2_0 : Hid (Box2 waa2 (w.heap.size) 33 (.slice p L.length c) (.slice p' U.length c')) := faa1_0.out.app ona1 hgaa2 (by decide)
      have faaa2_1 : Hid (Box2 waa2 (w.heap.size + 1) 25 (.slice none 0 0) (.slice none 0 0)) := faa1_1.out.app ona1 hgaa2 (by decide)
      refine ⟨.inr ⟨faaa2_0.out, faaa2_1.out⟩, ?_⟩
      simp only [Act.put, List.setIfInBounds_toArray, List.set_cons_zero, List.set_cons_succ]
      have faaa3_0 : Hid (Box2 (waa2.alloc (.cells #[] 3)) (w.heap.size) 33 (.slice p L.length c) (.slice p' U.length c')) := faaa2_0.out.alloc _
      have faaa3_1 : Hid (Box2 (waa2.alloc (.cells #[] 3)) (w.heap.size + 1) 25 (.slice none 0 0) (.slice none 0 0)) := faaa2_1.out.alloc _
      have owaa3S := onaa2.alloc (.cells #[] 3)
      have onaa3 := own_noneI waa2 (Nat.le_trans (Nat.le_refl _) bbaa2.size)
      have bbaa3 := bbaa2.alloc bbaa2.size (.cells #[] 3)
      refine wpAnyL_one (i := 4) (by kernel_rfl) (by simp only [List.getElem?_toArray, List.getElem?_cons_zero, List.getElem?_cons_succ] <;> rfl) (by rfl) ?_
      refine opwp_value (v := .slice (some ⟨waa2.heap.size, 0, none⟩) 0 0) (w' := (waa2.alloc (.cells #[] 3))) (by simp [execOp, go_sem]) ⟨.inr ⟨faaa3_0.out, faaa3_1.out⟩, ?_⟩
      simp only [Act.put, List.setIfInBounds_toArray, List.set_cons_zero, List.set_cons_succ]
      refine wpAnyL_one (i := 7) (by kernel_rfl) (by simp only [List.getElem?_toArray, List.getElem?_cons_zero, List.getElem?_cons_succ] <;> rfl) (by rfl) ?_
      refine opwp_append_I _ _ rfl w.heap.size _ [] rfl onaa3 _ U rfl (HY.out _ bbaa3) (by simp; omega) bbaa3.size ?_
      intro vaa4 waa4 onaa4 hgaa4 _
      rw [List.nil_append] at onaa4
      have bbaa4 := below_app bbaa3 (Nat.le_refl _) onaa3 hgaa4
      have faaa4_0 : Hid (Box2 waa4 (w.heap.size) 33 (.slice p L.length c) (.slice p' U.length c')) := faaa3_0.out.app onaa3 hgaa4 (by decide)
      have faaa4_1 : Hid (Box2 waa4 (w.heap.size + 1) 25 (.slice none 0 0) (.slice none 0 0)) := faaa3_1.out.app onaa3 hgaa4 (by decide)
      have owaa4S := owaa3S.kept hgaa4 (own_apart owaa3S onaa3 (by decide))
      refine ⟨.inl (by kernel_rfl), ?_⟩
      simp only [Act.put, List.setIfInBounds_toArray, List.set_cons_zero, List.set_cons_succ]
      obtain ⟨qaa5S, daa5S, eaa5S, _⟩ := OwnSets.sets owaa4S
      obtain ⟨qaa5I, daa5I, eaa5I, _⟩ := OwnInts.ints onaa4
      subst eaa5S
      subst eaa5I
      refine wpAnyL_one (i := 8) (by kernel_rfl) (by simp only [List.getElem?_toArray, List.getElem?_cons_zero, List.getElem?_cons_succ] <;> rfl) (by rfl) ?_
      refine opwp_value (v := .agg #[.slice qaa5S L.length daa5S, .slice qaa5I U.length daa5I]) (w' := waa4) (by simp [execOp, go_sem, Act.eval]) ⟨.inl (by kernel_rfl), ?_⟩
      simp only [Act.put, List.setIfInBounds_toArray, List.set_cons_zero, List.set_cons_succ]
      obtain ⟨_, _, z2, z3⟩ := faaa4_1.out.cells
      obtain ⟨z0, z1, _, _⟩ := faaa4_1.out.cells
      refine wpAnyL_one (i := 9) (by kernel_rfl) (by simp only [List.getElem?_toArray, List.getElem?_cons_zero, List.getElem?_cons_succ] <;> rfl) (by rfl) ?_
      refine opwp_skip (w' := ((waa4.setCell ⟨w.heap.size + 1, 0, none⟩ (.slice qaa5S L.length daa5S)).setCell ⟨w.heap.size + 1, 1, none⟩ (.slice qaa5I U.length daa5I))) (by simp [execOp, go_sem, Act.eval, z0, z1, z2, z3]) ⟨.inl (by kernel_rfl), ?_⟩
      simp only [Act.put]
      refine wpAnyL_done (by kernel_rfl) ?_ _
      go_wp2_with fail
      have e1 := owaa4S.kept (grownBy_01 _ (w.heap.size + 1) (.slice qaa5S L.length daa5S) (.slice qaa5I U.length daa5I)) (.inr (own_ne_box owaa4S faaa4_1.out (by decide)))
      have e2 := onaa4.kept (grownBy_01 _ (w.heap.size + 1) (.slice qaa5S L.length daa5S) (.slice qaa5I U.length daa5I)) (.inr (own_ne_box onaa4 faaa4_1.out (by decide)))
      exact bodyPost_ret (results_box rfl rfl (faaa4_1.out.set01 _ _)) rfl ⟨_, _, rfl, e1, e2, below_01 bbaa4 (by omega) _ _⟩
    · have faab2_0 : Hid (Box2 ((w1.drew.alloc (.cells #[] 32)).alloc (.cells #[] 3)) (w.heap.size) 33 (.slice p L.length c) (.slice p' U.length c')) := faa1_0.out.alloc _
      have faab2_1 : Hid (Box2 ((w1.drew.alloc (.cells #[] 32)).alloc (.cells #[] 3)) (w.heap.size + 1) 25 (.slice none 0 0) (.slice none 0 0)) := faa1_1.out.alloc _
      have owab2S := ona1.alloc (.cells #[] 3)
      have onab2 := own_noneI (w1.drew.alloc (.cells #[] 32)) (Nat.le_trans (Nat.le_refl _) bba1.size)
      have bbab2 := bba1.alloc bba1.size (.cells #[] 3)
      refine opwp_value (v := .slice (some ⟨(w1.drew.alloc (.cells #[] 32)).heap.size, 0, none⟩) 0 0) (w' := ((w1.drew.alloc (.cells #[] 32)).alloc (.cells #[] 3))) (by simp [execOp, go_sem]) ⟨.inr ⟨faab2_0.out, faab2_1.out⟩, ?_⟩
      simp only [Act.put, List.setIfInBounds_toArray, List.set_cons_zero, List.set_cons_succ]
      refine wpAnyL_one (i := 3) (by kernel_rfl) (by simp only [List.getElem?_toArray, List.getElem?_cons_zero, List.getElem?_cons_succ] <;> rfl) (by rfl) ?_
      refine opwp_append_S _ _ rfl w.heap.size _ [] rfl owab2S _ L rfl (HX.out _ bbab2) (by simp; omega) bbab2.size ?_
      intro vab3 wab3 onab3 hgab3 _
      rw [List.nil_append] at onab3
      have bbab3 := below_app bbab2 (Nat.le_refl _) owab2S hgab3
      have faab3_0 : Hid (Box2 wab3 (w.heap.size) 33 (.slice p L.length c) (.slice p' U.length c')) := faab2_0.out.app owab2S hgab3 (by decide)
      have faab3_1 : Hid (Box2 wab3 (w.heap.size + 1) 25 (.slice none 0 0) (.slice none 0 0)) := faab2_1.out.app owab2S hgab3 (by decide)
      have owab3I := onab2.kept hgab3 (own_apart onab2 owab2S (by decide))
      refine ⟨.inr ⟨faab3_0.out, faab3_1.out⟩, ?_⟩
      simp only [Act.put, List.setIfInBounds_toArray, List.set_cons_zero, List.set_cons_succ]
      refine wpAnyL_one (i := 7) (by kernel_rfl) (by simp only [List.getElem?_toArray, List.getElem?_cons_zero, List.getElem?_cons_succ] <;> rfl) (by rfl) ?_
      refine opwp_append_I _ _ rfl w.heap.size _ [] rfl owab3I _ U rfl (HY.out _ bbab3) (by simp; omega) bbab3.size ?_
      intro vab4 wab4 onab4 hgab4 _
      rw [List.nil_append] at onab4
      have bbab4 := below_app bbab3 (Nat.le_refl _) owab3I hgab4
      have faab4_0 : Hid (Box2 wab4 (w.heap.size) 33 (.slice p L.length c) (.slice p' U.length c')) := faab3_0.out.app owab3I hgab4 (by decide)
      have faab4_1 : Hid (Box2 wab4 (w.heap.size + 1) 25 (.slice none 0 0) (.slice none 0 0)) := faab3_1.out.app owab3I hgab4 (by decide)
      have owab4S := onab3.kept hgab4 (own_apart onab3 owab3I (by decide))
      refine ⟨.inl (by kernel_rfl), ?_⟩
      simp only [Act.put, List.setIfInBounds_toArray, List.set_cons_zero, List.set_cons_succ]
      obtain ⟨qab5S, dab5S, eab5S, _⟩ := OwnSets.sets owab4S
      obtain ⟨qab5I, dab5I, eab5I, _⟩ := OwnInts.ints onab4
      subst eab5S
      subst eab5I
      refine wpAnyL_one (i := 8) (by kernel_rfl) (by simp only [List.getElem?_toArray, List.getElem?_cons_zero, List.getElem?_cons_succ] <;> rfl) (by rfl) ?_
      refine opwp_value (v := .agg #[.slice qab5S L.length dab5S, .slice qab5I U.length dab5I]) (w' := wab4) (by simp [execOp, go_sem, Act.eval]) ⟨.inl (by kernel_rfl), ?_⟩
      simp only [Act.put, List.setIfInBounds_toArray, List.set_cons_zero, List.set_cons_succ]
      obtain ⟨_, _, z2, z3⟩ := faab4_1.out.cells
      obtain ⟨z0, z1, _, _⟩ := faab4_1.out.cells
      refine wpAnyL_one (i := 9) (by kernel_rfl) (by simp only [List.getElem?_toArray, List.getElem?_cons_zero, List.getElem?_cons_succ] <;> rfl) (by rfl) ?_
      refine opwp_skip (w' := ((wab4.setCell ⟨w.heap.size + 1, 0, none⟩ (.slice qab5S L.length dab5S)).setCell ⟨w.heap.size + 1, 1, none⟩ (.slice qab5I U.length dab5I))) (by simp [execOp, go_sem, Act.eval, z0, z1, z2, z3]) ⟨.inl (by kernel_rfl), ?_⟩
      simp only [Act.put]
      refine wpAnyL_done (by kernel_rfl) ?_ _
      go_wp2_with fail
      have e1 := owab4S.kept (grownBy_01 _ (w.heap.size + 1) (.slice qab5S L.length dab5S) (.slice qab5I U.length dab5I)) (.inr (own_ne_box owab4S faab4_1.out (by decide)))
      have e2 := onab4.kept (grownBy_01 _ (w.heap.size + 1) (.slice qab5S L.length dab5S) (.slice qab5I U.length dab5I)) (.inr (own_ne_box onab4 faab4_1.out (by decide)))
      exact bodyPost_ret (results_box rfl rfl (faab4_1.out.set01 _ _)) rfl ⟨_, _, rfl, e1, e2, below_01 bbab4 (by omega) _ _⟩
  · have fab1_0 : Hid (Box2 (w1.drew.alloc (.cells #[] 3)) (w.heap.size) 33 (.slice p L.length c) (.slice p' U.length c')) := BB1.out.alloc _
    have fab1_1 : Hid (Box2 (w1.drew.alloc (.cells #[] 3)) (w.heap.size + 1) 25 (.slice none 0 0) (.slice none 0 0)) := BB2.out.alloc _
    have onb1 := own_noneI w1.drew (Nat.le_trans (Nat.le_refl _) HBB.out.size)
    have bbb1 := HBB.out.alloc HBB.out.size (.cells #[] 3)
    refine opwp_value (v := .slice (some ⟨w1.drew.heap.size, 0, none⟩) 0 0) (w' := (w1.drew.alloc (.cells #[] 3))) (by simp [execOp, go_sem]) ⟨.inr ⟨fab1_0.out, fab1_1.out⟩, ?_⟩
    simp only [Act.put, List.setIfInBounds_toArray, List.set_cons_zero, List.set_cons_succ]
    have fab2_0 : Hid (Box2 ((w1.drew.alloc (.cells #[] 3)).alloc (.cells #[] 32)) (w.heap.size) 33 (.slice p L.length c) (.slice p' U.length c')) := fab1_0.out.alloc _
    have fab2_1 : Hid (Box2 ((w1.drew.alloc (.cells #[] 3)).alloc (.cells #[] 32)) (w.heap.size + 1) 25 (.slice none 0 0) (.slice none 0 0)) := fab1_1.out.alloc _
    have owb2I := onb1.alloc (.cells #[] 32)
    have onb2 := own_noneS (w1.drew.alloc (.cells #[] 3)) (Nat.le_trans (Nat.le_refl _) bbb1.size)
    have bbb2 := bbb1.alloc bbb1.size (.cells #[] 32)
    refine wpAnyL_one (i := 0) (by kernel_rfl) (by simp only [List.getElem?_toArray, List.getElem?_cons_zero] <;> rfl) (by rfl) ?_
    refine opwp_value (v := .slice (some ⟨(w1.drew.alloc (.cells #[] 3)).heap.size, 0, none⟩) 0 0) (w' := ((w1.drew.alloc (.cells #[] 3)).alloc (.cells #[] 32))) (by simp [execOp, go_sem]) ⟨.inr ⟨fab2_0.out, fab2_1.out⟩, ?_⟩
    simp only [Act.put, List.setIfInBounds_toArray, List.set_cons_zero, List.set_cons_succ]
    refine wpAnyL_one (i := 3) (by kernel_rfl) (by simp only [List.getElem?_toArray, List.getElem?_cons_zero, List.getElem?_cons_succ] <;> rfl) (by rfl) ?_
    refine opwp_append_S _ _ rfl w.heap.size _ [] rfl onb2 _ L rfl (HX.out _ bbb2) (by simp; omega) bbb2.size ?_
    intro vb3 wb3 onb3 hgb3 _
    rw [List.nil_append] at onb3
    have bbb3 := below_app bbb2 (Nat.le_refl _) onb2 hgb3
    have fab3_0 : Hid (Box2 wb3 (w.heap.size) 33 (.slice p L.length c) (.slice p' U.length c')) := fab2_0.out.app onb2 hgb3 (by decide)
    have fab3_1 : Hid (Box2 wb3 (w.heap.size + 1) 25 (.slice none 0 0) (.slice none 0 0)) := fab2_1.out.app onb2 hgb3 (by decide)
    have owb3I := owb2I.kept hgb3 (own_apart owb2I onb2 (by decide))
    refine ⟨.inr ⟨fab3_0.out, fab3_1.out⟩, ?_⟩
    simp only [Act.put, List.setIfInBounds_toArray, List.set_cons_zero, List.set_cons_succ]
    refine wpAnyL_one (i := 7) (by kernel_rfl) (by simp only [List.getElem?_toArray, List.getElem?_cons_zero, List.getElem?_cons_succ] <;> rfl) (by rfl) ?_
    refine opwp_append_I _ _ rfl w.heap.size _ [] rfl owb3I _ U rfl (HY.out _ bbb3) (by simp; omega) bbb3.size ?_
    intro vb4 wb4 onb4 hgb4 _
    rw [List.nil_append] at onb4
    have bbb4 := below_app bbb3 (Nat.le_refl _) owb3I hgb4
    have fab4_0 : Hid (Box2 wb4 (w.heap.size) 33 (.slice p L.length c) (.slice p' U.length c')) := fab3_0.out.app owb3I hgb4 (by decide)
    have fab4_1 : Hid (Box2 wb4 (w.heap.size + 1) 25 (.slice none 0 0) (.slice none 0 0)) := fab3_1.out.app owb3I hgb4 (by decide)
    have owb4S := onb3.kept hgb4 (own_apart onb3 owb3I (by decide))
    refine ⟨.inl (by kernel_rfl), ?_⟩
    simp only [Act.put, List.setIfInBounds_toArray, List.set_cons_zero, List.set_cons_succ]
    obtain ⟨qb5S, db5S, eb5S, _⟩ := OwnSets.sets owb4S
    obtain ⟨qb5I, db5I, eb5I, _⟩ := OwnInts.ints onb4
    subst eb5S
    subst eb5I
    refine wpAnyL_one (i := 8) (by kernel_rfl) (by simp only [List.getElem?_toArray, List.getElem?_cons_zero, List.getElem?_cons_succ] <;> rfl) (by rfl) ?_
    refine opwp_value (v := .agg #[.slice qb5S L.length db5S, .slice qb5I U.length db5I]) (w' := wb4) (by simp [execOp, go_sem, Act.eval]) ⟨.inl (by kernel_rfl), ?_⟩
    simp only [Act.put, List.setIfInBounds_toArray, List.set_cons_zero, List.set_cons_succ]
    obtain ⟨_, _, z2, z3⟩ := fab4_1.out.cells
    obtain ⟨z0, z1, _, _⟩ := fab4_1.out.cells
    refine wpAnyL_one (i := 9) (by kernel_rfl) (by simp only [List.getElem?_toArray, List.getElem?_cons_zero, List.getElem?_cons_succ] <;> rfl) (by rfl) ?_
    refine opwp_skip (w' := ((wb4.setCell ⟨w.heap.size + 1, 0, none⟩ (.slice qb5S L.length db5S)).setCell ⟨w.heap.size + 1, 1, none⟩ (.slice qb5I U.length db5I))) (by simp [execOp, go_sem, Act.eval, z0, z1, z2, z3]) ⟨.inl (by kernel_rfl), ?_⟩
    simp only [Act.put]
    refine wpAnyL_done (by kernel_rfl) ?_ _
    go_wp2_with fail
    have e1 := owb4S.kept (grownBy_01 _ (w.heap.size + 1) (.slice qb5S L.length db5S) (.slice qb5I U.length db5I)) (.inr (own_ne_box owb4S fab4_1.out (by decide)))
    have e2 := onb4.kept (grownBy_01 _ (w.heap.size + 1) (.slice qb5S L.length db5S) (.slice qb5I U.length db5I)) (.inr (own_ne_box onb4 fab4_1.out (by decide)))
    exact bodyPost_ret (results_box rfl rfl (fab4_1.out.set01 _ _)) rfl ⟨_, _, rfl, e1, e2, below_01 bbb4 (by omega) _ _⟩
end Go.Proofs.YtmlecpapoeodkaaDoor
