/- Walk of the reference's union: a region that draws its order. -/
import Derived.Test.YthckmpdnkinmlaaDoorRWalk5
namespace Go.Proofs.YthckmpdnkinmlaaDoor
open Go.RowKit

/-- 'append(out, nil...)', out owned: nothing turns. -/
theorem step_append_none {P : Program} {w : World} {ops : Array Oper} {o : Oper} {a : Act} {K : Act → World → Prop} {Q : Exit → Act → World → Prop} {E : Prop} (hgd : o.guard = none) (s x : Operand) (t : TypeId)
    (ho : o.op = .call { callee := .builtin .append, args := #[s, x], argTypes := #[t, t] })
    (base : Nat) (e : TypeId) (i : TypeInfo) (size : Nat) (ht : P.underlying t = some (.slice e)) (hi : P.info? e = some i)
    (v : Value) (n : Nat) (xs : List Value) (hs : a.eval s = v) (hown : w.ownsRow base e size v n xs) (hx : a.eval x = .slice none 0 0)
    (h : K (a.put o.dst v) w) : if Region.wanted o (yielded ops a.tmps) = true then Oper.wp P o a w K Q else E := by
  have hw : Region.wanted o (yielded ops a.tmps) = true := by simp [Region.wanted, hgd]
  rw [if_pos hw]
  have hrun := run_append_owned_none (P := P) (w := w) base t o.type e i size ht hi v n xs hown
  unfold Oper.wp
  simp [execOp, ho, resolve, invoke, builtin, hs, hx, hrun, Result.andThen]
  exact h
theorem union_list (a b : VS) : ofL (mems a ++ mems b) = a ||| b := by
  apply ext_has; intro u h1 h2
  rw [has_ofL, has_or, Bool.eq_iff_iff]
  simp [mem_mems, h1, h2]
theorem rList_nil (s : VS) (h : mems s = []) (w : World) : Calls Tryd.prog 38 #[encS s] w fun e w' => e = .returned (.slice none 0 0) ∧ Below w.heap.size w w' :=
  (rList_c s w).mono fun e w' ⟨v, he, hv, hb⟩ => by
    rcases hv.cases with ⟨rfl, _⟩ | ⟨_, _, _, _, _, hm, _⟩
    · exact ⟨he, hb⟩
    · exact absurd h hm
def SomeList (s : VS) (w : World) (e : Ending) (w' : World) : Prop :=
  ∃ g cap, e = .returned (.slice (some ⟨g, 0, none⟩) (mems s).length cap) ∧ NewInts w' w.heap.size (.slice (some ⟨g, 0, none⟩) (mems s).length cap) (mems s) ∧ Below w.heap.size w w'
theorem rList_some (s : VS) (h : mems s ≠ []) (w : World) : Calls Tryd.prog 38 #[encS s] w (SomeList s w) :=
  (rList_c s w).mono fun e w' ⟨v, he, hv, hb⟩ => by
    rcases hv.cases with ⟨_, hm⟩ | ⟨g, cap, rfl, _, _, _, _⟩
    · exact absurd hm h
    · exact ⟨g, cap, he, hv, hb⟩
theorem cell_set2 {w : World} {b b' o o1 o2 : Nat} {u1 u2 : Value} (h : b' ≠ b) : ((w.setCell ⟨b', o1, none⟩ u1).setCell ⟨b', o2, none⟩ u2).cell? ⟨b, o, none⟩ = w.cell? ⟨b, o, none⟩ := by
  rw [World.cell?_setCell_far _ _ _ _ h, World.cell?_setCell_far _ _ _ _ h]
/-- The numbers of a slice in new memory, cell by cell. -/
theorem NewInts.news {w : World} {B g cap : Nat} {l : List Int} (h : NewInts w B (.slice (some ⟨g, 0, none⟩) l.length cap) l) : ∀ j u, (l.map (Value.int .i64))[j]? = some u → w.cell? ((⟨g, 0, none⟩ : Addr).add j) = some u :=
  h.1.cells rfl
set_option maxRecDepth 100000 in
set_option maxHeartbeats 2000000 in
theorem rUnion_c (a b : VS) (w : World) :
    Calls Tryd.prog 23 #[encS a, encS b] w fun e w' => e = .returned (encS (a ||| b)) ∧ Below w.heap.size w w' := by
  obtain ⟨i0, hi, hz0, hz1, hz2⟩ := info_parts info_int
  have tok1 : True := trivial
  have tok2 : True := trivial
  have hla := mems_length a
  have hlb := mems_length b
  have HU := hid (union_list a b)
  have hb0 : Below w.heap.size w (((w.alloc (.cells #[.int .u64 ((lw a).toNat : Int), .int .u64 ((hw a).toNat : Int)] 26)).alloc (.cells #[.int .u64 ((lw b).toNat : Int), .int .u64 ((hw b).toNat : Int)] 26)).alloc (.cells #[.int .u64 0, .int .u64 0] 26)).drew := ((((Below.refl _ w).alloc (Nat.le_refl _) _).alloc (by simp) _).alloc (by simp; omega) _).drew
  have sa : SetVar (((w.alloc (.cells #[.int .u64 ((lw a).toNat : Int), .int .u64 ((hw a).toNat : Int)] 26)).alloc (.cells #[.int .u64 ((lw b).toNat : Int), .int .u64 ((hw b).toNat : Int)] 26)).alloc (.cells #[.int .u64 0, .int .u64 0] 26)).drew w.heap.size a := ((SetVar.new w a 26).alloc (.cells #[.int .u64 ((lw b).toNat : Int), .int .u64 ((hw b).toNat : Int)] 26)).alloc (.cells #[.int .u64 0, .int .u64 0] 26)
  have sb : SetVar (((w.alloc (.cells #[.int .u64 ((lw a).toNat : Int), .int .u64 ((hw a).toNat : Int)] 26)).alloc (.cells #[.int .u64 ((lw b).toNat : Int), .int .u64 ((hw b).toNat : Int)] 26)).alloc (.cells #[.int .u64 0, .int .u64 0] 26)).drew (w.heap.size + 1) b := by
    have := (SetVar.new (w.alloc (.cells #[.int .u64 ((lw a).toNat : Int), .int .u64 ((hw a).toNat : Int)] 26)) b 26).alloc (.cells #[.int .u64 0, .int .u64 0] 26)
    rw [World.size_alloc] at this; exact this
  have sr : SetVar (((w.alloc (.cells #[.int .u64 ((lw a).toNat : Int), .int .u64 ((hw a).toNat : Int)] 26)).alloc (.cells #[.int .u64 ((lw b).toNat : Int), .int .u64 ((hw b).toNat : Int)] 26)).alloc (.cells #[.int .u64 0, .int .u64 0] 26)).drew (w.heap.size + 1 + 1) 0 := by
    have := (SetVar.new ((w.alloc (.cells #[.int .u64 ((lw a).toNat : Int), .int .u64 ((hw a).toNat : Int)] 26)).alloc (.cells #[.int .u64 ((lw b).toNat : Int), .int .u64 ((hw b).toNat : Int)] 26)) 0 26)
    simp only [World.size_alloc] at this; exact this
  by_cases hm : mems b = []
  · have HM := hid hm
    clear hm
    go_enter Tryd.func23, Tryd.ntmps23
    go_wp2_with fail
    go_region_held3 (fun w' => (w'.cell? ⟨w.heap.size, 0, none⟩ = some (.int .u64 ((lw a).toNat : Int)) ∧ w'.cell? ⟨w.heap.size, 1, none⟩ = some (.int .u64 ((hw a).toNat : Int))) ∧ (w'.cell? ⟨w.heap.size + 1, 0, none⟩ = some (.int .u64 ((lw b).toNat : Int)) ∧ w'.cell? ⟨w.heap.size + 1, 1, none⟩ = some (.int .u64 ((hw b).toNat : Int))))
      (first | (go_keep; done) | (rw [cell_set2 (by omega)]; assumption) | ((try dsimp only); (repeat' apply And.intro) <;> (first | (go_keep; done) | (rw [cell_set2 (by omega)]; assumption))))
      (first
        | (go_at_call 38; have _t := tok1; refine (rList_c a _).mono ?_; rintro e w1 ⟨v1, rfl, hv1, hb1⟩; clear _t tok1; have hb1' := hb0.trans (hb1.mono (by simp; omega)); have sa1 := sa.below hb1 (by simp; omega); have sb1 := sb.below hb1 (by simp); have sr1 := sr.below hb1 (by simp); have k1 := hb1.size; simp only [World.size_drew, World.size_alloc] at k1; have n1 := hv1.mono (B' := w.heap.size + 1 + 1 + 1) (by simp); clear hb1 hv1; obtain ⟨x0, x1, _, _⟩ := sa1.cells; obtain ⟨y0, y1, _, _⟩ := sb1.cells)
        | (go_at_call 38; have _t := tok2; refine (rList_nil b HM.out _).mono ?_; rintro e w2 ⟨rfl, hb2⟩; clear _t tok2; have hb2' := hb1'.trans (hb2.mono (by omega)); have sa2 := sa1.below hb2 (by omega); have sb2 := sb1.below hb2 (by omega); have sr2 := sr1.below hb2 (by omega); have k2 := hb2.size; have n2 := n1.below hb2 (Nat.le_refl _); clear x0 x1 y0 y1; obtain ⟨x0, x1, _, _⟩ := sa2.cells; obtain ⟨y0, y1, _, _⟩ := sb2.cells; clear hb2)
        | (refine step_append_none (by rfl) _ _ 22 (by rfl) (w.heap.size + 1 + 1 + 1) 3 i0 1 Tryd.underlying22 hi v1 (mems a).length ((mems a).map (Value.int .i64)) (by rfl) n2.1 (by rfl) ?_; have n3 : NewInts w2 (w.heap.size + 1 + 1 + 1) v1 (mems a ++ mems b) := (by rw [HM.out, List.append_nil]; exact n2); have hb3' := hb2'; have sr3 := sr2; have sa3 := sa2; have sb3 := sb2; have k3 := Nat.le_refl w2.heap.size)
        | (go_at_call 15; refine (rOf_c _ (mems a ++ mems b) _ n3.ints (by simp; omega)).mono ?_; rintro e w4 ⟨rfl, hb4⟩; rw [HU.out]; have hb4' := hb3'.trans (hb4.mono (by omega)); have sr4 := sr3.below hb4 (by omega); have sa4 := sa3.below hb4 (by omega); have sb4 := sb3.below hb4 (by omega); clear hb4; clear x0 x1 y0 y1; obtain ⟨x0, x1, _, _⟩ := sa4.cells; obtain ⟨y0, y1, _, _⟩ := sb4.cells; obtain ⟨r0, r1, q0, q1⟩ := sr4.cells))
    go_wp2
    refine bodyPost_ret (results_set rfl rfl (sr4.store _)) rfl ?_
    exact ⟨rfl, (hb4'.setCell (by simp <;> omega) _).setCell (by simp <;> omega) _⟩
  · have HM := hid hm
    clear hm
    go_enter Tryd.func23, Tryd.ntmps23
    go_wp2_with fail
    go_region_held3 (fun w' => (w'.cell? ⟨w.heap.size, 0, none⟩ = some (.int .u64 ((lw a).toNat : Int)) ∧ w'.cell? ⟨w.heap.size, 1, none⟩ = some (.int .u64 ((hw a).toNat : Int))) ∧ (w'.cell? ⟨w.heap.size + 1, 0, none⟩ = some (.int .u64 ((lw b).toNat : Int)) ∧ w'.cell? ⟨w.heap.size + 1, 1, none⟩ = some (.int .u64 ((hw b).toNat : Int))))
      (first | (go_keep; done) | (rw [cell_set2 (by omega)]; assumption) | ((try dsimp only); (repeat' apply And.intro) <;> (first | (go_keep; done) | (rw [cell_set2 (by omega)]; assumption))))
      (first
        | (go_at_call 38; have _t := tok1; refine (rList_c a _).mono ?_; rintro e w1 ⟨v1, rfl, hv1, hb1⟩; clear _t tok1; have hb1' := hb0.trans (hb1.mono (by simp; omega)); have sa1 := sa.below hb1 (by simp; omega); have sb1 := sb.below hb1 (by simp); have sr1 := sr.below hb1 (by simp); have k1 := hb1.size; simp only [World.size_drew, World.size_alloc] at k1; have n1 := hv1.mono (B' := w.heap.size + 1 + 1 + 1) (by simp); clear hb1 hv1; obtain ⟨x0, x1, _, _⟩ := sa1.cells; obtain ⟨y0, y1, _, _⟩ := sb1.cells)
        | (go_at_call 38; have _t := tok2; refine (rList_some b HM.out _).mono ?_; rintro e w2 ⟨g2, cap2, rfl, hv2, hb2⟩; clear _t tok2; have hb2' := hb1'.trans (hb2.mono (by omega)); have sa2 := sa1.below hb2 (by omega); have sb2 := sb1.below hb2 (by omega); have sr2 := sr1.below hb2 (by omega); have k2 := hb2.size; have n2 := n1.below hb2 (Nat.le_refl _); clear x0 x1 y0 y1; obtain ⟨x0, x1, _, _⟩ := sa2.cells; obtain ⟨y0, y1, _, _⟩ := sb2.cells; have m2 := hv2; clear hv2 hb2)
        | (refine step_append_lies _ (by rfl) _ _ 22 (by rfl) (w.heap.size + 1 + 1 + 1) 3 i0 (.int .i64 0) 1 8 Tryd.underlying22 hi hz0 hz1 hz2 rfl (by decide) v1 (mems a).length ((mems a).map (Value.int .i64)) (by rfl) n2.1 ⟨g2, 0, none⟩ (mems b).length cap2 ((mems b).map (Value.int .i64)) (by rfl) (by simp) (m2.news) (by simp [Value.oneCell']) (by have := List.length_pos_iff.2 HM.out; omega) (by unfold maxLen; omega) (by omega) (by omega) _ rfl ?_; intro gg cap w3 hown3 hgrow3 hat3 hlt3; have hlt := n2.1.lt; have n3 : NewInts w3 (w.heap.size + 1 + 1 + 1) (.slice (some ⟨gg, 0, none⟩) ((mems a).length + (mems b).length) cap) (mems a ++ mems b) := ⟨by simpa using hown3, by have := HM.out; simp [this]⟩; have hb3' := hb2'.grown hgrow3 (by omega) (fun j e => by have := hlt j e; omega); have sr3 := sr2.kept hgrow3 (fun e => by have := hlt _ e.symm; omega); have sa3 := sa2.kept hgrow3 (fun e => by have := hlt _ e.symm; omega); have sb3 := sb2.kept hgrow3 (fun e => by have := hlt _ e.symm; omega); have k3 := hgrow3.size; clear hown3 hgrow3 hat3 hlt3 hlt; clear x0 x1 y0 y1; obtain ⟨x0, x1, _, _⟩ := sa3.cells; obtain ⟨y0, y1, _, _⟩ := sb3.cells)
        | (go_at_call 15; refine (rOf_c _ (mems a ++ mems b) _ n3.ints (by simp; omega)).mono ?_; rintro e w4 ⟨rfl, hb4⟩; rw [HU.out]; have hb4' := hb3'.trans (hb4.mono (by omega)); have sr4 := sr3.below hb4 (by omega); have sa4 := sa3.below hb4 (by omega); have sb4 := sb3.below hb4 (by omega); clear hb4; clear x0 x1 y0 y1; obtain ⟨x0, x1, _, _⟩ := sa4.cells; obtain ⟨y0, y1, _, _⟩ := sb4.cells; obtain ⟨r0, r1, q0, q1⟩ := sr4.cells))
    go_wp2
    refine bodyPost_ret (results_set rfl rfl (sr4.store _)) rfl ?_
    exact ⟨rfl, (hb4'.setCell (by simp <;> omega) _).setCell (by simp <;> omega) _⟩
end Go.Proofs.YthckmpdnkinmlaaDoor
