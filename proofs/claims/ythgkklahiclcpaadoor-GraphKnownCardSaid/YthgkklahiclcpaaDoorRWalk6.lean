/- Walk of the reference's union: a region that draws its order. -/
import Derived.Test.YthgkklahiclcpaaDoorRWalk5
namespace Go.Proofs.YthgkklahiclcpaaDoor
open Go.RowKit

/-- 'append(out, nil...)', out owned: nothing turns. -/
theorem step_append_none {P : Program} {w : World} {ops : Array Oper} {o : Oper} {a : Act} {K : Act → World → Prop} {Q : Exit → Act → World → Prop} {E : Prop} (hgd : o.guard = none) (s x : Operand) (t : TypeId)
    (ho : o.op = .call { callee := .builtin .append, args := #[s, x], argTypes := #[t, t] })
    (base : Nat) (e : TypeId) (i : TypeInfo) (size : Nat) (ht : P.underlying t = some (.slice e)) (hi : P.info? e = some i)
    (v : Value) (n : Nat) (xs : List Value) (hs : a.eval s = v) (hown : w.ownsRow base e size v n xs) (hx : a.eval x = .slice none 0 0)
    (h : K (a.put o.dst v) w) : if Region.wanted o (yielded ops a.tmps) = true then Oper.wp P o a w K Q else E := by
  have hw : Region.wanted o (yielded ops a.tmps) = true := by simp [Region.wanted, hgd]
  rw [if_pos hw]
  have hrun := run_append_owned_none (P := P) (w := w) base t o.type e i size ht hi v n xs hown
  unfold Oper.wp
  simp [execOp, ho, resolve, invoke, builtin, hs, hx, hrun, Result.andThen]
  exact h
theorem union_list (a b : VS) : ofL (mems a ++ mems b) = a ||| b := by
  apply ext_has; intro u h1 h2
  rw [has_ofL, has_or, Bool.eq_iff_iff]
  simp [mem_mems, h1, h2]
theorem rList_nil (s : VS) (h : mems s = []) (w : World) : Calls Tryd.prog 25 #[encS s] w fun e w' => e = .returned (.slice none 0 0) ∧ Below w.heap.size w w' :=
  (rList_c s w).mono fun e w' ⟨v, he, hv, hb⟩ => by
    rcases hv.cases with ⟨rfl, _⟩ | ⟨_, _, _, _, _, hm, _⟩
    · exact ⟨he, hb⟩
    · exact absurd h hm
def SomeList (s : VS) (w : World) (e : Ending) (w' : World) : Prop :=
  ∃ g cap, e = .returned (.slice (some ⟨g, 0, none⟩) (mems s).length cap) ∧ NewInts w' w.heap.size (.slice (some ⟨g, 0, none⟩) (mems s).length cap) (mems s) ∧ Below w.heap.size w w'
theorem rList_some (s : VS) (h : mems s ≠ []) (w : World) : Calls Tryd.prog 25 #[encS s] w (SomeList s w) :=
  (rList_c s w).mono fun e w' ⟨v, he, hv, hb⟩ => by
    rcases hv.cases with ⟨_, hm⟩ | ⟨g, cap, rfl, _, _, _, _⟩
    · exact absurd hm h
    · exact ⟨g, cap, he, hv, hb⟩
theorem cell_set2 {w : World} {b b' o o1 o2 : Nat} {u1 u2 : Value} (h : b' ≠ b) : ((w.setCell ⟨b', o1, none⟩ u1).setCell ⟨b', o2, none⟩ u2).cell? ⟨b, o, none⟩ = w.cell? ⟨b, o, none⟩ := by
  rw [World.cell?_setCell_far _ _ _ _ h, World.cell?_setCell_far _ _ _ _ h]
/-- The numbers of a slice in new memory, cell by cell. -/
theorem NewInts.news {w : World} {B g cap : Nat} {l : List Int} (h : NewInts w B (.slice (some ⟨g, 0, none⟩) l.length cap) l) : ∀ j u, (l.map (Value.int .i64))[j]? = some u → w.cell? ((⟨g, 0, none⟩ : Addr).add j) = some u :=
  h.1.cells rfl
end Go.Proofs.YthgkklahiclcpaaDoor
