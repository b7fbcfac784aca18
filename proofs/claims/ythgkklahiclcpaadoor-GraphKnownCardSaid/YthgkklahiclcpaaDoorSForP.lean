/- Forests that numbers choose: the plain law; a made row of empty sets. -/
import Derived.Test.YthgkklahiclcpaaDoorSLaw3
import Derived.Test.YthgkklahiclcpaaDoorSMoreP
namespace Go.Proofs.YthgkklahiclcpaaDoor
open Go.RowKit

theorem make_sets (w : World) (n : Nat) (hn : n ≤ 1000) (x y : Int) (hx : x = (n : Int)) (hy : y = (n : Int)) :
    (Instr.makeSlice 22 (.int .i64 x) (.int .i64 y)).run Tryd.prog w = .ok (.slice (some ⟨w.heap.size, 0, none⟩) n n) (w.alloc (.cells (madeCells (encS 0).cells (n * 2)) 35)) := by
  subst hx; subst hy
  obtain ⟨i0, hi, hz0, hz1, hz2⟩ := info_parts info_set
  have := run_makeSlice (P := Tryd.prog) w 22 35 i0 (encS 0) Tryd.underlying22 hi hz0 .i64 .i64 (n : Int) (n : Int) (by omega) (Int.le_refl _) (by rw [hz1, Int.toNat_natCast]; omega) (by rw [hz2]; omega) (by omega)
  rw [hz1, Int.toNat_natCast] at this
  exact this
theorem SetRow.made (w : World) (n : Nat) : SetRow (w.alloc (.cells (madeCells (encS 0).cells (n * 2)) 35)) w.heap.size (List.replicate n 0) :=
  ⟨_, heap_alloc_new w _, by simp [size_madeCells], fun i hi => by
    have h2 : i < n := by simpa using hi
    rw [List.getElem_replicate]
    constructor
    · simp [madeCells, show i * 2 < n * 2 by omega, Nat.mul_mod_left, Value.cells]
    · simp [madeCells, show i * 2 + 1 < n * 2 by omega, Value.cells, Nat.add_mod, Nat.mul_mod_left]⟩
theorem link_valid {L : List VS} (h : ValidG L) {a b : Int} (ha : 1 ≤ a ∧ a < (L.length : Int)) (hb : 1 ≤ b ∧ b < (L.length : Int)) (hne : a ≠ b) : ValidG (joinL L a b) := by
  have hle := h.le
  have hj := has_join1 ha hb (by omega) (by omega)
  refine ⟨by rw [joinL_length]; exact h.pos, by rw [joinL_length]; exact h.le, ?_, fun k _ _ => ⟨?_, fun w hw => ?_, fun w hw => ?_⟩⟩
  · apply zero_of_none
    intro w
    cases e : has (gOf (joinL L a b) 0) w with
    | false => rfl
    | true =>
      rcases (hj _ _).1 e with e | e | e
      · rw [h.zero, has_zero] at e; cases e
      · omega
      · omega
  · cases e : has (gOf (joinL L a b) (k : Int)) (k : Int) with
    | false => rfl
    | true =>
      rcases (hj _ _).1 e with e | e | e
      · exact absurd rfl (h.sym.ne e)
      · omega
      · omega
  · rw [joinL_length]
    rcases (hj _ _).1 hw with e | e | e
    · exact (h.range e).2
    · omega
    · omega
  · rcases (hj _ _).1 hw with e | e | e
    · exact (hj _ _).2 (.inl (h.sym.sym _ _ e))
    · exact (hj _ _).2 (.inr (.inr e.symm))
    · exact (hj _ _).2 (.inr (.inl e.symm))
/-- Each of the first k vertices is joined to one before it at most. -/
structure FoIn (n k : Nat) (M : List VS) (t : Int) : Prop where
  len : M.length = n + 1
  ok : ValidG M
  par : ∃ par : Int → Int, ∀ u x, has (gOf M u) x = true → x < u → x = par u
  low : ∀ u x, has (gOf M u) x = true → x ≤ (k : Int)
  want : (t = 0 ∧ ∀ v, gOf M v = 0) ∨ (t = 1 ∧ ∃ u x, has (gOf M u) x = true)
theorem gOf_none (n : Nat) (v : Int) : gOf (List.replicate n (0 : VS)) v = 0 := by
  apply zero_of_none
  intro x
  cases e : has (gOf (List.replicate n (0 : VS)) v) x with
  | false => rfl
  | true => exact ((says_zero n _ _).1 e).elim
theorem FoIn.start (n : Nat) (hn : n ≤ 128) : FoIn n 1 (List.replicate (n + 1) 0) 0 := by
  refine ⟨by simp, ?_, ⟨fun _ => 0, fun u x e => ?_⟩, fun u x e => ?_, .inl ⟨rfl, gOf_none _⟩⟩
  · refine says_valid (says_zero (n + 1)) (by simp) (by simp; omega) (fun v h => h) (fun u x h => h) (fun u x h => h.elim)
  · exact ((says_zero _ _ _).1 e).elim
  · exact ((says_zero _ _ _).1 e).elim
theorem FoIn.skip {n k : Nat} {M : List VS} {t : Int} (h : FoIn n k M t) : FoIn n (k + 1) M t :=
  ⟨h.len, h.ok, h.par, fun u x e => by have := h.low u x e; push_cast; omega, h.want⟩
theorem FoIn.step {n k : Nat} {M : List VS} {t : Int} (h : FoIn n k M t) (hk : k + 1 ≤ n) (x : Int) (h1 : 1 ≤ x) (h2 : x ≤ (k : Int)) : FoIn n (k + 1) (linkG M ((k : Int) + 1) x) 1 := by
  have hlen := h.len
  have hle := h.ok.le
  have ha : (1 : Int) ≤ (k : Int) + 1 ∧ (k : Int) + 1 < (M.length : Int) := by omega
  have hb : 1 ≤ x ∧ x < (M.length : Int) := by omega
  rw [linkG_yes (by omega)]
  have hj := has_join1 ha hb (by omega) (by omega)
  obtain ⟨par, hp⟩ := h.par
  have hlow : ∀ u y, has (gOf M u) y = true → u ≤ (k : Int) := fun u y e => h.low y u (h.ok.sym.sym _ _ e)
  refine ⟨by rw [joinL_length]; exact hlen, link_valid h.ok ha hb (by omega), ⟨fun u => if u = (k : Int) + 1 then x else par u, fun u y e hlt => ?_⟩, fun u y e => ?_, .inr ⟨rfl, (k : Int) + 1, x, (hj _ _).2 (.inr (.inl ⟨rfl, rfl⟩))⟩⟩
  · show y = (if u = (k : Int) + 1 then x else par u)
    rcases (hj _ _).1 e with e | e | e
    · have := hlow _ _ e
      rw [if_neg (by omega)]; exact hp u y e hlt
    · rw [if_pos e.1]; exact e.2
    · omega
  · rcases (hj _ _).1 e with e | e | e
    · have := h.low _ _ e; push_cast; omega
    · push_cast; omega
    · push_cast; omega
theorem FoIn.widths {n k : Nat} {M : List VS} {t : Int} (h : FoIn n k M t) : widthP M (orderP fillC M) = t ∧ widthP M (orderP degC M) = t := by
  obtain ⟨par, hp⟩ := h.par
  have hlen := h.len
  have hF : Fo (gOf M) (M.length - 1) par := ⟨h.ok.sym, fun u x e => by have := (h.ok.range e).2; omega, hp⟩
  obtain ⟨h1, h2⟩ := forest_widths h.ok hF
  have h3 : widthF (gOf M) (desc (M.length - 1)) = t := by
    rcases h.want with ⟨e, hz⟩ | ⟨e, u, x, hux⟩
    · rw [e]; exact no_edge_width _ _ h.ok.sym hz
    · have a1 := hF.perf.2
      have a2 := edge_width h.ok.sym hux (l := desc (M.length - 1)) ((mem_desc _ _).2 ?_)
      · omega
      · have b1 := h.ok.range (h.ok.sym.sym _ _ hux)
        omega
  exact ⟨h1.trans h3, h2.trans h3⟩
end Go.Proofs.YthgkklahiclcpaaDoor
