/- Walks: lists that are copied, equal lists of sets. -/
import Derived.Test.YthgkklahiclcpaaDoorSLaw
import Derived.Deep.Upon
namespace Go.Proofs.YthgkklahiclcpaaDoor
open Go.RowKit
attribute [local go_sem ↓] run_eqlS run_neqS run_eqlS0 run_neqS0

/-- How a law ends. -/
def LawPost (w : World) (e : Ending) (w' : World) : Prop := e = .returned (.bool true) ∧ Below w.heap.size w w'
theorem SetRow.none (w : World) : SetRow (w.alloc (.cells #[] 35)) w.heap.size [] := ⟨_, heap_alloc_new w _, Nat.zero_le _, fun i h => by simp at h⟩
theorem wpList_append_sets {w : World} {ops : Array Oper} {rest : List Oper} {o : Oper} {a : Act} {Q : Exit → Act → World → Prop} (hgd : o.guard = none) (s x : Operand)
    (ho : o.op = .call { callee := .builtin .append, args := #[s, x], argTypes := #[22, 22] })
    (b : Nat) (hs : a.eval s = .slice (some ⟨b, 0, none⟩) 0 0) (hb : SetRow w b []) (u : Value) (L : List VS) (hx : a.eval x = u) (hu : SetsAt w u L) (hlen : L.length ≤ 4294967296)
    (h : ∀ g c w', SetRow w' g L → b ≤ g → Below w.heap.size w w' → L.length ≤ c → c ≤ maxLen → wpList Tryd.prog ops Q rest (a.put o.dst (.slice (some ⟨g, 0, none⟩) L.length c)) w') : wpList Tryd.prog ops Q (o :: rest) a w := by
  obtain ⟨p, c, rfl, hp⟩ := hu
  obtain ⟨i0, hi, hz0, hz1, hz2⟩ := info_parts info_set
  cases L with
  | nil =>
    have hsrc : Src Tryd.prog i0.size 22 (.slice p 0 c) 0 [] w := by
      cases p with
      | none => exact Src.ofNil w Tryd.underlying22 c
      | some ad => exact Src.ofSlice w Tryd.underlying22 ad 0 c [] (by simp) (by simp) (by simp)
    refine wpList_plain hgd fun K hK' => ?_
    have hrun : (Builtin.append_ #[22, 22] o.type #[.slice (some ⟨b, 0, none⟩) 0 0, .slice p 0 c]).run Tryd.prog w = .ok (.slice (some ⟨b, 0, none⟩) 0 0) w :=
      run_append_nothing (P := Tryd.prog) w 22 22 o.type 35 i0 Tryd.underlying22 hi _ _ _ (Nat.le_refl _) _ hsrc
    have hx' : a.eval x = .slice p 0 c := hx
    unfold Oper.wp
    simp [execOp, ho, resolve, invoke, builtin, hs, hx', hrun, Result.andThen]
    exact hK' _ _ (h b 0 w hb (Nat.le_refl _) (Below.refl _ _) (Nat.le_refl _) (by decide))
  | cons s0 t =>
    obtain ⟨b', off, rfl, hc⟩ := hp.resolve_left (by simp)
    refine wpList_append_grows w hgd s x 22 ho 35 i0 (encS 0) 2 16 Tryd.underlying22 hi hz0 hz1 hz2 rfl (by decide) (some ⟨b, 0, none⟩) 0 0 [] hs (fun e => by cases e) rfl (fun b hb j u hj => by simp at hj) ⟨b', off, none⟩ (s0 :: t).length c (setCells (s0 :: t)) hx (setCells_length _) (SetsAt.cells hc) (setCells_one _) (by simp) (by unfold maxLen; omega) (by omega) fun v' w' hown hgr => ?_
    rw [Nat.zero_add, List.nil_append] at hown
    obtain ⟨g, c', rfl, hg, hR, h1, h2⟩ := ownsRow_sets hown (by simp)
    have hbl := hb.lt
    exact h g c' w' hR (by omega) ((Below.refl _ w).grown hgr (Nat.le_refl _) (fun k e => by cases e)) h1 h2
theorem wpList_append_ints0 {w : World} {ops : Array Oper} {rest : List Oper} {o : Oper} {a : Act} {Q : Exit → Act → World → Prop} (hgd : o.guard = none) (s x : Operand)
    (ho : o.op = .call { callee := .builtin .append, args := #[s, x], argTypes := #[25, 25] })
    (b : Nat) (hs : a.eval s = .slice (some ⟨b, 0, none⟩) 0 0) (u : Value) (l : List Int) (hx : a.eval x = u) (hu : IntsAt w u l) (hlen : l.length ≤ 4294967296)
    (h : ∀ v' w', IntsAt w' v' l → Below w.heap.size w w' → wpList Tryd.prog ops Q rest (a.put o.dst v') w') : wpList Tryd.prog ops Q (o :: rest) a w := by
  obtain ⟨p, c, rfl, hp⟩ := hu
  obtain ⟨i0, hi, hz0, hz1, hz2⟩ := info_parts info_int
  cases l with
  | nil =>
    have hsrc : Src Tryd.prog i0.size 25 (.slice p 0 c) 0 [] w := by
      cases p with
      | none => exact Src.ofNil w Tryd.underlying25 c
      | some ad => exact Src.ofSlice w Tryd.underlying25 ad 0 c [] (by simp) (by simp) (by simp)
    refine wpList_plain hgd fun K hK' => ?_
    have hrun : (Builtin.append_ #[25, 25] o.type #[.slice (some ⟨b, 0, none⟩) 0 0, .slice p 0 c]).run Tryd.prog w = .ok (.slice (some ⟨b, 0, none⟩) 0 0) w :=
      run_append_nothing (P := Tryd.prog) w 25 25 o.type 3 i0 Tryd.underlying25 hi _ _ _ (Nat.le_refl _) _ hsrc
    have hx' : a.eval x = .slice p 0 c := hx
    unfold Oper.wp
    simp [execOp, ho, resolve, invoke, builtin, hs, hx', hrun, Result.andThen]
    exact hK' _ _ (h _ w ⟨_, _, rfl, .inl rfl⟩ (Below.refl _ _))
  | cons s0 t =>
    obtain ⟨b', off, rfl, hc⟩ := hp.resolve_left (by simp)
    refine wpList_append_grows w hgd s x 25 ho 3 i0 (.int .i64 0) 1 8 Tryd.underlying25 hi hz0 hz1 hz2 rfl (by decide) (some ⟨b, 0, none⟩) 0 0 [] hs (fun e => by cases e) rfl (fun b hb j u hj => by simp at hj) ⟨b', off, none⟩ (s0 :: t).length c ((s0 :: t).map (Value.int .i64)) hx (by simp) (fun j y hj => ?_) (by simp [Value.oneCell']) (by simp) (by unfold maxLen; omega) (by omega) fun v' w' hown hgr => ?_
    · have hlt : j < (s0 :: t).length := by have := (List.getElem?_eq_some_iff.1 hj).1; simpa using this
      rw [Addr.add_lit, hc j hlt]
      rw [List.getElem?_map, List.getElem?_eq_getElem hlt] at hj
      rw [List.getElem?_eq_getElem hlt, Option.getD_some]
      simpa using hj
    · rw [Nat.zero_add, List.nil_append] at hown
      have hn : NewInts w' w.heap.size v' (s0 :: t) := ⟨hown, by
        rcases hown.2 with ⟨_, h0⟩ | ⟨g, cap, cur, rfl, _⟩
        · simp at h0
        · simp⟩
      exact h v' w' hn.ints ((Below.refl _ w).grown hgr (Nat.le_refl _) (fun k e => by cases e))
end Go.Proofs.YthgkklahiclcpaaDoor
