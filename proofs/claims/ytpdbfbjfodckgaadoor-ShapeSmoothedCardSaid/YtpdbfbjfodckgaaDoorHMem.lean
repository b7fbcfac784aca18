/- Words for memory: rows that are owned, rows of numbers, variables that hold a tree; appends. -/
import Derived.Test.YtpdbfbjfodckgaaDoorVWalk7
import Derived.Test.YtpdbfbjfodckgaaDoorSMem
import Derived.Test.YtpdbfbjfodckgaaDoorNMem
import Derived.Test.YtpdbfbjfodckgaaDoorTake2
import Derived.Test.YtpdbfbjfodckgaaDoorHPlain
import Derived.Deep.AppendLies
import Derived.Deep.Onto
import Derived.Deep.Upon
import Derived.Lib.BufferMore
namespace Go.Proofs.YtpdbfbjfodckgaaDoor
open Go.RowKit

def OwnSets (w : World) (B : Nat) (v : Value) (L : List VS) : Prop := w.ownsRow B 42 2 v L.length (setCells L)
def OwnInts (w : World) (B : Nat) (v : Value) (l : List Int) : Prop := w.ownsRow B 3 1 v l.length (l.map (Value.int .i64))
theorem OwnSets.nil (w : World) (B : Nat) : OwnSets w B (.slice none 0 0) [] := World.ownsRow_nil _ _ _ _
theorem OwnInts.nil (w : World) (B : Nat) : OwnInts w B (.slice none 0 0) [] := World.ownsRow_nil _ _ _ _
theorem OwnSets.sets {w : World} {B : Nat} {v : Value} {L : List VS} (h : OwnSets w B v L) : SetsAt w v L := by
  obtain ⟨_, h | ⟨g, cap, cur, rfl, _, hg, hn, _, _, ht⟩⟩ := h
  · exact ⟨none, 0, by rw [h.1, h.2], .inl (List.eq_nil_of_length_eq_zero h.2)⟩
  · exact (setRow_of_take hg ht).sets cap
theorem OwnSets.row {w : World} {B : Nat} {v : Value} {L : List VS} (h : OwnSets w B v L) (hne : 0 < L.length) : ∃ g c, v = .slice (some ⟨g, 0, none⟩) L.length c ∧ B ≤ g ∧ SetRow w g L := by
  obtain ⟨g, c, e, h1, h2, _⟩ := ownsRow_sets h (by intro e; rw [e] at hne; simp at hne)
  exact ⟨g, c, e, h1, h2⟩
theorem OwnInts.ints {w : World} {B : Nat} {v : Value} {l : List Int} (h : OwnInts w B v l) : IntsAt w v l := by
  obtain ⟨_, h | ⟨g, cap, cur, rfl, _, hg, hn, _, _, ht⟩⟩ := h
  · exact ⟨none, 0, by rw [h.1, h.2], .inl (List.eq_nil_of_length_eq_zero h.2)⟩
  · refine ⟨_, cap, rfl, .inr ⟨g, 0, rfl, fun i hi => ?_⟩⟩
    have : (l.map (Value.int .i64))[i]? = some (.int .i64 l[i]) := by simp [hi]
    rw [← ht, List.getElem?_take] at this
    simp [hi] at this
    simp [World.cell?, hg, hi]
    exact this
theorem own_below {w w' : World} {B B' : Nat} {e : TypeId} {size : Nat} {v : Value} {n : Nat} {xs : List Value} (h : w.ownsRow B e size v n xs) (hb : Below B' w w') (hB : w.heap.size ≤ B') : w'.ownsRow B e size v n xs := by
  obtain ⟨h0, h | ⟨g, cap, cur, rfl, hB', hg, hn, r⟩⟩ := h
  · exact ⟨h0, .inl h⟩
  · have := (Array.getElem?_eq_some_iff.1 hg).1
    exact ⟨h0, .inr ⟨g, cap, cur, rfl, hB', (hb.block g (by omega)).trans hg, hn, r⟩⟩
theorem OwnSets.below {w w' : World} {B : Nat} {v : Value} {L : List VS} (h : OwnSets w B v L) (hb : Below w.heap.size w w') : OwnSets w' B v L := own_below h hb (Nat.le_refl _)
theorem OwnInts.below {w w' : World} {B : Nat} {v : Value} {l : List Int} (h : OwnInts w B v l) (hb : Below w.heap.size w w') : OwnInts w' B v l := own_below h hb (Nat.le_refl _)
theorem NewInts.own {w : World} {B : Nat} {v : Value} {l : List Int} (h : NewInts w B v l) : OwnInts w B v l := h.1
theorem own_far {w : World} {base : Nat} {e : TypeId} {size : Nat} {v : Value} {n : Nat} {xs : List Value} (h : w.ownsRow base e size v n xs) {row : Option Nat} (hr : ∀ k, row = some k → k < base) : v.ownBlock = none ∨ v.ownBlock ≠ row := by
  cases hv : v.ownBlock with
  | none => exact .inl rfl
  | some k =>
    refine .inr fun e' => ?_
    have h1 := (h.lt k hv).1
    have h2 := hr k e'.symm
    omega
theorem own_ne_box {w : World} {base : Nat} {e : TypeId} {size : Nat} {v : Value} {n : Nat} {xs : List Value} (h : w.ownsRow base e size v n xs) {b : Nat} {cs : Array Value} {t : TypeId} {fr : Nat × Nat} (hb : w.heap[b]? = some (.cells cs t fr)) (ht : t ≠ e) : v.ownBlock ≠ some b := by
  rcases h.2 with ⟨rfl, _⟩ | ⟨g, cap, cur, rfl, _, hg, _⟩
  · intro e'; cases e'
  · intro e'
    obtain rfl : g = b := by simpa [Value.ownBlock] using e'
    rw [hb] at hg
    injection hg with hg; injection hg with _ e2 _
    exact ht e2
/-- The block g, from its first cell on, holds the numbers l. -/
def IntRow (w : World) (g : Nat) (l : List Int) : Prop := ∃ cur T, w.heap[g]? = some (.cells cur T (0, 0)) ∧ l.length ≤ cur.size ∧ ∀ i (h : i < l.length), cur[i]? = some (.int .i64 l[i])
theorem IntRow.lt {w : World} {g : Nat} {l : List Int} (h : IntRow w g l) : g < w.heap.size := by
  obtain ⟨cur, T, h, _⟩ := h; exact (Array.getElem?_eq_some_iff.1 h).1
theorem IntRow.at {w : World} {g : Nat} {l : List Int} (h : IntRow w g l) (i : Nat) (hi : i < l.length) : w.cell? ⟨g, i, none⟩ = some (.int .i64 l[i]) ∧ w.frozen? ⟨g, i, none⟩ = false := by
  obtain ⟨cur, T, h1, h2, h3⟩ := h
  simp [World.cell?, World.frozen?, h1, h3 i hi]
theorem IntRow.ints {w : World} {g : Nat} {l : List Int} (h : IntRow w g l) (c : Nat) : IntsAt w (.slice (some ⟨g, 0, none⟩) l.length c) l :=
  ⟨_, _, rfl, .inr ⟨g, 0, rfl, fun i hi => by rw [Nat.zero_add, (h.at i hi).1, List.getElem?_eq_getElem hi, Option.getD_some]⟩⟩
theorem IntRow.same {w w' : World} {g : Nat} {l : List Int} (h : IntRow w g l) (e : w'.heap[g]? = w.heap[g]?) : IntRow w' g l := by
  obtain ⟨cur, T, h1, h2⟩ := h; exact ⟨cur, T, e.trans h1, h2⟩
theorem IntRow.below {w w' : World} {g B : Nat} {l : List Int} (h : IntRow w g l) (hb : Below B w w') (hB : g < B) : IntRow w' g l := h.same (hb.block g hB)
theorem IntRow.alloc {w : World} {g : Nat} {l : List Int} (h : IntRow w g l) (o : Obj) : IntRow (w.alloc o) g l := h.same (Below.heap_alloc _ _ _ h.lt)
theorem IntRow.other {w : World} {g : Nat} {l : List Int} (h : IntRow w g l) {a : Addr} (ha : g ≠ a.block) (v : Value) : IntRow (w.setCell a v) g l := h.same (Below.heap_setCell _ _ _ _ ha)
theorem IntRow.kept {w w' : World} {g : Nat} {l : List Int} {row : Option Nat} (h : IntRow w g l) (hg : w.grownBy w' row) (hne : some g ≠ row) : IntRow w' g l := h.same (hg.block g h.lt hne)
theorem IntRow.store {w : World} {g : Nat} {l : List Int} (h : IntRow w g l) (i : Nat) (x : Int) : IntRow (w.setCell ⟨g, i, none⟩ (.int .i64 x)) g (l.set i x) := by
  obtain ⟨cur, T, h1, h2, h3⟩ := h
  refine ⟨cur.setIfInBounds i (.int .i64 x), T, ?_, by simpa using h2, fun k hk => ?_⟩
  · simp [World.setCell, Array.getElem?_modify, h1]
  · have hk' : k < l.length := by simpa using hk
    rw [List.getElem_set, Array.getElem?_setIfInBounds]
    by_cases e : i = k
    · subst e
      rw [if_pos rfl, if_pos rfl, if_pos (by omega)]
    · rw [if_neg e, if_neg e]; exact h3 k hk'
theorem make_sets (w : World) (n : Nat) (hn : n ≤ 65536) (x y : Int) (hx : x = (n : Int)) (hy : y = (n : Int)) :
    (Instr.makeSlice 50 (.int .i64 x) (.int .i64 y)).run Tryd.prog w = .ok (.slice (some ⟨w.heap.size, 0, none⟩) n n) (w.alloc (.cells (madeCells (encS 0).cells (n * 2)) 42)) := by
  subst hx; subst hy
  obtain ⟨i0, hi, hz0, hz1, hz2⟩ := info_parts info_set
  have := run_makeSlice (P := Tryd.prog) w 50 42 i0 (encS 0) Tryd.underlying50 hi hz0 .i64 .i64 (n : Int) (n : Int) (by omega) (Int.le_refl _) (by rw [hz1, Int.toNat_natCast]; omega) (by rw [hz2]; omega) (by omega)
  rw [hz1, Int.toNat_natCast] at this
  exact this
theorem SetRow.made (w : World) (n : Nat) : SetRow (w.alloc (.cells (madeCells (encS 0).cells (n * 2)) 42)) w.heap.size (List.replicate n 0) :=
  ⟨_, heap_alloc_new w _, by simp [size_madeCells], fun i hi => by
    have h2 : i < n := by simpa using hi
    rw [List.getElem_replicate]
    constructor
    · simp [madeCells, show i * 2 < n * 2 by omega, Nat.mul_mod_left, Value.cells]
    · simp [madeCells, show i * 2 + 1 < n * 2 by omega, Value.cells, Nat.add_mod, Nat.mul_mod_left]⟩
theorem make_ints (w : World) (n : Nat) (hn : n ≤ 65536) (x y : Int) (hx : x = (n : Int)) (hy : y = (n : Int)) :
    (Instr.makeSlice 33 (.int .i64 x) (.int .i64 y)).run Tryd.prog w = .ok (.slice (some ⟨w.heap.size, 0, none⟩) n n) (w.alloc (.cells (madeCells (Value.int .i64 0).cells n) 3)) := by
  subst hx; subst hy
  obtain ⟨i0, hi, hz0, hz1, hz2⟩ := info_parts info_int
  have := run_makeSlice (P := Tryd.prog) w 33 3 i0 (.int .i64 0) Tryd.underlying33 hi hz0 .i64 .i64 (n : Int) (n : Int) (by omega) (Int.le_refl _) (by rw [hz1, Int.toNat_natCast]; omega) (by rw [hz2]; omega) (by omega)
  rw [hz1, Int.toNat_natCast, Nat.mul_one] at this
  exact this
theorem IntRow.made (w : World) (n : Nat) : IntRow (w.alloc (.cells (madeCells (Value.int .i64 0).cells n) 3)) w.heap.size (List.replicate n 0) :=
  ⟨_, _, heap_alloc_new w _, by simp [size_madeCells], fun i hi => by
    have h2 : i < n := by simpa using hi
    rw [List.getElem_replicate]
    simp [madeCells, h2, Value.cells, Nat.mod_one]⟩

/-! ### variables that hold two values -/
def Box2 (w : World) (b : Nat) (T : TypeId) (x y : Value) : Prop := w.heap[b]? = some (.cells #[x, y] T (0, 0))
theorem Box2.new (w : World) (T : TypeId) (x y : Value) : Box2 (w.alloc (.cells #[x, y] T)) w.heap.size T x y := heap_alloc_new w _
theorem Box2.lt {w : World} {b : Nat} {T : TypeId} {x y : Value} (h : Box2 w b T x y) : b < w.heap.size := (Array.getElem?_eq_some_iff.1 h).1
theorem Box2.cells {w : World} {b : Nat} {T : TypeId} {x y : Value} (h : Box2 w b T x y) : w.cell? ⟨b, 0, none⟩ = some x ∧ w.cell? ⟨b, 1, none⟩ = some y ∧ w.frozen? ⟨b, 0, none⟩ = false ∧ w.frozen? ⟨b, 1, none⟩ = false := by
  unfold Box2 at h; simp [World.cell?, World.frozen?, h]
theorem Box2.same {w w' : World} {b : Nat} {T : TypeId} {x y : Value} (h : Box2 w b T x y) (e : w'.heap[b]? = w.heap[b]?) : Box2 w' b T x y := e.trans h
theorem Box2.below {w w' : World} {b B : Nat} {T : TypeId} {x y : Value} (h : Box2 w b T x y) (hb : Below B w w') (hB : b < B) : Box2 w' b T x y := h.same (hb.block b hB)
theorem Box2.alloc {w : World} {b : Nat} {T : TypeId} {x y : Value} (h : Box2 w b T x y) (o : Obj) : Box2 (w.alloc o) b T x y := h.same (Below.heap_alloc _ _ _ h.lt)
theorem Box2.kept {w w' : World} {b : Nat} {T : TypeId} {x y : Value} {row : Option Nat} (h : Box2 w b T x y) (hg : w.grownBy w' row) (hne : some b ≠ row) : Box2 w' b T x y := h.same (hg.block b h.lt hne)
theorem Box2.other {w : World} {b : Nat} {T : TypeId} {x y : Value} (h : Box2 w b T x y) {a : Addr} (ha : b ≠ a.block) (v : Value) : Box2 (w.setCell a v) b T x y := h.same (Below.heap_setCell _ _ _ _ ha)
theorem Box2.set0 {w : World} {b : Nat} {T : TypeId} {x y : Value} (h : Box2 w b T x y) (z : Value) : Box2 (w.setCell ⟨b, 0, none⟩ z) b T z y := by
  unfold Box2 at h ⊢; simp [World.setCell, Array.getElem?_modify, h]
theorem Box2.set1 {w : World} {b : Nat} {T : TypeId} {x y : Value} (h : Box2 w b T x y) (z : Value) : Box2 (w.setCell ⟨b, 1, none⟩ z) b T x z := by
  unfold Box2 at h ⊢; simp [World.setCell, Array.getElem?_modify, h]
theorem Box2.set01 {w : World} {b : Nat} {T : TypeId} {x y : Value} (h : Box2 w b T x y) (z z' : Value) : Box2 ((w.setCell ⟨b, 0, none⟩ z).setCell ⟨b, 1, none⟩ z') b T z z' := (h.set0 z).set1 z'
/-! ### appends -/
theorem opwp_append_S {o : Oper} {a : Act} {w : World} {K : Act → World → Prop} {Q : Exit → Act → World → Prop} (s x : Operand)
    (ho : o.op = .call { callee := .builtin .append, args := #[s, x], argTypes := #[50, 50] })
    (base : Nat) (v : Value) (L : List VS) (hs : a.eval s = v) (hown : OwnSets w base v L) (u : Value) (M : List VS) (hx : a.eval x = u) (hu : SetsAt w u M)
    (hlen : L.length + M.length ≤ 16777216) (hbase : base ≤ w.heap.size)
    (h : ∀ v' w', OwnSets w' base v' (L ++ M) → w.grownBy w' v.ownBlock → (v'.ownBlock = none ∨ v'.ownBlock = v.ownBlock ∨ v'.ownBlock = some w.heap.size) → K (a.put o.dst v') w') : o.wp Tryd.prog a w K Q := by
  obtain ⟨p, c2, rfl, hp⟩ := hu
  obtain ⟨i0, hi, hz0, hz1, hz2⟩ := info_parts info_set
  cases M with
  | nil =>
    have hsrc : ∀ (p : Option Addr), Src Tryd.prog i0.size 50 (.slice p 0 c2) 0 [] w := fun p => by
      cases p with
      | none => exact Src.ofNil w Tryd.underlying50 c2
      | some ad => exact Src.ofSlice w Tryd.underlying50 ad 0 c2 [] (by simp) (by simp) (by simp)
    have hform : ∃ q c, v = .slice q L.length c ∧ L.length ≤ c := by
      rcases hown.2 with ⟨rfl, e⟩ | ⟨g, cap, cur, rfl, _, _, hn, _⟩
      · exact ⟨none, 0, by rw [e], by omega⟩
      · exact ⟨_, cap, rfl, hn⟩
    obtain ⟨q, c, rfl, hqc⟩ := hform
    have hrun : (Builtin.append_ #[50, 50] o.type #[.slice q L.length c, .slice p 0 c2]).run Tryd.prog w = .ok (.slice q L.length c) w :=
      run_append_nothing (P := Tryd.prog) w 50 50 o.type 42 i0 Tryd.underlying50 hi _ _ _ hqc _ (hsrc p)
    have hx' : a.eval x = .slice p 0 c2 := hx
    unfold Oper.wp
    simp [execOp, ho, resolve, invoke, builtin, hs, hx', hrun, Result.andThen]
    exact h _ w (by rw [List.append_nil]; exact hown) (World.grownBy.refl _ _) (.inr (.inl rfl))
  | cons b0 t =>
    obtain ⟨b, off, rfl, hc⟩ := hp.resolve_left (by simp)
    refine wp_append_lies w s x 50 ho base 42 i0 (encS 0) 2 16 Tryd.underlying50 hi hz0 hz1 hz2 rfl (by decide) _ L.length _ hs hown ⟨b, off, none⟩ (b0 :: t).length c2 (setCells (b0 :: t)) hx (setCells_length _) (SetsAt.cells hc) (setCells_one _) (by simp) (by unfold maxLen; omega) (by omega) hbase _ rfl fun gg cap w' h1 h2 h3 _ => h _ w' (by unfold OwnSets; rw [setCells_append, List.length_append]; exact h1) h2 ?_
    rcases h3 with h3 | h3
    · exact .inr (.inl h3.symm)
    · exact .inr (.inr (by rw [h3]; rfl))
theorem opwp_append_I {o : Oper} {a : Act} {w : World} {K : Act → World → Prop} {Q : Exit → Act → World → Prop} (s x : Operand)
    (ho : o.op = .call { callee := .builtin .append, args := #[s, x], argTypes := #[33, 33] })
    (base : Nat) (v : Value) (L : List Int) (hs : a.eval s = v) (hown : OwnInts w base v L) (u : Value) (M : List Int) (hx : a.eval x = u) (hu : IntsAt w u M)
    (hlen : L.length + M.length ≤ 16777216) (hbase : base ≤ w.heap.size)
    (h : ∀ v' w', OwnInts w' base v' (L ++ M) → w.grownBy w' v.ownBlock → (v'.ownBlock = none ∨ v'.ownBlock = v.ownBlock ∨ v'.ownBlock = some w.heap.size) → K (a.put o.dst v') w') : o.wp Tryd.prog a w K Q := by
  obtain ⟨p, c2, rfl, hp⟩ := hu
  obtain ⟨i0, hi, hz0, hz1, hz2⟩ := info_parts info_int
  cases M with
  | nil =>
    have hsrc : ∀ (p : Option Addr), Src Tryd.prog i0.size 33 (.slice p 0 c2) 0 [] w := fun p => by
      cases p with
      | none => exact Src.ofNil w Tryd.underlying33 c2
      | some ad => exact Src.ofSlice w Tryd.underlying33 ad 0 c2 [] (by simp) (by simp) (by simp)
    have hform : ∃ q c, v = .slice q L.length c ∧ L.length ≤ c := by
      rcases hown.2 with ⟨rfl, e⟩ | ⟨g, cap, cur, rfl, _, _, hn, _⟩
      · exact ⟨none, 0, by rw [e], by omega⟩
      · exact ⟨_, cap, rfl, hn⟩
    obtain ⟨q, c, rfl, hqc⟩ := hform
    have hrun : (Builtin.append_ #[33, 33] o.type #[.slice q L.length c, .slice p 0 c2]).run Tryd.prog w = .ok (.slice q L.length c) w :=
      run_append_nothing (P := Tryd.prog) w 33 33 o.type 3 i0 Tryd.underlying33 hi _ _ _ hqc _ (hsrc p)
    have hx' : a.eval x = .slice p 0 c2 := hx
    unfold Oper.wp
    simp [execOp, ho, resolve, invoke, builtin, hs, hx', hrun, Result.andThen]
    exact h _ w (by rw [List.append_nil]; exact hown) (World.grownBy.refl _ _) (.inr (.inl rfl))
  | cons b0 t =>
    obtain ⟨b, off, rfl, hc⟩ := hp.resolve_left (by simp)
    refine wp_append_lies w s x 33 ho base 3 i0 (.int .i64 0) 1 8 Tryd.underlying33 hi hz0 hz1 hz2 rfl (by decide) _ L.length _ hs hown ⟨b, off, none⟩ (b0 :: t).length c2 ((b0 :: t).map (Value.int .i64)) hx (by simp) (fun j y hj => ?_) (by simp [Value.oneCell']) (by simp) (by unfold maxLen; omega) (by omega) hbase _ rfl fun gg cap w' h1 h2 h3 _ => h _ w' (by unfold OwnInts; rw [List.map_append, List.length_append]; exact h1) h2 ?_
    · have hlt : j < (b0 :: t).length := by have := (List.getElem?_eq_some_iff.1 hj).1; simpa using this
      rw [Addr.add_lit, hc j hlt]
      rw [List.getElem?_map, List.getElem?_eq_getElem hlt] at hj
      rw [List.getElem?_eq_getElem hlt, Option.getD_some]
      simpa using hj
    · rcases h3 with h3 | h3
      · exact .inr (.inl h3.symm)
      · exact .inr (.inr (by rw [h3]; rfl))
theorem wpList_append_S {w : World} {ops : Array Oper} {rest : List Oper} {o : Oper} {a : Act} {Q : Exit → Act → World → Prop} (hgd : o.guard = none) (s x : Operand)
    (ho : o.op = .call { callee := .builtin .append, args := #[s, x], argTypes := #[50, 50] })
    (base : Nat) (v : Value) (L : List VS) (hs : a.eval s = v) (hown : OwnSets w base v L) (u : Value) (M : List VS) (hx : a.eval x = u) (hu : SetsAt w u M)
    (hlen : L.length + M.length ≤ 16777216) (hbase : base ≤ w.heap.size)
    (h : ∀ v' w', OwnSets w' base v' (L ++ M) → w.grownBy w' v.ownBlock → (v'.ownBlock = none ∨ v'.ownBlock = v.ownBlock ∨ v'.ownBlock = some w.heap.size) → wpList Tryd.prog ops Q rest (a.put o.dst v') w') : wpList Tryd.prog ops Q (o :: rest) a w :=
  wpList_plain hgd fun _ hK => opwp_append_S s x ho base v L hs hown u M hx hu hlen hbase fun v' w' h1 h2 h3 => hK _ _ (h v' w' h1 h2 h3)
theorem wpList_append_I {w : World} {ops : Array Oper} {rest : List Oper} {o : Oper} {a : Act} {Q : Exit → Act → World → Prop} (hgd : o.guard = none) (s x : Operand)
    (ho : o.op = .call { callee := .builtin .append, args := #[s, x], argTypes := #[33, 33] })
    (base : Nat) (v : Value) (L : List Int) (hs : a.eval s = v) (hown : OwnInts w base v L) (u : Value) (M : List Int) (hx : a.eval x = u) (hu : IntsAt w u M)
    (hlen : L.length + M.length ≤ 16777216) (hbase : base ≤ w.heap.size)
    (h : ∀ v' w', OwnInts w' base v' (L ++ M) → w.grownBy w' v.ownBlock → (v'.ownBlock = none ∨ v'.ownBlock = v.ownBlock ∨ v'.ownBlock = some w.heap.size) → wpList Tryd.prog ops Q rest (a.put o.dst v') w') : wpList Tryd.prog ops Q (o :: rest) a w :=
  wpList_plain hgd fun _ hK => opwp_append_I s x ho base v L hs hown u M hx hu hlen hbase fun v' w' h1 h2 h3 => hK _ _ (h v' w' h1 h2 h3)
/-- One set in new memory. -/
theorem one_set (w : World) (s : VS) : SetsAt (w.alloc (.cells #[.int .u64 ((lw s).toNat : Int), .int .u64 ((hw s).toNat : Int)] 42)) (.slice (some ⟨w.heap.size, 0, none⟩) 1 1) [s] :=
  (setRow_of_take (L := [s]) (heap_alloc_new w _) rfl).sets 1
theorem one_int (w : World) (x : Int) (T : TypeId) : IntsAt (w.alloc (.cells #[.int .i64 x] T)) (.slice (some ⟨w.heap.size, 0, none⟩) 1 1) [x] :=
  ⟨_, _, rfl, .inr ⟨w.heap.size, 0, rfl, fun i hi => by
    obtain rfl : i = 0 := by simpa using hi
    rw [World.cell?, show (w.alloc (.cells #[.int .i64 x] T)).heap[w.heap.size]? = _ from heap_alloc_new w _]; rfl⟩⟩
theorem own_noneS (w : World) {B : Nat} (hB : B ≤ w.heap.size) : OwnSets (w.alloc (.cells #[] 42)) B (.slice (some ⟨w.heap.size, 0, none⟩) 0 0) [] :=
  World.ownsRow_made w #[] 0 hB (by decide) rfl
theorem own_noneI (w : World) {B : Nat} (hB : B ≤ w.heap.size) : OwnInts (w.alloc (.cells #[] 3)) B (.slice (some ⟨w.heap.size, 0, none⟩) 0 0) [] :=
  World.ownsRow_made w #[] 0 hB (by decide) rfl
section
variable {P : Program} {ops : Array Oper} {Q : Exit → Act → World → Prop} {md : Region.Mode} {A : Nat} {C : World → Prop}
/-- Either of two operations may come up. -/
theorem wpAnyL_two {i j : Nat} {oi oj : Oper} {fuel : Nat} {listed : Array Bool} {a : Act} {w : World} (hr : Region.ready md ops listed = [i, j]) (hi : ops[i]? = some oi) (hwi : Region.wanted oi (yielded ops a.tmps) = true)
    (hj : ops[j]? = some oj) (hwj : Region.wanted oj (yielded ops a.tmps) = true)
    (h1 : oi.wp P a w (fun a' w' => tillA A C (listed.setIfInBounds i true) w' ∧ wpAnyL P md ops Q A C fuel (listed.setIfInBounds i true) a' w') Q)
    (h2 : oj.wp P a w (fun a' w' => tillA A C (listed.setIfInBounds j true) w' ∧ wpAnyL P md ops Q A C fuel (listed.setIfInBounds j true) a' w') Q) : wpAnyL P md ops Q A C (fuel + 1) listed a w := by
  refine ⟨fun h0 => (by rw [hr] at h0; cases h0), fun k hk => ?_⟩
  rw [hr] at hk
  simp only [List.mem_cons, List.not_mem_nil, or_false] at hk
  unfold wpOp
  rcases hk with rfl | rfl
  · rw [hi]
    simp only [hwi, if_true]
    exact .inl h1
  · rw [hj]
    simp only [hwj, if_true]
    exact .inl h2
end
theorem own_apart {w : World} {B B' : Nat} {e e' : TypeId} {size size' : Nat} {v v' : Value} {n n' : Nat} {xs xs' : List Value} (h : w.ownsRow B e size v n xs) (h' : w.ownsRow B' e' size' v' n' xs') (ht : e ≠ e') : v.ownBlock = none ∨ v.ownBlock ≠ v'.ownBlock := by
  rcases h.2 with ⟨rfl, _⟩ | ⟨g, cap, cur, rfl, _, hg, _⟩
  · exact .inl rfl
  · rcases h'.2 with ⟨rfl, _⟩ | ⟨g', cap', cur', rfl, _, hg', _⟩
    · exact .inr (by intro e; cases e)
    · right
      intro e1
      obtain rfl : g = g' := by simpa [Value.ownBlock] using e1
      rw [hg] at hg'
      injection hg' with hg'; injection hg' with _ e2 _
      exact ht e2
theorem Box2.app {w w' : World} {b : Nat} {T : TypeId} {x y : Value} (h : Box2 w b T x y) {B : Nat} {e : TypeId} {size : Nat} {v : Value} {n : Nat} {xs : List Value} (ho : w.ownsRow B e size v n xs) (hg : w.grownBy w' v.ownBlock) (ht : T ≠ e) : Box2 w' b T x y :=
  h.kept hg (own_ne_box ho h ht).symm
theorem below_app {w0 w w' : World} {e : TypeId} {size : Nat} {v : Value} {n : Nat} {xs : List Value} {B : Nat} (hb : Below B w0 w) (hB : B ≤ w0.heap.size) (ho : w.ownsRow B e size v n xs) (hg : w.grownBy w' v.ownBlock) : Below B w0 w' :=
  hb.grown hg (Nat.le_trans hB hb.size) (fun k e => (ho.lt k e).1)
theorem grownBy_01 (w : World) (b : Nat) (x y : Value) : w.grownBy ((w.setCell ⟨b, 0, none⟩ x).setCell ⟨b, 1, none⟩ y) (some b) :=
  ⟨rfl, rfl, rfl, by simp [World.setCell], fun k _ hne => by
    rw [Below.heap_setCell _ _ _ _ (by intro e; exact hne (by rw [e])), Below.heap_setCell _ _ _ _ (by intro e; exact hne (by rw [e]))]⟩
theorem below_01 {B : Nat} {a w : World} {b : Nat} (h : Below B a w) (hb : B ≤ b) (x y : Value) : Below B a ((w.setCell ⟨b, 0, none⟩ x).setCell ⟨b, 1, none⟩ y) :=
  (h.setCell (p := ⟨b, 0, none⟩) hb x).setCell (p := ⟨b, 1, none⟩) hb y
theorem SetRow.getS {w : World} {g : Nat} {L : List VS} (h : SetRow w g L) (i : Nat) (hi : i < L.length) : ∃ t, sOf L (i : Int) = t ∧ w.cell? ⟨g, i * 2, none⟩ = some (.int .u64 ((lw t).toNat : Int)) ∧ w.cell? ⟨g, i * 2 + 1, none⟩ = some (.int .u64 ((hw t).toNat : Int)) ∧ w.frozen? ⟨g, i * 2, none⟩ = false ∧ w.frozen? ⟨g, i * 2 + 1, none⟩ = false := by
  obtain ⟨a, b, c, d⟩ := h.at i hi
  exact ⟨L[i], sOf_nat L i hi, a, b, c, d⟩
/-- A node that lies in a variable. -/
def Box3 (w : World) (b : Nat) (T : TypeId) (x y z : Value) : Prop := w.heap[b]? = some (.cells #[x, y, z] T (0, 0))
theorem Box3.new (w : World) (T : TypeId) (x y z : Value) : Box3 (w.alloc (.cells #[x, y, z] T)) w.heap.size T x y z := heap_alloc_new w _
theorem Box3.lt {w : World} {b : Nat} {T : TypeId} {x y z : Value} (h : Box3 w b T x y z) : b < w.heap.size := (Array.getElem?_eq_some_iff.1 h).1
theorem Box3.cells {w : World} {b : Nat} {T : TypeId} {x y z : Value} (h : Box3 w b T x y z) : w.cell? ⟨b, 0, none⟩ = some x ∧ w.cell? ⟨b, 1, none⟩ = some y ∧ w.cell? ⟨b, 2, none⟩ = some z := by
  unfold Box3 at h; simp [World.cell?, h]
theorem Box3.same {w w' : World} {b : Nat} {T : TypeId} {x y z : Value} (h : Box3 w b T x y z) (e : w'.heap[b]? = w.heap[b]?) : Box3 w' b T x y z := e.trans h
theorem Box3.below {w w' : World} {b B : Nat} {T : TypeId} {x y z : Value} (h : Box3 w b T x y z) (hb : Below B w w') (hB : b < B) : Box3 w' b T x y z := h.same (hb.block b hB)
theorem Box3.kept {w w' : World} {b : Nat} {T : TypeId} {x y z : Value} {row : Option Nat} (h : Box3 w b T x y z) (hg : w.grownBy w' row) (hne : some b ≠ row) : Box3 w' b T x y z := h.same (hg.block b h.lt hne)
end Go.Proofs.YtpdbfbjfodckgaaDoor
