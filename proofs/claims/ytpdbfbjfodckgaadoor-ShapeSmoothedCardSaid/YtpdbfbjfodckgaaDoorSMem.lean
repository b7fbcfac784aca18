/- Words for memory: slices of sets. -/
import Derived.Test.YtpdbfbjfodckgaaDoorMem
import Derived.Test.YtpdbfbjfodckgaaDoorVWalk2
import Derived.OwnWalk
import Derived.ArgAppend
namespace Go.Proofs.YtpdbfbjfodckgaaDoor
open Go.RowKit

/-- A set of a slice. -/
structure SetAt (w : World) (b o : Nat) (s : VS) : Prop where
  lo : w.cell? ⟨b, o, none⟩ = some (.int .u64 ((lw s).toNat : Int))
  hi : w.cell? ⟨b, o + 1, none⟩ = some (.int .u64 ((hw s).toNat : Int))
theorem SetAt.below {w w' : World} {b o : Nat} {s : VS} (h : SetAt w b o s) (hb : Below w.heap.size w w') : SetAt w' b o s :=
  ⟨(hb.cell (cell_lt h.lo)).trans h.lo, (hb.cell (cell_lt h.hi)).trans h.hi⟩
/-- The slice value v reads as the sets L. -/
def SetsAt (w : World) (v : Value) (L : List VS) : Prop :=
  ∃ p c, v = .slice p L.length c ∧ (L = [] ∨ ∃ b off, p = some ⟨b, off, none⟩ ∧ ∀ i (h : i < L.length), SetAt w b (off + i * 2) L[i])
theorem SetsAt.below {w w' : World} {v : Value} {L : List VS} (h : SetsAt w v L) (hb : Below w.heap.size w w') : SetsAt w' v L := by
  obtain ⟨p, c, rfl, h⟩ := h
  refine ⟨p, c, rfl, ?_⟩
  rcases h with h | ⟨b, off, rfl, h⟩
  · exact .inl h
  · exact .inr ⟨b, off, rfl, fun i hi => (h i hi).below hb⟩
/-- The sets' words, one behind the other. -/
def setCells : List VS → List Value
  | [] => []
  | s :: L => .int .u64 ((lw s).toNat : Int) :: .int .u64 ((hw s).toNat : Int) :: setCells L
theorem setCells_length : ∀ L : List VS, (setCells L).length = L.length * 2
  | [] => rfl
  | s :: L => by simp only [setCells, List.length_cons, setCells_length L]; omega
theorem setCells_append : ∀ (L M : List VS), setCells (L ++ M) = setCells L ++ setCells M
  | [], M => rfl
  | s :: L, M => by simp only [List.cons_append, setCells, setCells_append L M]
theorem setCells_get : ∀ (L : List VS) (i : Nat) (h : i < L.length), (setCells L)[i * 2]? = some (.int .u64 ((lw L[i]).toNat : Int)) ∧ (setCells L)[i * 2 + 1]? = some (.int .u64 ((hw L[i]).toNat : Int))
  | [], i, h => by simp at h
  | s :: L, 0, _ => ⟨rfl, rfl⟩
  | s :: L, i + 1, h => by
    have := setCells_get L i (by simpa using h)
    rw [show (i + 1) * 2 = i * 2 + 1 + 1 by omega, show i * 2 + 1 + 1 + 1 = (i * 2 + 1) + 1 + 1 from rfl]
    simpa [setCells] using this
theorem setCells_one (L : List VS) : ∀ u ∈ setCells L, u.oneCell' = true := by
  induction L with
  | nil => simp [setCells]
  | cons s L ih => intro u hu; simp only [setCells, List.mem_cons] at hu; rcases hu with rfl | rfl | hu <;> first | rfl | exact ih u hu
theorem SetsAt.cells {w : World} {b off : Nat} {L : List VS} (h : ∀ i (h : i < L.length), SetAt w b (off + i * 2) L[i]) : ∀ j u, (setCells L)[j]? = some u → w.cell? ((⟨b, off, none⟩ : Addr).add j) = some u := by
  intro j u hj
  rw [Addr.add_lit]
  have hjl : j < L.length * 2 := by have := (List.getElem?_eq_some_iff.1 hj).1; rwa [setCells_length] at this
  have hi : j / 2 < L.length := by omega
  have hg := setCells_get L (j / 2) hi
  have ha := h (j / 2) hi
  rcases (by omega : j = j / 2 * 2 ∨ j = j / 2 * 2 + 1) with e | e
  · rw [e, hg.1] at hj; rw [e, ← Option.some.inj hj]; exact ha.lo
  · rw [e, hg.2] at hj; rw [e, ← Option.some.inj hj, ← Nat.add_assoc]; exact ha.hi
theorem info_set : (Tryd.prog.info? 42).map (fun i => (i.zero, i.size, i.bytes)) = some (some (encS 0), 2, 16) := by kernel_rfl
/-- The block g, from its first cell on, holds the sets L. -/
def SetRow (w : World) (g : Nat) (L : List VS) : Prop := ∃ cur, w.heap[g]? = some (.cells cur 42 (0, 0)) ∧ L.length * 2 ≤ cur.size ∧ ∀ i (h : i < L.length), cur[i * 2]? = some (.int .u64 ((lw L[i]).toNat : Int)) ∧ cur[i * 2 + 1]? = some (.int .u64 ((hw L[i]).toNat : Int))
theorem SetRow.lt {w : World} {g : Nat} {L : List VS} (h : SetRow w g L) : g < w.heap.size := by
  obtain ⟨cur, h, _⟩ := h; exact (Array.getElem?_eq_some_iff.1 h).1
theorem SetRow.at {w : World} {g : Nat} {L : List VS} (h : SetRow w g L) (i : Nat) (hi : i < L.length) :
    w.cell? ⟨g, i * 2, none⟩ = some (.int .u64 ((lw L[i]).toNat : Int)) ∧ w.cell? ⟨g, i * 2 + 1, none⟩ = some (.int .u64 ((hw L[i]).toNat : Int)) ∧ w.frozen? ⟨g, i * 2, none⟩ = false ∧ w.frozen? ⟨g, i * 2 + 1, none⟩ = false := by
  obtain ⟨cur, h1, h2, h3⟩ := h
  obtain ⟨e0, e1⟩ := h3 i hi
  simp [World.cell?, World.frozen?, h1, e0, e1]
theorem SetRow.sets {w : World} {g : Nat} {L : List VS} (h : SetRow w g L) (c : Nat) : SetsAt w (.slice (some ⟨g, 0, none⟩) L.length c) L :=
  ⟨_, _, rfl, .inr ⟨g, 0, rfl, fun i hi => by
    obtain ⟨e0, e1, _⟩ := h.at i hi
    exact ⟨by rw [Nat.zero_add]; exact e0, by rw [Nat.zero_add]; exact e1⟩⟩⟩
theorem SetRow.same {w w' : World} {g : Nat} {L : List VS} (h : SetRow w g L) (e : w'.heap[g]? = w.heap[g]?) : SetRow w' g L := by
  obtain ⟨cur, h1, h2⟩ := h; exact ⟨cur, e.trans h1, h2⟩
theorem SetRow.below {w w' : World} {g B : Nat} {L : List VS} (h : SetRow w g L) (hb : Below B w w') (hB : g < B) : SetRow w' g L := h.same (hb.block g hB)
theorem SetRow.kept {w w' : World} {g : Nat} {L : List VS} {row : Option Nat} (h : SetRow w g L) (hg : w.grownBy w' row) (hne : some g ≠ row) : SetRow w' g L := h.same (hg.block g h.lt hne)
theorem SetRow.alloc {w : World} {g : Nat} {L : List VS} (h : SetRow w g L) (o : Obj) : SetRow (w.alloc o) g L := h.same (Below.heap_alloc _ _ _ h.lt)
theorem SetRow.other {w : World} {g : Nat} {L : List VS} (h : SetRow w g L) {a : Addr} (ha : g ≠ a.block) (v : Value) : SetRow (w.setCell a v) g L := h.same (Below.heap_setCell _ _ _ _ ha)
/-- A set is stored. -/
theorem SetRow.store {w : World} {g : Nat} {L : List VS} (h : SetRow w g L) (i : Nat) (_hi : i < L.length) (s : VS) :
    SetRow ((w.setCell ⟨g, i * 2, none⟩ (.int .u64 ((lw s).toNat : Int))).setCell ⟨g, i * 2 + 1, none⟩ (.int .u64 ((hw s).toNat : Int))) g (L.set i s) := by
  obtain ⟨cur, h1, h2, h3⟩ := h
  refine ⟨(cur.setIfInBounds (i * 2) (.int .u64 ((lw s).toNat : Int))).setIfInBounds (i * 2 + 1) (.int .u64 ((hw s).toNat : Int)), ?_, by simpa using h2, fun k hk => ?_⟩
  · simp [World.setCell, Array.getElem?_modify, h1]
  · have hk' : k < L.length := by simpa using hk
    obtain ⟨e0, e1⟩ := h3 k hk'
    rw [List.getElem_set]
    by_cases e : i = k
    · subst e
      rw [if_pos rfl]
      constructor
      · rw [Array.getElem?_setIfInBounds, if_neg (by omega), Array.getElem?_setIfInBounds, if_pos rfl, if_pos (by omega)]
      · rw [Array.getElem?_setIfInBounds, if_pos rfl, if_pos (by simp; omega)]
    · rw [if_neg e]
      constructor
      · rw [Array.getElem?_setIfInBounds, if_neg (by omega), Array.getElem?_setIfInBounds, if_neg (by omega)]; exact e0
      · rw [Array.getElem?_setIfInBounds, if_neg (by omega), Array.getElem?_setIfInBounds, if_neg (by omega)]; exact e1
theorem setRow_of_take {w : World} {g : Nat} {cur : Array Value} {L : List VS} (h1 : w.heap[g]? = some (.cells cur 42 (0, 0))) (ht : cur.toList.take (L.length * 2) = setCells L) : SetRow w g L := by
  have hl : L.length * 2 ≤ cur.size := by
    have := congrArg List.length ht
    rw [setCells_length, List.length_take] at this
    simp at this; omega
  refine ⟨cur, h1, hl, fun i hi => ?_⟩
  have key : ∀ j y, j < L.length * 2 → (setCells L)[j]? = some y → cur[j]? = some y := fun j y hj e => by
    rw [← ht, List.getElem?_take, if_pos hj] at e
    rw [← Array.getElem?_toList]; exact e
  obtain ⟨e0, e1⟩ := setCells_get L i hi
  exact ⟨key _ _ (by omega) e0, key _ _ (by omega) e1⟩
theorem ownsRow_sets {w : World} {base : Nat} {v : Value} {L : List VS} (h : w.ownsRow base 42 2 v L.length (setCells L)) (hne : L ≠ []) : ∃ g c, v = .slice (some ⟨g, 0, none⟩) L.length c ∧ base ≤ g ∧ SetRow w g L ∧ L.length ≤ c ∧ c ≤ maxLen := by
  rcases h.2 with ⟨rfl, h0⟩ | ⟨g, cap, cur, rfl, hb, hg, hn, hm, hs, ht⟩
  · exact absurd (List.length_eq_zero_iff.1 h0) hne
  · exact ⟨g, cap, rfl, hb, setRow_of_take hg (by simpa using ht), hn, hm⟩
end Go.Proofs.YtpdbfbjfodckgaaDoor
