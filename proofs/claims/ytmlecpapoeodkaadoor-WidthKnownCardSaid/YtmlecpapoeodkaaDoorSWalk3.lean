/- Walks: the costs, widths. -/
import Derived.Test.YtmlecpapoeodkaaDoorSWalk2
namespace Go.Proofs.YtmlecpapoeodkaaDoor
open Go.RowKit
attribute [local go_sem ↓] run_eqlS run_neqS run_eqlS0 run_neqS0

theorem len_le (s : VS) : len s ≤ 128 := by have := mems_length s; unfold len; omega
theorem sum_range {a b : Int} : ∀ {l : List Int}, (∀ x ∈ l, a ≤ x ∧ x ≤ b) → a * (l.length : Int) ≤ l.sum ∧ l.sum ≤ b * (l.length : Int)
  | [], _ => by simp
  | x :: l, h => by
    obtain ⟨h1, h2⟩ := sum_range (l := l) (fun y hy => h y (by simp [hy]))
    have h3 := h x (by simp)
    rw [List.sum_cons, List.length_cons]
    push_cast
    rw [Int.mul_add, Int.mul_add]
    omega
def fillTo (g : Gr) (v : Int) (k : Nat) : Int := (((mems (g v)).take k).map fun w => len (minus (g v) (g w)) - 1).sum
theorem fillTo_all (g : Gr) (v : Int) : fillTo g v (mems (g v)).length = fillC g v := by unfold fillTo fillC; rw [List.take_length]
theorem fillTo_succ (g : Gr) (v : Int) (k : Nat) (h : k < (mems (g v)).length) : fillTo g v (k + 1) = fillTo g v k + (len (minus (g v) (g (mems (g v))[k])) - 1) := by
  unfold fillTo
  rw [List.take_succ_eq_append_getElem h, List.map_append, List.sum_append]
  simp
theorem fillTo_range (g : Gr) (v : Int) (k : Nat) : -128 ≤ fillTo g v k ∧ fillTo g v k ≤ 16384 := by
  have h := sum_range (a := -1) (b := 127) (l := ((mems (g v)).take k).map fun w => len (minus (g v) (g w)) - 1) (fun x hx => by
    obtain ⟨w, _, rfl⟩ := List.mem_map.1 hx
    have := len_pos (s := minus (g v) (g w))
    have := len_le (minus (g v) (g w))
    constructor <;> omega)
  have hl := mems_length (g v)
  rw [List.length_map, List.length_take] at h
  unfold fillTo
  omega
/-- What a cost's function does. -/
def CostIs (f : FuncId) (cost : Gr → Int → Int) : Prop := ∀ (g c : Nat) (L : List VS) (vn : Nat) (w : World), SetRow w g L → TabAt w → ValidG L → vn < L.length →
  Calls Tryd.prog f #[.slice (some ⟨g, 0, none⟩) L.length c, .int .i64 (vn : Int)] w fun e w' => e = .returned (.int .i64 (cost (gOf L) (vn : Int))) ∧ Below w.heap.size w w'
end Go.Proofs.YtmlecpapoeodkaaDoor
