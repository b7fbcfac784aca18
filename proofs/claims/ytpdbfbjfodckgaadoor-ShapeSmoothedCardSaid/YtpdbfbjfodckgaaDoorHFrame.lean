/- The frame of the laws of the chapter: what the reading of the two listed tables gives to the walks. -/
import Derived.Test.YtpdbfbjfodckgaaDoorFrame
import Derived.Test.YtpdbfbjfodckgaaDoorHDet
namespace Go.Proofs.YtpdbfbjfodckgaaDoor
open Go.ChangeShapes Go.WideShapes Go.ChangeAt Go.WideMaps Go.WideElems Go.RowKit

theorem gPat : Tryd.prog.globalNamed "census/shape.patterns" = some 0 := by kernel_rfl
theorem tPat : (Tryd.prog.globals[0]?).map (·.type) = some 76 := by kernel_rfl
/-- The door's own heap meets the condition. -/
theorem door_met2 (os : Os) (args : Array Value) : laidMetH Tryd.prog [("math/bits.deBruijn64tab", Rows.laid_math_bits_deBruijn64tab), ("census/shape.patterns", Rows.laid_census_shape_patterns)] ((World.doorLaid Tryd.prog 400 os).forCall (fun _ _ => 0) ⟨#[], args, []⟩).memory :=
  laidMetH_of_parts3 (fuel := 8) (laidMet_of_run' 8 (by kernel_rfl) (by kernel_rfl)) (by kernel_rfl) (by kernel_rfl)
theorem pat_list {H : Type} : (Rows.laid_census_shape_patterns : DataW H) = .agg ((List.range 6).map fun i => .lit (.int .u64 ((patW i).toNat : Int))) := rfl
set_option maxRecDepth 100000 in
theorem of_laid2 {W : World} (h : laidMetH Tryd.prog [("math/bits.deBruijn64tab", Rows.laid_math_bits_deBruijn64tab), ("census/shape.patterns", Rows.laid_census_shape_patterns)] W) : TabAt W ∧ PatAt W := by
  rw [MakeChecks.laidMetH_plain _ _ _ (by kernel_rfl)] at h
  obtain ⟨ps, ⟨g0, t0, cs0, f0, p0, q0, hg0, ht0, hv0, hd0, ⟨g1, t1, cs1, f1, p1, q1, hg1, ht1, hv1, hd1, _, _⟩, _⟩, _⟩ := h
  obtain rfl := Option.some.inj (gTab.symm.trans hg0)
  obtain rfl := Option.some.inj (tTab.symm.trans ht0)
  obtain rfl := Option.some.inj (gPat.symm.trans hg1)
  obtain rfl := Option.some.inj (tPat.symm.trans ht1)
  constructor
  · intro j hj
    obtain ⟨xs, m1, rfl, hx1, hlen, hn, hel⟩ := DataW.trod_array Tryd.underlying100 hd0
    have hj1 := hel j hj
    rw [cTab, Nat.mul_one] at hj1
    have hjx : j < xs.length := by omega
    rw [List.getElem?_eq_getElem hjx] at hj1
    obtain ⟨k, e1, e2, _⟩ := DataW.trod_int Tryd.underlying5 hj1
    simp only [tab_list, Prod.mk.injEq, DataW.agg.injEq] at hx1
    have hk := congrArg (fun l => l[j]?) hx1.1
    have hjt : j < Lib.deBruijn64tab.length := hj
    simp only [List.getElem?_map, List.getElem?_eq_getElem hjx, List.getElem?_eq_getElem hjt, Option.map_some, e2, Option.some.injEq] at hk
    have hk2 : k = ((Lib.deBruijn64tab[j] : Nat) : Int) := by simpa using hk.symm
    have hc := World.var?_cell hg0 hv0 j
    have hlt : j < cs0.toList.length := by
      apply Classical.byContradiction; intro hge
      rw [List.drop_eq_nil_of_le (by omega)] at e1; simp at e1
    have e3 : cs0.toList[j]? = some (.int .u8 k) := by
      have := congrArg List.head? e1
      rw [List.head?_take, if_neg (by decide), List.head?_drop] at this
      simpa using this
    rw [hc, ← Array.getElem?_toList, e3, hk2, List.getD_eq_getElem?_getD, List.getElem?_eq_getElem hjt]
    rfl
  · intro j hj
    obtain ⟨xs, m1, rfl, hx1, hlen, hn, hel⟩ := DataW.trod_array Tryd.underlying76 hd1
    have hj1 := hel j hj
    rw [cSet, Nat.mul_one] at hj1
    have hjx : j < xs.length := by omega
    rw [List.getElem?_eq_getElem hjx] at hj1
    obtain ⟨k, e1, e2, _⟩ := DataW.trod_int Tryd.underlying40 hj1
    simp only [pat_list, Prod.mk.injEq, DataW.agg.injEq] at hx1
    have hk := congrArg (fun l => l[j]?) hx1.1
    simp only [List.getElem?_map, List.getElem?_eq_getElem hjx, List.getElem?_range hj, Option.map_some, e2, Option.some.injEq] at hk
    have hk2 : k = ((patW j).toNat : Int) := by simpa using hk.symm
    have hc := World.var?_cell hg1 hv1 j
    have hlt : j < cs1.toList.length := by
      apply Classical.byContradiction; intro hge
      rw [List.drop_eq_nil_of_le (by omega)] at e1; simp at e1
    have e3 : cs1.toList[j]? = some (.int .u64 k) := by
      have := congrArg List.head? e1
      rw [List.head?_take, if_neg (by decide), List.head?_drop] at this
      simpa using this
    rw [hc, ← Array.getElem?_toList, e3, hk2]
end Go.Proofs.YtpdbfbjfodckgaaDoor
