/- The frame of the laws: what the reading of the arguments and of the listed table gives to the walks. -/
import Derived.Test.YtpdbfbjfodckgaaDoorRows
import Derived.Test.YtpdbfbjfodckgaaDoorTie
import Derived.Test.YtpdbfbjfodckgaaDoorVWalk5
import Derived.ProofKit
import Derived.LaidMore
import Derived.OpenShut
import Derived.ShutString
import Derived.ChangeOld
import Derived.Below
import Derived.Carry
import Derived.Stop.Joined
import Derived.SevenTiedAt
namespace Go.Proofs.YtpdbfbjfodckgaaDoor
open Go.ChangeShapes Go.WideShapes Go.ChangeAt Go.WideMaps Go.WideElems Go.RowKit

theorem own : ownKnob Tryd.prog.godebug = none := by kernel_rfl
theorem laidOut : laidOutB Tryd.prog = true := by kernel_rfl
theorem gTab : Tryd.prog.globalNamed "math/bits.deBruijn64tab" = some 1 := by kernel_rfl
theorem tTab : (Tryd.prog.globals[1]?).map (·.type) = some 100 := by kernel_rfl
theorem cTab : Tryd.prog.cellsOf 5 = 1 := by kernel_rfl
theorem cSet : Tryd.prog.cellsOf 40 = 1 := by kernel_rfl
def laidTab {H : Type} : List (String × DataW H) := [("math/bits.deBruijn64tab", Rows.laid_math_bits_deBruijn64tab)]
/-- The door's own heap meets the condition. -/
theorem door_met (os : Os) (args : Array Value) : laidMetH Tryd.prog [("math/bits.deBruijn64tab", Rows.laid_math_bits_deBruijn64tab)] ((World.doorLaid Tryd.prog 400 os).forCall (fun _ _ => 0) ⟨#[], args, []⟩).memory :=
  laidMetH_of_parts3 (fuel := 8) (laidMet_of_run' 8 (by kernel_rfl) (by kernel_rfl)) (by kernel_rfl) (by kernel_rfl)
theorem tab_list {H : Type} : (Rows.laid_math_bits_deBruijn64tab : DataW H) = .agg (Lib.deBruijn64tab.map fun n : Nat => .lit (.int .u8 (n : Int))) := rfl
theorem of_laid {W : World} (h : laidMetH Tryd.prog [("math/bits.deBruijn64tab", Rows.laid_math_bits_deBruijn64tab)] W) : TabAt W := by
  rw [MakeChecks.laidMetH_plain _ _ _ (by kernel_rfl)] at h
  obtain ⟨ps, ⟨g0, t0, cs0, f0, p0, q0, hg0, ht0, hv0, hd0, _, _⟩, _⟩ := h
  obtain rfl := Option.some.inj (gTab.symm.trans hg0)
  obtain rfl := Option.some.inj (tTab.symm.trans ht0)
  intro j hj
  obtain ⟨xs, m1, rfl, hx1, hlen, hn, hel⟩ := DataW.trod_array Tryd.underlying100 hd0
  have hj1 := hel j hj
  rw [cTab, Nat.mul_one] at hj1
  have hjx : j < xs.length := by omega
  rw [List.getElem?_eq_getElem hjx] at hj1
  obtain ⟨k, e1, e2, _⟩ := DataW.trod_int Tryd.underlying5 hj1
  simp only [tab_list, Prod.mk.injEq, DataW.agg.injEq] at hx1
  have hk := congrArg (fun l => l[j]?) hx1.1
  have hjt : j < Lib.deBruijn64tab.length := hj
  simp only [List.getElem?_map, List.getElem?_eq_getElem hjx, List.getElem?_eq_getElem hjt, Option.map_some, e2, Option.some.injEq] at hk
  have hk2 : k = ((Lib.deBruijn64tab[j] : Nat) : Int) := by simpa using hk.symm
  have hc := World.var?_cell hg0 hv0 j
  have hlt : j < cs0.toList.length := by
    apply Classical.byContradiction; intro hge
    rw [List.drop_eq_nil_of_le (by omega)] at e1; simp at e1
  have e3 : cs0.toList[j]? = some (.int .u8 k) := by
    have := congrArg List.head? e1
    rw [List.head?_take, if_neg (by decide), List.head?_drop] at this
    simpa using this
  rw [hc, ← Array.getElem?_toList, e3, hk2, List.getD_eq_getElem?_getD, List.getElem?_eq_getElem hjt]
  rfl

/-- A set out of two words. -/
def mkS (a b : Int) : VS := BitVec.ofNat 128 (a.toNat + 18446744073709551616 * b.toNat)
theorem mkS_words {a b : Int} (ha : 0 ≤ a ∧ a < 18446744073709551616) (hb : 0 ≤ b ∧ b < 18446744073709551616) : encS (mkS a b) = .agg #[.int .u64 a, .int .u64 b] := by
  have hn : (mkS a b).toNat = a.toNat + 18446744073709551616 * b.toNat := by
    unfold mkS; rw [BitVec.toNat_ofNat, Nat.mod_eq_of_lt]; omega
  have h1 : (lw (mkS a b)).toNat = a.toNat := by
    unfold lw; rw [BitVec.toNat_setWidth, hn]; omega
  have h2 : (hw (mkS a b)).toNat = b.toNat := by
    unfold hw; rw [BitVec.toNat_setWidth, BitVec.toNat_ushiftRight, hn, Nat.shiftRight_eq_div_pow]; omega
  rw [encS, h1, h2]
  congr 3
  · congr 1; omega
  · congr 2; omega
set_option maxRecDepth 100000
theorem open_set {H : Type} {enc : TypeId × Value → H} {W : World} {b0 base : Nat} {r : Reach} {sp : Nat → Bool} {held : Bool} {v : Value} {d : DataW H} {ps : List MemPlace}
    (hv : Value.okWide Tryd.prog W r b0 42 v) (hd : DataW.Trod enc Tryd.prog W base sp held 42 v d ps) : ∃ s : VS, v = encS s := by
  simp only [Value.okWide, Tryd.underlying42] at hv
  obtain ⟨cs, rfl, hcs, _⟩ := hv
  obtain ⟨fuel, hf⟩ := hd
  obtain ⟨xs, m, rfl, hx, hlen, hn, hel⟩ := DataW.trod_array Tryd.underlying42 hf
  have h0 := hel 0 (by decide)
  have h1 := hel 1 (by decide)
  obtain ⟨x0, x1, rfl⟩ : ∃ x0 x1, xs = [x0, x1] := by
    match xs, hn with
    | [x0, x1], _ => exact ⟨x0, x1, rfl⟩
  rw [cSet] at h0 h1
  obtain ⟨a, ea, _, wa⟩ := DataW.trod_int Tryd.underlying40 (show DataW.trod _ _ _ _ _ _ _ _ _ = some x0 from h0)
  obtain ⟨b, eb, _, wb⟩ := DataW.trod_int Tryd.underlying40 (show DataW.trod _ _ _ _ _ _ _ _ _ = some x1 from h1)
  have hsz : cs.size = 2 := hcs.trans (by kernel_rfl)
  obtain ⟨l⟩ := cs
  obtain ⟨c0, c1, rfl⟩ : ∃ c0 c1, l = [c0, c1] := by
    match l, hsz with
    | [c0, c1], _ => exact ⟨c0, c1, rfl⟩
  simp [Value.cells] at ea eb
  subst ea eb
  have ba := bounds_u64 wa
  have bb := bounds_u64 wb
  exact ⟨mkS a b, (mkS_words ⟨ba.1, by omega⟩ ⟨bb.1, by omega⟩).symm⟩
end Go.Proofs.YtpdbfbjfodckgaaDoor
