/- Walks: the writer of numbers. -/
import Derived.Test.YtkfmblpcfgdgpaaFRow
import Derived.Test.YtkfmblpcfgdgpaaFCode
namespace Go.Proofs.Ytkfmblpcfgdgpaa
open Go.RowKit
attribute [local go_sem] Oper.semAt_some

/-- The writer holds the bytes l, in memory of the call's own. -/
def Wr (w : World) (base pw : Nat) (l : List UInt8) : Prop :=
  ∃ v, Boxed w pw 51 v ∧ Row w base v l ∧ base ≤ pw
/-- Blocks of other types than bytes, but for one, are as they were. -/
def KeepsT (w w' : World) (pw : Nat) : Prop := ∀ k cs t fr, w.heap[k]? = some (.cells cs t fr) → t ≠ 5 → k ≠ pw → w'.heap[k]? = some (.cells cs t fr)
theorem KeepsT.refl (w : World) (pw : Nat) : KeepsT w w pw := fun _ _ _ _ h _ _ => h
theorem KeepsT.trans {a b c : World} {pw : Nat} (h : KeepsT a b pw) (g : KeepsT b c pw) : KeepsT a c pw := fun k cs t fr e ht hk => g k cs t fr (h k cs t fr e ht hk) ht hk
theorem KeepsT.appended {W w1 : World} {base B : Nat} {v v' : Value} {l : List UInt8} {tmp : Obj} (hrow : Row W base v l) (hgrow : (W.alloc tmp).grownBy w1 v.ownBlock) : KeepsT W (w1.setCell ⟨B, 0, none⟩ v') B := by
  intro k cs t fr hk ht hne
  have hlt : k < W.heap.size := (Array.getElem?_eq_some_iff.1 hk).1
  have h1 : (W.alloc tmp).heap[k]? = W.heap[k]? := by
    show (W.heap.push tmp)[k]? = _
    rw [Array.getElem?_push]; simp; omega
  rw [Below.heap_setCell _ _ _ k hne, hgrow.block k (by simp; omega) (fun e => ?_), h1, hk]
  rcases hrow.cells with ⟨rfl, _⟩ | ⟨g, cap, cur, fz, rfl, _, hgb, _⟩
  · simp [Value.ownBlock] at e
  · obtain rfl : k = g := by simpa [Value.ownBlock] using e
    rw [hk] at hgb
    injection hgb with hgb; injection hgb with _ e2 _
    exact ht e2
theorem byte_of {n : Nat} (h : n < 256) : encB (UInt8.ofNat n) = .int .u8 (n : Int) := by
  show Value.int .u8 (((UInt8.ofNat n).toNat : Nat) : Int) = _
  rw [toNat_ofNat h]
set_option maxRecDepth 100000 in
set_option maxHeartbeats 1000000 in
theorem number_c (n : Nat) (hn : n < 9223372036854775808) (base pw : Nat) (l : List UInt8) (w : World) (h : Wr w base pw l) (hl : l.length ≤ 70368744177664) (hb : base ≤ w.heap.size) :
    Calls Try.prog 29 #[.pointer (some ⟨pw, 0, none⟩), .int .i64 n] w fun e w' => e = .returned (.tuple #[]) ∧ Wr w' base pw (l ++ encNum n) ∧ Below base w w' ∧ KeepsT w w' pw := by
  go_enter Try.func29, Try.ntmps29
  have hlen : (encNum n).length ≤ 10 := encNum_len (j := 9) (by omega)
  go_wp2_with fail
  go_loopw [1] (fun i wr => ∃ (m : Nat) (l' : List UInt8), m < 9223372036854775808 ∧ i = .int .i64 m ∧ Wr wr base pw l' ∧ Hid (l' ++ encNum m = l ++ encNum n) ∧ Below base w wr ∧ base ≤ wr.heap.size ∧ Hid (KeepsT w wr pw)) (fun i _ => (intOf i).toNat)
  case atStart => exact ⟨n, l, hn, rfl, h, rfl, Below.refl _ _, hb, KeepsT.refl _ _⟩
  case round =>
    obtain ⟨m, l', hm, rfl, hw, he, hB, hbs, hkt⟩ := hrel
    obtain ⟨v, hv, hrow, hpw⟩ := hw
    have hc := hv.cell
    have hf := hv.frozen
    have hll : l'.length ≤ l.length + 10 := by
      have := congrArg List.length he.out
      simp at this; omega
    by_cases h128 : m < 128
    · have HE := hid (encNum_lt h128)
      have z1 : ¬ (128 : Int) ≤ (m : Int) := by omega
      have z2 : (m : Int) % 256 = (m : Int) := by omega
      go_wp2_with (at_builtin; refine wpList_append_row rfl _ _ rfl base _ l' rfl (hrow.alloc _) ⟨wr.heap.size, 0, none⟩ 1 1 [.int .u8 ((m : Int))] rfl rfl (cell_one_new _ _ _) (by simp [Value.oneCell']) (by omega) (by omega) (by simp; omega) ?_; intro v' w1 hown' hgrow; obtain ⟨g', cap', rfl⟩ := ownsRow_succ hown'; obtain ⟨hv1, hv2, hr2, hb2⟩ := Boxed.appendedR hv (by decide) hrow hbs hpw hown' hgrow; have hc1 := hv1.cell; have hf1 := hv1.frozen; have hk2 := hid (hkt.out.trans (KeepsT.appended (B := pw) (v' := .slice (some ⟨g', 0, none⟩) (l'.length + 1) cap') hrow hgrow)))
      go_end0
      refine ⟨rfl, ⟨_, hv2, .inl ?_, hpw⟩, hB.trans hb2, hk2.out⟩
      have : l ++ encNum n = l' ++ [UInt8.ofNat m] := by rw [← he.out, HE.out]
      rw [this]
      simpa [byte_of (show m < 256 by omega)] using hr2
    · have HE := hid (encNum_ge h128)
      have z1 : (128 : Int) ≤ (m : Int) := by omega
      go_wp2_with (at_builtin; refine wpList_append_row rfl _ _ rfl base _ l' rfl (hrow.alloc _) ⟨wr.heap.size, 0, none⟩ 1 1 [.int .u8 ((m : Int) % 128 + 128)] rfl rfl (cell_one_new _ _ _) (by simp [Value.oneCell']) (by omega) (by omega) (by simp; omega) ?_; intro v' w1 hown' hgrow; obtain ⟨g', cap', rfl⟩ := ownsRow_succ hown'; obtain ⟨hv1, hv2, hr2, hb2⟩ := Boxed.appendedR hv (by decide) hrow hbs hpw hown' hgrow; have hc1 := hv1.cell; have hf1 := hv1.frozen; have hk2 := hid (hkt.out.trans (KeepsT.appended (B := pw) (v' := .slice (some ⟨g', 0, none⟩) (l'.length + 1) cap') hrow hgrow)))
      go_roundw
      case rel =>
        refine ⟨m / 128, l' ++ [UInt8.ofNat (m % 128 + 128)], by omega, by go_num, ⟨_, hv2, .inl ?_, hpw⟩, ?_, hB.trans hb2, ?_, hk2⟩
        · have e : encB (UInt8.ofNat (m % 128 + 128)) = .int .u8 ((m : Int) % 128 + 128) := by
            rw [byte_of (by omega)]; exact congrArg (Value.int .u8) (by omega)
          rw [List.map_append, List.map_cons, List.map_nil, e, List.length_append, List.length_singleton]
          exact hr2
        · show _ = _
          rw [← he.out, HE.out]; simp
        · have := hb2.size; omega
      case measure => simp [intOf]; omega
end Go.Proofs.Ytkfmblpcfgdgpaa
