/- Walks: the reader of numbers. -/
import Derived.Test.YtkfmblpcfgdgpaaFStr
import Derived.RangeFuncBox
import Derived.Laws.BitsLemmas
namespace Go.Proofs.Ytkfmblpcfgdgpaa
open Go.RowKit

/-- The reader stands at a', all else is as it was. -/
def AtSet (w w' : World) (pa a' : Nat) : Prop := Boxed w' pa 3 (.int .i64 (a' : Int)) ∧ w.grownBy w' (some pa)
theorem AtSet.refl {w : World} {pa a : Nat} (h : Boxed w pa 3 (.int .i64 (a : Int))) : AtSet w w pa a := ⟨h, World.grownBy.refl _ _⟩
theorem grownBy_trans {a b c : World} {row : Option Nat} (h : a.grownBy b row) (g : b.grownBy c row) : a.grownBy c row :=
  ⟨g.os.trans h.os, g.tape.trans h.tape, g.output.trans h.output, Nat.le_trans h.size g.size, fun k hk hne => (g.block k (Nat.lt_of_lt_of_le hk h.size) hne).trans (h.block k hk hne)⟩
theorem AtSet.set {w w' : World} {pa a a' : Nat} (h : AtSet w w' pa a) : AtSet w (w'.setCell ⟨pa, 0, none⟩ (.int .i64 (a' : Int))) pa a' :=
  ⟨h.1.set _, grownBy_trans h.2 (grownBy_setCell' w' pa _)⟩
/-- What the reader panics with. -/
def wrongs : List PanicEntry := [{ v := .iface 72 (.agg #[]), recovered := false }]
def NextPost (most a : Nat) (l : List UInt8) (pa : Nat) (w : World) (e : Ending) (w' : World) : Prop :=
  match rd most 0 0 (l.drop a) with
  | some (n, r) => ∃ a', r = l.drop a' ∧ a ≤ a' ∧ a' ≤ l.length ∧ e = .returned (.int .i64 (n : Int)) ∧ AtSet w w' pa a'
  | none => ∃ a', e = .panicked wrongs ∧ AtSet w w' pa a'
theorem bodyPost_panic {P : Program} {fn : Func} {R : Ending → World → Prop} {a : Act} {w : World} {ch : List PanicEntry} (h : a.defers = []) (r : R (.panicked ch) w) : bodyPost P fn R (.panic ch) a w := ⟨h, r⟩
theorem nextPost_no {most a : Nat} {l : List UInt8} {pa : Nat} {w w' : World} {a' : Nat} (h : rd most 0 0 (l.drop a) = none) (hat : AtSet w w' pa a') : NextPost most a l pa w (.panicked wrongs) w' := by
  unfold NextPost; rw [h]; exact ⟨a', rfl, hat⟩
theorem nextPost_yes {most a n : Nat} {l : List UInt8} {pa : Nat} {w w' : World} {a' : Nat} (h : rd most 0 0 (l.drop a) = some (n, l.drop a')) (h1 : a ≤ a') (h2 : a' ≤ l.length) (hat : AtSet w w' pa a') : NextPost most a l pa w (.returned (.int .i64 (n : Int))) w' := by
  unfold NextPost; rw [h]; exact ⟨a', rfl, h1, h2, rfl, hat⟩
theorem pow128 (k : Nat) : 128 ^ k = 2 ^ (7 * k) := by rw [show (128 : Nat) = 2 ^ 7 from rfl, ← Nat.pow_mul]
theorem val_next {k val cn : Nat} (hv : val < 128 ^ k) : val + cn % 128 * 128 ^ k < 128 ^ (k + 1) := by
  have h1 : cn % 128 ≤ 127 := by omega
  have h2 : cn % 128 * 128 ^ k ≤ 127 * 128 ^ k := Nat.mul_le_mul_right _ h1
  rw [Nat.pow_succ]; omega
/-- The walk's step of the value. -/
theorem or_next {k val cn : Nat} (hk : k ≤ 4) (hv : val < 128 ^ k) : bits .or .i64 (val : Int) (wrap64 ((cn : Int) % 128 * 2 ^ (7 * k))) = ((val + cn % 128 * 128 ^ k : Nat) : Int) := by
  have hp : 128 ^ (k + 1) ≤ 128 ^ 5 := Nat.pow_le_pow_right (by decide) (by omega)
  have hp0 : 128 ^ k ≤ 128 ^ 4 := Nat.pow_le_pow_right (by decide) hk
  have hn := val_next (cn := cn) hv
  have hb : cn % 128 * 128 ^ k < 2 ^ 62 := by
    have : (128 : Nat) ^ 5 < 2 ^ 62 := by decide
    omega
  have ha : val < 2 ^ 62 := by
    have : (128 : Nat) ^ 4 < 2 ^ 62 := by decide
    omega
  have e : ((cn : Int) % 128 * 2 ^ (7 * k)) = ((cn % 128 * 128 ^ k : Nat) : Int) := by
    rw [pow128]; push_cast; rfl
  have ew : wrap64 ((cn % 128 * 128 ^ k : Nat) : Int) = ((cn % 128 * 128 ^ k : Nat) : Int) := by
    have h62 : (2 : Nat) ^ 62 = 4611686018427387904 := by decide
    rw [h62] at hb
    generalize cn % 128 * 128 ^ k = q at *
    unfold wrap64; omega
  rw [e, ew]
  have hw : ∀ n : Int, 0 ≤ n → n < 2 ^ 62 → IntKind.i64.wrap n = n := fun n h0 h1 => by
    have h62 : (2 : Int) ^ 62 = 4611686018427387904 := by decide
    rw [h62] at h1
    rw [IntKind.wrap_i64]; omega
  rw [(bits_nat .i64 62 (by decide) hw val _ ha hb).2]
  congr 1
  rw [Nat.or_comm, pow128, Nat.mul_comm, ← Nat.two_pow_add_eq_or_of_lt (by rw [← pow128]; exact hv)]
  omega
set_option maxRecDepth 100000 in
set_option maxHeartbeats 2000000 in
theorem next_c (most : Nat) (_hm : most ≤ 16777216) (a : Nat) (l : List UInt8) (v : Value) (pa pb : Nat) (w : World) (hI : BytesAt w v l) (hl : l.length ≤ 140737488355328)
    (ha : a ≤ l.length) (hpa : Boxed w pa 3 (.int .i64 (a : Int))) (hpb : Boxed w pb 28 v) (hne : pb ≠ pa) (hv : ∀ b n c, v = .slice (some b) n c → b.block ≠ pa) :
    Calls Try.prog 49 #[.int .i64 most, .pointer (some ⟨pa, 0, none⟩), .pointer (some ⟨pb, 0, none⟩)] w (NextPost most a l pa w) := by
  obtain ⟨p, c, rfl, hI0⟩ := hI
  have HI := hid hI0
  clear hI0
  go_enter Try.func49, Try.ntmps49
  go_wp2_with fail
  go_loopw [5, 6] (fun x j wr => ∃ k val : Nat, k ≤ 5 ∧ j = .int .i64 k ∧ x = .int .i64 val ∧ val < 128 ^ k ∧ a + k ≤ l.length ∧ AtSet w wr pa (a + k) ∧ Hid (rd most k val (l.drop (a + k)) = rd most 0 0 (l.drop a))) (fun _ j _ => 6 - (intOf j).toNat)
  case atStart => exact ⟨0, 0, by omega, rfl, rfl, by simp, ha, AtSet.refl hpa, rfl⟩
  case round =>
    obtain ⟨k, val, hk, rfl, rfl, hval, hak, hat, hrd⟩ := hrel
    have b0 := hat.1.cell
    have f0 := hat.1.frozen
    have hpb' : Boxed wr pb 28 (.slice p l.length c) := hpb.kept hat.2 (by simpa using hne)
    have b1 := hpb'.cell
    by_cases h1 : a + k < l.length
    · by_cases h2 : k ≤ 4
      · obtain ⟨b, off, rfl, hI⟩ := HI.out.resolve_left (by intro e; rw [e] at h1; simp at h1)
        have hc := hI (a + k) h1
        have hc1 : wr.cell? ⟨b, off + (a + k), none⟩ = some (encB l[a + k]) := by
          rw [World.cell?_of_block (w := w) (hat.2.block b (cell_lt hc) (by simpa using hv _ _ _ rfl))]; exact hc
        have hdr : l.drop (a + k) = l[a + k] :: l.drop (a + k + 1) := List.drop_eq_getElem_cons h1
        have hcn : l[a + k].toNat < 256 := l[a + k].toNat_lt
        rw [hdr, rd, if_neg (by omega)] at hrd
        generalize hx : l[a + k].toNat = cn at *
        have hc2 : wr.cell? ⟨b, off + (a + k), none⟩ = some (.int .u8 (cn : Int)) := by rw [hc1]; show some (Value.int .u8 (l[a + k].toNat : Int)) = _; rw [hx]
        have hor := or_next (cn := cn) h2 hval
        have hnv := val_next (cn := cn) hval
        generalize hnvv : val + cn % 128 * 128 ^ k = nv at *
        clear hc hc1 hx hdr hnvv hI
        have q0 : (0 : Int) ≤ (cn : Int) := by omega
        have q1 : (cn : Int) < 256 := by omega
        have HAT := hid (AtSet.set (a' := a + k + 1) hat)
        have HNV := hid hnv
        clear hat hnv hval
        by_cases h3 : cn < 128
        · rw [if_pos h3] at hrd
          by_cases h4 : (cn = 0 ∧ 0 < k) ∨ most < nv
          · rw [if_pos h4] at hrd
            have HN := hid hrd.symm
            clear hrd
            rcases (by omega : (cn = 0 ∧ 0 < k) ∨ (¬ cn = 0 ∧ most < nv) ∨ (¬ 0 < k ∧ most < nv)) with ⟨g1, g2⟩ | ⟨g1, g2⟩ | ⟨g1, g2⟩
            · have e0 : ((cn : Int) == 0) = true := by simp [g1]
              clear g1 h4
              go_wp2_with fail
              exact bodyPost_panic rfl (nextPost_no HN.out HAT.out)
            · have e0 : ((cn : Int) == 0) = false := by simp [g1]
              clear g1 h4
              go_wp2_with fail
              exact bodyPost_panic rfl (nextPost_no HN.out HAT.out)
            · have e0 : ((cn : Int) == 0) = true ∨ ((cn : Int) == 0) = false := by cases ((cn : Int) == 0) <;> simp
              have g3 : ¬ (0 : Int) < (k : Int) := by omega
              clear g1 h4
              rcases e0 with e0 | e0
              · go_wp2_with fail
                exact bodyPost_panic rfl (nextPost_no HN.out (a' := a + k + 1) (by { obtain rfl : k = 0 := by { omega }; exact HAT.out }))
              · go_wp2_with fail
                exact bodyPost_panic rfl (nextPost_no HN.out HAT.out)
          · rw [if_neg h4] at hrd
            have HN := hid hrd.symm
            have h5 : ¬ (most : Int) < (nv : Int) := by omega
            clear hrd
            rcases (by omega : ¬ cn = 0 ∨ (cn = 0 ∧ ¬ 0 < k)) with g1 | ⟨g1, g2⟩
            · have e0 : ((cn : Int) == 0) = false := by simp [g1]
              clear g1 h4
              go_wp2_with fail
              go_ret
              exact nextPost_yes HN.out (by omega) (by omega) HAT.out
            · have e0 : ((cn : Int) == 0) = true := by simp [g1]
              have g3 : ¬ (0 : Int) < (k : Int) := by omega
              clear g1 h4
              go_wp2_with fail
              go_ret
              exact nextPost_yes HN.out (by omega) (by omega) HAT.out
        · rw [if_neg h3] at hrd
          have HN := hid hrd
          clear hrd
          go_wp2_with fail
          go_roundw
          case rel => exact ⟨k + 1, nv, by omega, by go_num, rfl, HNV.out, by omega, HAT.out, HN.out⟩
          case measure => simp [intOf]; omega
      · obtain rfl : k = 5 := by omega
        have HN : Hid (rd most 0 0 (l.drop a) = none) := by
          show _ = _
          rw [← hrd.out, List.drop_eq_getElem_cons h1, rd, if_pos (by omega)]
        have HAT := hid hat
        clear hat hrd
        go_wp2_with fail
        exact bodyPost_panic rfl (nextPost_no HN.out HAT.out)
    · have HN : Hid (rd most 0 0 (l.drop a) = none) := by
        show _ = _
        rw [← hrd.out, List.drop_eq_nil_of_le (by omega), rd]
      have HAT := hid hat
      have hge : (l.length : Int) ≤ (a : Int) + (k : Int) := by omega
      clear hat hrd
      go_wp2_with fail
      exact bodyPost_panic rfl (nextPost_no HN.out HAT.out)
end Go.Proofs.Ytkfmblpcfgdgpaa
