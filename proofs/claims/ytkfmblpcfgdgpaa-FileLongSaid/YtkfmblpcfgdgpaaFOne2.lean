/- Walks: the reader of nodes. -/
import Derived.Test.YtkfmblpcfgdgpaaFOne
import Derived.Deep.AppendLies
import Derived.Deep.RegionHeld3
namespace Go.Proofs.Ytkfmblpcfgdgpaa
open Go.RowKit

theorem rdNode_none {i : Nat} {b : List UInt8} (h : rd 4 0 0 b = none) : rdNode i b = none := by unfold rdNode; rw [h]
theorem block_set {w : World} {g : Nat} {cs : Array Value} {t : TypeId} {fr : Nat × Nat} (h : w.heap[g]? = some (.cells cs t fr)) (v : Value) (i : Nat) : (w.setCell ⟨g, i, none⟩ v).heap[g]? = some (.cells (cs.setIfInBounds i v) t fr) := by
  rw [setCell_eq_setRow w g i cs t fr v h]
  exact setRow_heap w g _ _ t _ h
/-- A box of three cells, known whole. -/
theorem box3 {w : World} {b : Nat} {x y z : Value} {t : TypeId} (h : w.heap[b]? = some (.cells #[x, y, z] t (0, 0))) :
    (w.cell? ⟨b, 0, none⟩ = some x ∧ w.cell? ⟨b, 1, none⟩ = some y ∧ w.cell? ⟨b, 2, none⟩ = some z) ∧ (w.frozen? ⟨b, 0, none⟩ = false ∧ w.frozen? ⟨b, 1, none⟩ = false ∧ w.frozen? ⟨b, 2, none⟩ = false) := by
  refine ⟨⟨?_, ?_, ?_⟩, ?_, ?_, ?_⟩ <;> simp [World.cell?, World.frozen?, h]
theorem box_lt {w : World} {b : Nat} {o : Obj} (h : w.heap[b]? = some o) : b < w.heap.size := (Array.getElem?_eq_some_iff.1 h).1
theorem own_ne_box {w : World} {base : Nat} {e : TypeId} {size : Nat} {v : Value} {n : Nat} {xs : List Value} (h : w.ownsRow base e size v n xs) {b : Nat} {cs : Array Value} {t : TypeId} {fr : Nat × Nat} (hb : w.heap[b]? = some (.cells cs t fr)) (ht : t ≠ e) : v.ownBlock ≠ some b := by
  rcases h.2 with ⟨rfl, _⟩ | ⟨g, cap, cur, rfl, _, hg, _⟩
  · simp [Value.ownBlock]
  · intro e'
    obtain rfl : g = b := by simpa [Value.ownBlock] using e'
    rw [hb] at hg
    injection hg with hg; injection hg with _ e2 _
    exact ht e2
theorem grownBy_set3 (w : World) (b : Nat) (x y z : Value) : w.grownBy (((w.setCell ⟨b, 0, none⟩ x).setCell ⟨b, 1, none⟩ y).setCell ⟨b, 2, none⟩ z) (some b) :=
  ⟨rfl, rfl, rfl, by simp [World.setCell], fun k _ hne => by
    rw [Below.heap_setCell _ _ _ _ (by intro e; exact hne (by rw [e])), Below.heap_setCell _ _ _ _ (by intro e; exact hne (by rw [e])), Below.heap_setCell _ _ _ _ (by intro e; exact hne (by rw [e]))]⟩
theorem below_set3 {B : Nat} {w : World} {b : Nat} (h : B ≤ b) (x y z : Value) : Below B w (((w.setCell ⟨b, 0, none⟩ x).setCell ⟨b, 1, none⟩ y).setCell ⟨b, 2, none⟩ z) :=
  (((Below.refl B w).setCell (p := ⟨b, 0, none⟩) h x).setCell (p := ⟨b, 1, none⟩) h y).setCell (p := ⟨b, 2, none⟩) h z
theorem read3 {w : World} {b : Nat} {x y z : Value} {t : TypeId} {fr : Nat × Nat} (h : w.heap[b]? = some (.cells #[x, y, z] t fr)) (x' y' z' : Value) :
    (((w.setCell ⟨b, 0, none⟩ x').setCell ⟨b, 1, none⟩ y').setCell ⟨b, 2, none⟩ z').heap[b]? = some (.cells #[x', y', z'] t fr) := by
  have h1 := block_set h x' 0
  have h2 := block_set h1 y' 1
  have h3 := block_set h2 z' 2
  simpa using h3
theorem AtSet.low {w w1 w2 : World} {pa a : Nat} (h : AtSet w w1 pa a) (hb : Below w.heap.size w1 w2) (hp : pa < w.heap.size) : AtSet w w2 pa a :=
  ⟨(hb.block pa hp).trans h.1, ⟨hb.os.trans h.2.os, hb.tape.trans h.2.tape, hb.output.trans h.2.output, Nat.le_trans h.2.size hb.size, fun k hk hne => (hb.block k hk).trans (h.2.block k hk hne)⟩⟩
/-- A function whose result is a variable of a node. -/
theorem results_node {fn : Func} {tmps : Array Value} {w : World} {t b : Nat} {x y z : Value} (hr : fn.results = #[.cell t 46]) (ht : tmps.getD t undef = .pointer (some ⟨b, 0, none⟩)) (h : w.heap[b]? = some (.cells #[x, y, z] 46 (0, 0))) :
    (results fn tmps).run Try.prog w = .ok (.agg #[x, y, z]) w := by
  obtain ⟨⟨s0, s1, s2⟩, _⟩ := box3 h
  simp only [Array.getD_eq_getD_getElem?] at ht
  simp [results, hr, ht, go_sem, s0, s1, s2]
theorem one_close {w w2 : World} {pa a1 b : Nat} {x0 y0 z0 v : Value} {ins : List Int} (hat : AtSet w w2 pa a1) (hbb : w.heap.size ≤ b) (hb : w2.heap[b]? = some (.cells #[x0, y0, z0] 46 (0, 0))) (ho : OwnInts w2 w.heap.size v ins) (hp : pa < w.heap.size) (x y : Value) :
    AtSet w (((w2.setCell ⟨b, 0, none⟩ x).setCell ⟨b, 1, none⟩ y).setCell ⟨b, 2, none⟩ v) pa a1 ∧ OwnInts (((w2.setCell ⟨b, 0, none⟩ x).setCell ⟨b, 1, none⟩ y).setCell ⟨b, 2, none⟩ v) w.heap.size v ins ∧ (((w2.setCell ⟨b, 0, none⟩ x).setCell ⟨b, 1, none⟩ y).setCell ⟨b, 2, none⟩ v).heap[b]? = some (.cells #[x, y, v] 46 (0, 0)) :=
  ⟨hat.low (below_set3 hbb x y v) hp, ho.kept (grownBy_set3 w2 b x y v) (.inr (own_ne_box ho hb (by decide))), read3 hb x y v⟩
theorem one_close' {w w2 : World} {pa a1 b : Nat} {x0 y0 z0 v : Value} {ins : List Int} (hat : AtSet w w2 pa a1) (hbb : w.heap.size ≤ b) (hb : w2.heap[b]? = some (.cells #[x0, y0, z0] 46 (0, 0))) (ho : OwnInts w2 w.heap.size v ins) (hp : pa < w.heap.size) (x y : Value) (o : Obj) :
    AtSet w ((((w2.setCell ⟨b, 0, none⟩ x).setCell ⟨b, 1, none⟩ y).setCell ⟨b, 2, none⟩ v).alloc o) pa a1 ∧ OwnInts ((((w2.setCell ⟨b, 0, none⟩ x).setCell ⟨b, 1, none⟩ y).setCell ⟨b, 2, none⟩ v).alloc o) w.heap.size v ins ∧ ((((w2.setCell ⟨b, 0, none⟩ x).setCell ⟨b, 1, none⟩ y).setCell ⟨b, 2, none⟩ v).alloc o).heap[b]? = some (.cells #[x, y, v] 46 (0, 0)) := by
  obtain ⟨h1, h2, h3⟩ := one_close hat hbb hb ho hp x y
  generalize ((w2.setCell ⟨b, 0, none⟩ x).setCell ⟨b, 1, none⟩ y).setCell ⟨b, 2, none⟩ v = w3 at *
  refine ⟨h1.low ((Below.refl _ w3).alloc h1.2.size o) hp, h2.alloc o, ?_⟩
  rw [show (w3.alloc o).heap[b]? = w3.heap[b]? from heap_alloc_old w3 _ (box_lt h3)]; exact h3
theorem lit_walk {c : Nat} (h : c ≤ 257) : wrap64 ((c : Int) / 2 * (1 - (c : Int) % 2 * 2)) = litOf c := by
  have e : (c : Int) / 2 * (1 - (c : Int) % 2 * 2) = litOf c := by unfold litOf; push_cast; rfl
  rw [e]
  have : -128 ≤ litOf c ∧ litOf c ≤ 128 := by
    unfold litOf
    rcases Nat.mod_two_eq_zero_or_one c with e | e <;> rw [e]
    · simp; omega
    · have : ((c / 2 : Nat) : Int) * (1 - ((1 : Nat) : Int) * 2) = -((c / 2 : Nat) : Int) := by simp
      rw [this]; omega
  generalize litOf c = q at *
  unfold wrap64; omega
theorem own_nil (w : World) (base : Nat) : OwnInts w base (.slice none 0 0) [] := ⟨rfl, .inl ⟨rfl, rfl⟩⟩
set_option maxRecDepth 100000 in
set_option maxHeartbeats 2000000 in
theorem one012_c (i : Nat) (a pa pb : Nat) (v : Value) (l : List UInt8) (w : World) (hr : Rdr w.heap.size w pa pb v l a) (hno : ∀ q, rd 4 0 0 (l.drop a) = some q → ¬ (q.1 = 3 ∨ q.1 = 4)) :
    Calls Try.prog 40 #[.func (.func 49) #[] #[.pointer (some ⟨pa, 0, none⟩), .pointer (some ⟨pb, 0, none⟩)], .int .i64 i] w (OnePost i a l pa w) := by
  have hB1 : Below w.heap.size w (w.alloc (.cells #[.int .i64 0, .int .i64 0, .slice none 0 0] 46)) := (Below.refl _ w).alloc (Nat.le_refl _) _
  have hr1 := hr.below hB1
  have hbx := heap_alloc_new w (.cells #[.int .i64 0, .int .i64 0, .slice none 0 0] 46)
  have HB1 := hid hB1
  have HBX := hid hbx
  clear hB1 hbx
  go_enter Try.func40, Try.ntmps40
  go_wp2_with fail
  generalize w.alloc (.cells #[.int .i64 0, .int .i64 0, .slice none 0 0] 46) = w1 at *
  cases hk : rd 4 0 0 (l.drop a) with
  | none =>
    refine (next_none (by omega) hr1 hk).mono ?_
    rintro e w2 ⟨rfl, a', hat⟩
    exact bodyPost_panic rfl (onePost_no (rdNode_none hk) (hat.after HB1.out))
  | some q =>
    obtain ⟨kk, r⟩ := q
    have hk34 : ¬ (kk = 3 ∨ kk = 4) := hno _ hk
    clear hno
    refine (next_some (by omega) hr1 hk).mono ?_
    rintro e w2 ⟨rfl, a1, rfl, ha1, hal, hat⟩
    have hr2 := hr1.next hat hal
    have HAT := hid (hat.after HB1.out)
    have hbx2 : w2.heap[w.heap.size]? = some (.cells #[.int .i64 0, .int .i64 0, .slice none 0 0] 46 (0, 0)) := by
      rw [hat.2.block w.heap.size (box_lt HBX.out) (by have := hr.la; simp; omega)]; exact HBX.out
    have hlt2 : w.heap.size < w2.heap.size := box_lt hbx2
    obtain ⟨⟨r0, r1, r2⟩, f0, f1, f2⟩ := box3 hbx2
    by_cases hk2 : kk = 2
    · subst hk2
      cases hc : rd 257 0 0 (l.drop a1) with
      | none =>
        have HN : Hid (rdNode i (l.drop a) = none) := by
          show _ = _
          unfold rdNode
          rw [hk]
          simp only [if_true]
          rw [hc]
        clear hk
        have hlo : Below w.heap.size w2 (w2.alloc (.cells #[.int .i64 2, .int .i64 0, .slice none 0 0] 46)) := (Below.refl _ w2).alloc (by omega) _
        have hlo2 : Below w2.heap.size w2 (w2.alloc (.cells #[.int .i64 2, .int .i64 0, .slice none 0 0] 46)) := (Below.refl _ w2).alloc (Nat.le_refl _) _
        have hr3 := hr2.below hlo2
        have HA3 := hid (HAT.out.low hlo hr.la)
        go_wp2_with fail
        refine (next_none (by omega) hr3 hc).mono ?_
        rintro e w3 ⟨rfl, a', hat3⟩
        exact bodyPost_panic rfl (onePost_no HN.out (HA3.out.trans hat3))
      | some q2 =>
        obtain ⟨cc, r'⟩ := q2
        have hlo : Below w.heap.size w2 (w2.alloc (.cells #[.int .i64 2, .int .i64 0, .slice none 0 0] 46)) := (Below.refl _ w2).alloc (by omega) _
        have hlo2 : Below w2.heap.size w2 (w2.alloc (.cells #[.int .i64 2, .int .i64 0, .slice none 0 0] 46)) := (Below.refl _ w2).alloc (Nat.le_refl _) _
        have hr3 := hr2.below hlo2
        have HA3 := hid (HAT.out.low hlo hr.la)
        have hcc := (num_rd hc).2
        go_wp2_with fail
        refine (next_some (by omega) hr3 hc).mono ?_
        rintro e w3 ⟨rfl, a2, rfl, ha2, hal2, hat3⟩
        have HN : Hid (rdNode i (l.drop a) = some (⟨2, litOf cc, []⟩, l.drop a2)) := by
          show _ = _
          unfold rdNode
          rw [hk]
          simp only [if_true]
          rw [hc]
        clear hk hc
        have ha02 : a ≤ a2 := by omega
        have hbx3 : w3.heap[w.heap.size]? = some (.cells #[.int .i64 0, .int .i64 0, .slice none 0 0] 46 (0, 0)) := by
          rw [hat3.2.block w.heap.size (by simp; omega) (by have := hr.la; simp; omega), show (w2.alloc _).heap[w.heap.size]? = w2.heap[w.heap.size]? from heap_alloc_old w2 _ hlt2]; exact hbx2
        have hx3 : w3.heap[w2.heap.size]? = some (.cells #[.int .i64 2, .int .i64 0, .slice none 0 0] 46 (0, 0)) := by
          rw [hat3.2.block w2.heap.size (by simp) (by have := hr.la; simp; omega)]; exact heap_alloc_new w2 _
        have HBX3 := hid hbx3
        obtain ⟨⟨r0, r1, r2⟩, f0, f1, f2⟩ := box3 hbx3
        obtain ⟨⟨x0, x1, x2⟩, g0, g1, g2⟩ := box3 hx3
        have HAT3 := hid (HA3.out.trans hat3)
        clear hat hat3 hbx2 hbx3 hx3 hlo hlo2
        have HLW := hid (lit_walk hcc)
        go_wp2_with fail
        rw [HLW.out]
        have hlow := (Below.refl w.heap.size w3).setCell (p := ⟨w2.heap.size, 1, none⟩) (by show w.heap.size ≤ w2.heap.size; omega) (.int .i64 (litOf cc))
        have hb4 : (w3.setCell ⟨w2.heap.size, 1, none⟩ (.int .i64 (litOf cc))).heap[w.heap.size]? = some (.cells #[.int .i64 0, .int .i64 0, .slice none 0 0] 46 (0, 0)) := by
          rw [Below.heap_setCell _ _ _ _ (by show w.heap.size ≠ w2.heap.size; omega)]; exact HBX3.out
        obtain ⟨e1, e2, e3⟩ := one_close (HAT3.out.low hlow hr.la) (Nat.le_refl _) hb4 (own_nil _ _) hr.la (.int .i64 2) (.int .i64 (litOf cc))
        exact bodyPost_ret (results_node rfl rfl e3) rfl (onePost_yes HN.out ha02 hal2 e1 e2)
    · have q2 : ((kk : Int) == 2) = false := by simp; omega
      have q3 : ((kk : Int) == 3) = false := by simp; omega
      have q4 : ((kk : Int) == 4) = false := by simp; omega
      have HN : Hid (rdNode i (l.drop a) = some (⟨(kk : Int), 0, []⟩, l.drop a1)) := by
        show _ = _
        unfold rdNode
        rw [hk]
        simp only [hk2, hk34, if_false]
      clear hk hk34 hk2 hat
      go_wp2_with fail
      obtain ⟨e1, e2, e3⟩ := one_close' HAT.out (Nat.le_refl _) hbx2 (own_nil _ _) hr.la (.int .i64 (kk : Int)) (.int .i64 0) (.cells #[.int .i64 (kk : Int), .int .i64 0, .slice none 0 0] 46)
      exact bodyPost_ret (results_node rfl rfl e3) rfl (onePost_yes HN.out ha1 hal e1 e2)
end Go.Proofs.Ytkfmblpcfgdgpaa
