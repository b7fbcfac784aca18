/- Walks: what is reached from the root; whether a tree is formed. -/
import Derived.Test.YtmlecpapoeodkaaDoorWOfW
import Derived.Test.YtmlecpapoeodkaaDoorWTree
namespace Go.Proofs.YtmlecpapoeodkaaDoor
open Go.RowKit

/-- The slice value v reads as these lists. -/
def RowsAt (w : World) (v : Value) (L : List (List Int)) : Prop :=
  ∃ p c, v = .slice p L.length c ∧ (L = [] ∨ ∃ b off, p = some ⟨b, off, none⟩ ∧ ∀ i (h : i < L.length), ∃ u, w.cell? ⟨b, off + i, none⟩ = some u ∧ IntsAt w u L[i])
theorem RowsAt.below {w w' : World} {v : Value} {L : List (List Int)} (h : RowsAt w v L) (hb : Below w.heap.size w w') : RowsAt w' v L := by
  obtain ⟨p, c, rfl, h⟩ := h
  refine ⟨p, c, rfl, ?_⟩
  rcases h with h | ⟨b, off, rfl, h⟩
  · exact .inl h
  · refine .inr ⟨b, off, rfl, fun i hi => ?_⟩
    obtain ⟨u, h1, h2⟩ := h i hi
    exact ⟨u, (hb.cell (cell_lt h1)).trans h1, h2.below hb⟩
theorem Box1.other {w : World} {b : Nat} {T : TypeId} {x : Value} (h : Box1 w b T x) {a : Addr} (ha : b ≠ a.block) (v : Value) : Box1 (w.setCell a v) b T x := h.same (Below.heap_setCell _ _ _ _ ha)
theorem Box1.set {w : World} {b : Nat} {T : TypeId} {x : Value} (h : Box1 w b T x) (z : Value) : Box1 (w.setCell ⟨b, 0, none⟩ z) b T z := by
  unfold Box1 at h ⊢; simp [World.setCell, Array.getElem?_modify, h]
theorem Box1.frozen {w : World} {b : Nat} {T : TypeId} {x : Value} (h : Box1 w b T x) : w.frozen? ⟨b, 0, none⟩ = false := by unfold Box1 at h; simp [World.frozen?, h]
theorem Box1.app {w w' : World} {b : Nat} {T : TypeId} {x : Value} (h : Box1 w b T x) {B : Nat} {e : TypeId} {size : Nat} {v : Value} {n : Nat} {xs : List Value} (ho : w.ownsRow B e size v n xs) (hg : w.grownBy w' v.ownBlock) (ht : T ≠ e) : Box1 w' b T x :=
  h.same (hg.block _ h.lt (own_ne_box ho h ht).symm)
/-- What a visit leaves. -/
def VisitPost (B0 pl pdn : Nat) (vd : Value) (l m : List Int) (w : World) (e : Ending) (w' : World) : Prop :=
  e = .returned (.tuple #[]) ∧ ∃ vl, Box1 w' pl 23 vl ∧ Box1 w' pdn 70 vd ∧ OwnInts w' B0 vl (l ++ m) ∧ Below B0 w w'
set_option maxRecDepth 100000 in
set_option maxHeartbeats 2000000 in
theorem visit_c (B0 pl pdn x : Nat) (vl vd : Value) (l : List Int) (LL : List (List Int)) (w : World) (h1 : Box1 w pl 23 vl) (h2 : Box1 w pdn 70 vd) (hR : RowsAt w vd LL) (hown : OwnInts w B0 vl l)
    (hx : x < LL.length) (hpl : B0 ≤ pl) (hne : pdn ≠ pl) (hlen : l.length + LL[x].length ≤ 16777216) (hB : B0 ≤ w.heap.size) :
    Calls Tryd.prog 86 #[.int .i64 (x : Int), .pointer (some ⟨pl, 0, none⟩), .pointer (some ⟨pdn, 0, none⟩)] w (VisitPost B0 pl pdn vd l LL[x] w) := by
  obtain ⟨p, c, rfl, hR⟩ := hR
  obtain ⟨b, off, rfl, hc⟩ := hR.resolve_left (by intro e; rw [e] at hx; simp at hx)
  obtain ⟨u, hu, hiu⟩ := hc x hx
  have zx : (0 : Int) ≤ (x : Int) ∧ (x : Int) < (LL.length : Int) := by omega
  have H1 : Hid (w.drew.cell? ⟨pl, 0, none⟩ = some vl) := h1.cell
  have H2 : Hid (w.drew.cell? ⟨pdn, 0, none⟩ = some (.slice (some ⟨b, off, none⟩) LL.length c)) := h2.cell
  have H3 : Hid (w.drew.cell? ⟨b, off + x, none⟩ = some u) := hu
  have HI := hid hiu
  have HO : Hid (OwnInts w.drew B0 vl l) := hown
  have B1 : Hid (Box1 w.drew pl 23 vl) := h1
  have B2 : Hid (Box1 w.drew pdn 70 (.slice (some ⟨b, off, none⟩) LL.length c)) := h2
  generalize LL[x] = m at *
  clear hc hu hiu h1 h2 hown
  go_enter Tryd.func86, Tryd.ntmps86
  go_wp2_with fail
  refine Go.Proofs.YtmlecpapoeodkaaDoor.wp_region_L 7 5 (fun w' => w'.cell? ⟨pl, 0, none⟩ = some (vl) ∧ w'.cell? ⟨pdn, 0, none⟩ = some (.slice (some ⟨b, off, none⟩) LL.length c) ∧ w'.cell? ⟨b, off + x, none⟩ = some (u)) (by kernel_rfl) rfl ⟨H1.out, H2.out, H3.out⟩ (fun _ => ?_)
  refine wpAnyL_load2 (i := 0) (v := vl) (by simp only [List.getElem?_toArray, List.getElem?_cons_zero] <;> rfl) (by kernel_rfl) (by kernel_rfl) (by kernel_rfl) (by exact fun _ _ _ h => h) (by decide) (Waits.one rfl ⟨⟨0, .data⟩, by simp, rfl, rfl⟩) (by kernel_rfl) (by kernel_rfl) (.inr ⟨H1.out, H2.out, H3.out⟩) (Or.inl ⟨by rfl, fun w hw => (by obtain ⟨x0, _, _⟩ := hw; simp [execOp, go_sem, Act.eval, x0])⟩) (fun _ => ?_)
  simp only [Act.put, List.setIfInBounds_toArray, List.set_cons_zero, List.set_cons_succ]
  refine wpAnyL_load2 (i := 1) (v := .slice (some ⟨b, off, none⟩) LL.length c) (by simp only [List.getElem?_toArray, List.getElem?_cons_zero, List.getElem?_cons_succ] <;> rfl) (by kernel_rfl) (by kernel_rfl) (by kernel_rfl) (by exact fun _ _ _ h => h) (by decide) (Waits.more (j := 4) rfl ⟨⟨4, .data⟩, by simp, rfl, rfl⟩ (Waits.more (j := 3) rfl ⟨⟨3, .data⟩, by simp, rfl, rfl⟩ (Waits.one rfl ⟨⟨1, .data⟩, by simp, rfl, rfl⟩))) (by kernel_rfl) (by kernel_rfl) (.inr ⟨H1.out, H2.out, H3.out⟩) (Or.inl ⟨by rfl, fun w hw => (by obtain ⟨_, x1, _⟩ := hw; simp [execOp, go_sem, Act.eval, x1])⟩) (fun _ => ?_)
  simp only [Act.put, List.setIfInBounds_toArray, List.set_cons_zero, List.set_cons_succ]
  refine wpAnyL_pure (i := 2) (v := .int .i64 (x : Int)) (by simp only [List.getElem?_toArray, List.getElem?_cons_zero, List.getElem?_cons_succ] <;> rfl) (by kernel_rfl) (by kernel_rfl) (by kernel_rfl) (by exact fun _ _ _ h => h) (by decide) (.inr ⟨H1.out, H2.out, H3.out⟩) (Or.inl ⟨by rfl, fun w _ => (by simp [execOp, go_sem, Act.eval])⟩) (fun _ => ?_)
  simp only [Act.put, List.setIfInBounds_toArray, List.set_cons_zero, List.set_cons_succ]
  refine wpAnyL_pure (i := 3) (v := .pointer (some ⟨b, off + x, none⟩)) (by simp only [List.getElem?_toArray, List.getElem?_cons_zero, List.getElem?_cons_succ] <;> rfl) (by kernel_rfl) (by kernel_rfl) (by kernel_rfl) (by exact fun _ _ _ h => h) (by decide) (.inr ⟨H1.out, H2.out, H3.out⟩) (Or.inl ⟨by rfl, fun w _ => (by simp [execOp, go_sem, Act.eval, zx])⟩) (fun _ => ?_)
  simp only [Act.put, List.setIfInBounds_toArray, List.set_cons_zero, List.set_cons_succ]
  refine wpAnyL_load2 (i := 4) (v := u) (by simp only [List.getElem?_toArray, List.getElem?_cons_zero, List.getElem?_cons_succ] <;> rfl) (by kernel_rfl) (by kernel_rfl) (by kernel_rfl) (by exact fun _ _ _ h => h) (by decide) (Waits.one rfl ⟨⟨4, .data⟩, by simp, rfl, rfl⟩) (by kernel_rfl) (by kernel_rfl) (.inr ⟨H1.out, H2.out, H3.out⟩) (Or.inl ⟨by rfl, fun w hw => (by obtain ⟨_, _, x2⟩ := hw; simp [execOp, go_sem, Act.eval, x2])⟩) (fun _ => ?_)
  simp only [Act.put, List.setIfInBounds_toArray, List.set_cons_zero, List.set_cons_succ]
  refine wpAnyL_one (i := 5) (by kernel_rfl) (by simp only [List.getElem?_toArray, List.getElem?_cons_zero, List.getElem?_cons_succ] <;> rfl) (by rfl) ?_
  refine opwp_append_I _ _ rfl B0 vl _ rfl HO.out _ m rfl (HI.out.below ((Below.refl _ w).drew)) hlen hB ?_
  intro v2 w2 hown2 hg2 _
  have b1 := B1.out.app HO.out hg2 (by decide)
  have b2 := B2.out.app HO.out hg2 (by decide)
  have bl := ((Below.refl B0 w).drew).grown hg2 hB (fun k e => (HO.out.lt k e).1)
  obtain ⟨p2, c2, e2, _⟩ := hown2.ints
  subst e2
  refine ⟨.inl (by kernel_rfl), ?_⟩
  simp only [Act.put, List.setIfInBounds_toArray, List.set_cons_zero, List.set_cons_succ]
  have y0 := b1.cell
  have y1 := b1.frozen
  refine wpAnyL_one (i := 6) (by kernel_rfl) (by simp only [List.getElem?_toArray, List.getElem?_cons_zero, List.getElem?_cons_succ] <;> rfl) (by rfl) ?_
  refine opwp_skip (w' := (w2.setCell ⟨pl, 0, none⟩ (.slice p2 (l ++ m).length c2))) (by simp [execOp, go_sem, Act.eval, y0, y1]) ⟨.inl (by kernel_rfl), ?_⟩
  simp only [Act.put]
  refine wpAnyL_done (by kernel_rfl) ?_ _
  have hg3 : w2.grownBy (w2.setCell ⟨pl, 0, none⟩ (.slice p2 (l ++ m).length c2)) (some pl) := ⟨rfl, rfl, rfl, by simp [World.setCell], fun k _ hne => Below.heap_setCell _ _ _ _ (by intro e; exact hne (by rw [e]))⟩
  have o3 := hown2.kept hg3 (.inr (own_ne_box hown2 b1 (by decide)))
  have R := hid (show VisitPost B0 pl pdn (.slice (some ⟨b, off, none⟩) LL.length c) l m w (.returned (.tuple #[])) (w2.setCell ⟨pl, 0, none⟩ (.slice p2 (l ++ m).length c2)) from ⟨rfl, _, b1.set _, b2.other (a := ⟨pl, 0, none⟩) hne _, o3, bl.setCell (p := ⟨pl, 0, none⟩) hpl _⟩)
  clear hown2 hg2 b1 b2 bl y0 y1 hg3 o3
  go_wp2_with fail
  exact bodyPost_ret (results_none rfl _ _ _) rfl R.out
def downs (U : List Int) : List (List Int) := (List.range U.length).map fun j : Nat => dnTo U U.length (j : Int)
theorem downs_length (U : List Int) : (downs U).length = U.length := by simp [downs]
theorem downs_get (U : List Int) (j : Nat) (h : j < (downs U).length) : (downs U)[j] = dnTo U U.length (j : Int) := by simp [downs]
theorem visit_on (U : List Int) (B0 pl pdn x : Nat) (vl vd : Value) (l : List Int) (w : World) (h1 : Box1 w pl 23 vl) (h2 : Box1 w pdn 70 vd) (hR : RowsAt w vd (downs U)) (hown : OwnInts w B0 vl l)
    (hx : x < U.length) (hpl : B0 ≤ pl) (hne : pdn ≠ pl) (hlen : l.length ≤ 65536) (hU : U.length ≤ 65536) (hB : B0 ≤ w.heap.size) :
    Calls Tryd.prog 86 #[.int .i64 (x : Int), .pointer (some ⟨pl, 0, none⟩), .pointer (some ⟨pdn, 0, none⟩)] w (VisitPost B0 pl pdn vd l (dnTo U U.length (x : Int)) w) := by
  have hxd : x < (downs U).length := by rw [downs_length]; exact hx
  have h := visit_c B0 pl pdn x vl vd l (downs U) w h1 h2 hR hown hxd hpl hne (by rw [downs_get]; have := dnTo_length U U.length (x : Int); omega) hB
  rw [downs_get] at h
  exact h
set_option maxRecDepth 100000 in
set_option maxHeartbeats 4000000 in
theorem reach_c (p q : Option Addr) (n c m d : Nat) (vd : Value) (U : List Int) (r : Nat) (w : World) (hR : RowsAt w vd (downs U)) (hU : U.length ≤ 65536) (hr : r < U.length) (hru : upF U (r : Int) = -1) :
    Calls Tryd.prog 78 #[.agg #[.slice p n c, .slice q m d], vd, .int .i64 (r : Int)] w fun e w' => (∃ l, e = .returned (.int .i64 ((l.length : Nat) : Int)) ∧ Bfs U (r : Int) l l.length) ∧ Below w.heap.size w w' := by
  have HR := hid hR
  obtain ⟨pd, cd, rfl, hdrop⟩ := id hR
  clear hdrop hR
  have hb0 : Below w.heap.size w ((((w.alloc (.cells #[.slice p n c, .slice q m d] 25)).alloc (.cells #[.slice pd (downs U).length cd] 70)).alloc (.cells #[.int .i64 (r : Int)] 3)).alloc (.cells #[.slice (some ⟨w.heap.size + 1 + 1, 0, none⟩) 1 1] 23)) :=
    ((((Below.refl _ w).alloc (Nat.le_refl _) _).alloc (by simp) _).alloc (by simp; omega) _).alloc (by simp; omega) _
  have b1 := Box1.new (w.alloc (.cells #[.slice p n c, .slice q m d] 25)) 70 (.slice pd (downs U).length cd)
  rw [World.size_alloc] at b1
  have hsz2 : ((w.alloc (.cells #[.slice p n c, .slice q m d] 25)).alloc (.cells #[.slice pd (downs U).length cd] 70)).heap.size = w.heap.size + 1 + 1 := by simp
  have o2 : OwnInts (((w.alloc (.cells #[.slice p n c, .slice q m d] 25)).alloc (.cells #[.slice pd (downs U).length cd] 70)).alloc (.cells #[.int .i64 (r : Int)] 3)) w.heap.size (.slice (some ⟨w.heap.size + 1 + 1, 0, none⟩) 1 1) [(r : Int)] := by
    have := World.ownsRow_lit (base := w.heap.size) (e := 3) (size := 1) ((w.alloc (.cells #[.slice p n c, .slice q m d] 25)).alloc (.cells #[.slice pd (downs U).length cd] 70)) #[.int .i64 (r : Int)] 1 (by rw [hsz2]; omega) (by decide) rfl
    rw [hsz2] at this
    exact this
  have b3 := Box1.new (((w.alloc (.cells #[.slice p n c, .slice q m d] 25)).alloc (.cells #[.slice pd (downs U).length cd] 70)).alloc (.cells #[.int .i64 (r : Int)] 3)) 23 (.slice (some ⟨w.heap.size + 1 + 1, 0, none⟩) 1 1)
  have hsz3 : (((w.alloc (.cells #[.slice p n c, .slice q m d] 25)).alloc (.cells #[.slice pd (downs U).length cd] 70)).alloc (.cells #[.int .i64 (r : Int)] 3)).heap.size = w.heap.size + 1 + 1 + 1 := by simp
  rw [hsz3] at b3
  have b1' := (b1.same (Below.heap_alloc _ (.cells #[.int .i64 (r : Int)] 3) _ b1.lt))
  have b1'' := (b1'.same (Below.heap_alloc _ (.cells #[.slice (some ⟨w.heap.size + 1 + 1, 0, none⟩) 1 1] 23) _ b1'.lt))
  have o3 := o2.alloc (.cells #[.slice (some ⟨w.heap.size + 1 + 1, 0, none⟩) 1 1] 23)
  clear hsz2 hsz3 b1 b1' o2
  go_enter Tryd.func78, Tryd.ntmps78
  go_wp2_with fail
  generalize (((w.alloc (.cells #[.slice p n c, .slice q m d] 25)).alloc (.cells #[.slice pd (downs U).length cd] 70)).alloc (.cells #[.int .i64 (r : Int)] 3)).alloc (.cells #[.slice (some ⟨w.heap.size + 1 + 1, 0, none⟩) 1 1] 23) = w4 at *
  have HRU := hid hru
  clear hru
  go_loopw [9] (fun i wr => ∃ (k : Nat) (l : List Int) (vl : Value), k ≤ l.length ∧ i = .int .i64 k ∧ Hid (Bfs U (r : Int) l k) ∧ OwnInts wr w.heap.size vl l ∧ Box1 wr (w.heap.size + 1 + 1 + 1) 23 vl ∧ Box1 wr (w.heap.size + 1) 70 (.slice pd (downs U).length cd) ∧ Below w.heap.size w wr) (fun i _ => U.length - (intOf i).toNat)
  case atStart => exact ⟨0, [(r : Int)], _, Nat.zero_le _, rfl, Bfs.start (by omega) (by omega), o3, b3, b1'', hb0⟩
  case round =>
    clear o3 b3 b1'' hb0
    obtain ⟨k, l, vl, hk, rfl, hbf, ho, hb3, hb1, hBw⟩ := hrel
    have hlU := hbf.out.len
    have c3 := hb3.cell
    obtain ⟨pl, cl, rfl, hli⟩ := ho.ints
    have hl3 := hb3.lt
    by_cases hkl : k < l.length
    · obtain ⟨bl, ol, rfl, hcs⟩ := hli.resolve_left (by intro e; rw [e] at hkl; simp at hkl)
      have ck := hcs k hkl
      rw [List.getElem?_eq_getElem hkl, Option.getD_some] at ck
      have hrg := hbf.out.rng _ (List.getElem_mem hkl)
      have HST := hid (hbf.out.step HRU.out hkl)
      have zk : (0 : Int) ≤ (k : Int) ∧ (k : Int) < (l.length : Int) := by omega
      obtain ⟨xn, hxn⟩ : ∃ xn : Nat, l[k] = (xn : Int) := ⟨(l[k]).toNat, by omega⟩
      rw [hxn] at ck hrg HST
      have HVI := hid (visit_on U w.heap.size (w.heap.size + 1 + 1 + 1) (w.heap.size + 1) xn _ _ l wr hb3 hb1 (HR.out.below hBw) ho (by omega) (by omega) (by omega) (by omega) hU (by omega))
      have hlbl := cell_lt ck
      have HBW := hid hBw
      clear hcs hli hxn ho hb3 hb1 hBw hbf
      go_wp2_with fail
      refine HVI.out.mono ?_
      rintro e w5 ⟨rfl, vl5, b5, d5, o5, hb5⟩
      have hB5 := HBW.out.trans hb5
      have hk1 : k + 1 ≤ (l ++ dnTo U U.length (xn : Int)).length := by rw [List.length_append]; omega
      clear hb5 c3 ck HVI
      go_wp2_with fail
      go_roundw
      case rel => exact ⟨k + 1, _, _, hk1, by go_num, HST.out, o5, b5, d5, hB5⟩
      case measure => simp [intOf]; omega
    · obtain rfl : k = l.length := by omega
      go_wp2_with fail
      go_ret
      exact ⟨⟨l, rfl, hbf.out⟩, hBw⟩
theorem info_ints : (Tryd.prog.info? 23).map (fun i => (i.zero, i.size, i.bytes)) = some (some (.slice none 0 0), 1, 24) := by kernel_rfl
theorem make_rows (w : World) (n : Nat) (hn : n ≤ 65536) (x y : Int) (hx : x = (n : Int)) (hy : y = (n : Int)) :
    (Instr.makeSlice 70 (.int .i64 x) (.int .i64 y)).run Tryd.prog w = .ok (.slice (some ⟨w.heap.size, 0, none⟩) n n) (w.alloc (.cells (madeCells #[.slice none 0 0] n) 23)) := by
  subst hx; subst hy
  obtain ⟨i0, hi, hz0, hz1, hz2⟩ := info_parts info_ints
  have := run_makeSlice (P := Tryd.prog) w 70 23 i0 (.slice none 0 0) Tryd.underlying70 hi hz0 .i64 .i64 (n : Int) (n : Int) (by omega) (Int.le_refl _) (by rw [hz1, Int.toNat_natCast]; omega) (by rw [hz2]; omega) (by omega)
  rw [hz1, Int.toNat_natCast, Nat.mul_one] at this
  exact this
/-- The block g holds these slices. -/
def RowV (w : World) (g : Nat) (vs : List Value) : Prop := ∃ cur, w.heap[g]? = some (.cells cur 23 (0, 0)) ∧ vs.length ≤ cur.size ∧ ∀ i (h : i < vs.length), cur[i]? = some vs[i]
theorem RowV.lt {w : World} {g : Nat} {vs : List Value} (h : RowV w g vs) : g < w.heap.size := by
  obtain ⟨cur, h, _⟩ := h; exact (Array.getElem?_eq_some_iff.1 h).1
theorem RowV.at {w : World} {g : Nat} {vs : List Value} (h : RowV w g vs) (i : Nat) (hi : i < vs.length) : w.cell? ⟨g, i, none⟩ = some vs[i] ∧ w.frozen? ⟨g, i, none⟩ = false := by
  obtain ⟨cur, h1, h2, h3⟩ := h
  simp [World.cell?, World.frozen?, h1, h3 i hi]
theorem RowV.same {w w' : World} {g : Nat} {vs : List Value} (h : RowV w g vs) (e : w'.heap[g]? = w.heap[g]?) : RowV w' g vs := by
  obtain ⟨cur, h1, h2⟩ := h; exact ⟨cur, e.trans h1, h2⟩
theorem RowV.app {w w' : World} {g : Nat} {vs : List Value} (h : RowV w g vs) {B : Nat} {e : TypeId} {size : Nat} {v : Value} {n : Nat} {xs : List Value} (ho : w.ownsRow B e size v n xs) (hg : w.grownBy w' v.ownBlock) (ht : 23 ≠ e) : RowV w' g vs := by
  have hl := h.lt
  obtain ⟨cur, h1, h2⟩ := h
  exact ⟨cur, (hg.block _ hl (own_ne_box ho h1 ht).symm).trans h1, h2⟩
theorem RowV.store {w : World} {g : Nat} {vs : List Value} (h : RowV w g vs) (i : Nat) (x : Value) : RowV (w.setCell ⟨g, i, none⟩ x) g (vs.set i x) := by
  obtain ⟨cur, h1, h2, h3⟩ := h
  refine ⟨cur.setIfInBounds i x, ?_, by simpa using h2, fun k hk => ?_⟩
  · simp [World.setCell, Array.getElem?_modify, h1]
  · have hk' : k < vs.length := by simpa using hk
    rw [List.getElem_set, Array.getElem?_setIfInBounds]
    by_cases e : i = k
    · subst e
      rw [if_pos rfl, if_pos rfl, if_pos (by omega)]
    · rw [if_neg e, if_neg e]; exact h3 k hk'
theorem RowV.made (w : World) (n : Nat) : RowV (w.alloc (.cells (madeCells #[.slice none 0 0] n) 23)) w.heap.size (List.replicate n (.slice none 0 0)) :=
  ⟨_, heap_alloc_new w _, by simp [size_madeCells], fun i hi => by
    have h2 : i < n := by simpa using hi
    rw [List.getElem_replicate]
    simp [madeCells, h2, Nat.mod_one]⟩
/-- What is in memory ahead of the k-th index. -/
structure DnMem (w wr : World) (gd : Nat) (U : List Int) (k : Nat) (vs : List Value) (x y : Value) : Prop where
  len : vs.length = U.length
  row : RowV wr gd vs
  own : ∀ j (h : j < vs.length), OwnInts wr (gd + 1) vs[j] (dnTo U k (j : Int))
  dis : ∀ i j (hi : i < vs.length) (hj : j < vs.length), i ≠ j → vs[i].ownBlock = none ∨ vs[i].ownBlock ≠ vs[j].ownBlock
  tree : Box2 wr w.heap.size 25 x y
  low : Below w.heap.size w wr
  ord : w.heap.size < gd
section
variable {w wr : World} {gd : Nat} {U : List Int} {k : Nat} {vs : List Value} {x y : Value} (h : DnMem w wr gd U k vs x y)
include h
theorem DnMem.skip (hu : upF U (k : Int) = -1) : DnMem w wr gd U (k + 1) vs x y :=
  ⟨h.len, h.row, fun j hj => by rw [dnTo_succ, if_neg (by rw [hu]; omega)]; exact h.own j hj, h.dis, h.tree, h.low, h.ord⟩
theorem DnMem.push {u : Nat} (hu : upF U (k : Int) = (u : Int)) (hl : u < vs.length) {w2 : World} {v' : Value} (hg : (wr.alloc (.cells #[.int .i64 (k : Int)] 3)).grownBy w2 vs[u].ownBlock) (ho : OwnInts w2 (gd + 1) v' (dnTo U k (u : Int) ++ [(k : Int)]))
    (hb : v'.ownBlock = none ∨ v'.ownBlock = vs[u].ownBlock ∨ v'.ownBlock = some (wr.alloc (.cells #[.int .i64 (k : Int)] 3)).heap.size) : DnMem w (w2.setCell ⟨gd, u, none⟩ v') gd U (k + 1) (vs.set u v') x y := by
  have hgd := h.row.lt
  have hord := h.ord
  have hal : ∀ {B e size v n xs}, wr.ownsRow B e size v n xs → (wr.alloc (.cells #[.int .i64 (k : Int)] 3)).ownsRow B e size v n xs := fun h => h.alloc _
  have hou := hal (h.own u hl)
  have hg2 : w2.grownBy (w2.setCell ⟨gd, u, none⟩ v') (some gd) := ⟨rfl, rfl, rfl, by simp [World.setCell], fun k _ hne => Below.heap_setCell _ _ _ _ (by intro e; exact hne (by rw [e]))⟩
  have htree := (h.tree.alloc (.cells #[.int .i64 (k : Int)] 3)).app hou hg (by decide)
  have hrow := (h.row.same (Below.heap_alloc _ (.cells #[.int .i64 (k : Int)] 3) _ hgd)).app hou hg (by decide)
  have hfarU : ∀ i, vs[u].ownBlock = some i → gd + 1 ≤ i := fun i e => ((h.own u hl).lt i e).1
  refine ⟨by rw [List.length_set]; exact h.len, hrow.store u v', fun j hj => ?_, fun i j hi hj hne => ?_, ?_, ?_, hord⟩
  · have hjl : j < vs.length := by simpa using hj
    rw [List.getElem_set]
    by_cases e : u = j
    · subst e
      rw [if_pos rfl, dnTo_succ, if_pos hu]
      exact ho.kept hg2 (own_far ho (by intro i e; cases e; omega))
    · rw [if_neg e, dnTo_succ, if_neg (by rw [hu]; omega)]
      have h1 := (hal (h.own j hjl)).kept hg (h.dis j u hjl hl (Ne.symm e))
      exact h1.kept hg2 (own_far h1 (by intro i e; cases e; omega))
  · have hil : i < vs.length := by simpa using hi
    have hjl : j < vs.length := by simpa using hj
    have hsz : (wr.alloc (.cells #[.int .i64 (k : Int)] 3)).heap.size = wr.heap.size + 1 := by simp
    have low : ∀ a (ha : a < vs.length), ∀ b, vs[a].ownBlock = some b → b < wr.heap.size := fun a ha b e => ((h.own a ha).lt b e).2
    rw [List.getElem_set, List.getElem_set]
    by_cases e1 : u = i
    · subst e1
      rw [if_pos rfl, if_neg hne]
      rcases hb with hb | hb | hb
      · exact .inl hb
      · rw [hb]; exact h.dis u j hl hjl hne
      · right
        rw [hb]
        intro e
        have := low j hjl _ e.symm
        omega
    · rw [if_neg e1]
      by_cases e2 : u = j
      · subst e2
        rw [if_pos rfl]
        rcases hb with hb | hb | hb
        · cases hv : vs[i].ownBlock with
          | none => exact .inl rfl
          | some b => right; rw [hb]; simp
        · rw [hb]; exact h.dis i u hil hl hne
        · cases hv : vs[i].ownBlock with
          | none => exact .inl rfl
          | some b =>
            right
            rw [hb]
            intro e
            have := low i hil _ hv
            have := Option.some.inj e
            omega
      · rw [if_neg e2]; exact h.dis i j hil hjl hne
  · exact htree.same (hg2.block _ htree.lt (by intro e; have := Option.some.inj e; omega))
  · exact (((h.low.alloc h.low.size _).grown hg (by have := h.low.size; simp; omega) (fun i e => by have := hfarU i e; omega))).setCell (p := ⟨gd, u, none⟩) (by show w.heap.size ≤ gd; omega) _
theorem DnMem.rows (hk : k = U.length) (c : Nat) : RowsAt wr (.slice (some ⟨gd, 0, none⟩) U.length c) (downs U) := by
  refine ⟨_, c, by rw [downs_length], .inr ⟨gd, 0, rfl, fun i hi => ?_⟩⟩
  have hi' : i < vs.length := by rw [h.len, ← downs_length]; exact hi
  refine ⟨vs[i], by rw [Nat.zero_add]; exact (h.row.at i hi').1, ?_⟩
  rw [downs_get, ← hk]
  exact (h.own i hi').ints
end
def BelowPost (n : Nat) (U : List Int) (w : World) (e : Ending) (w' : World) : Prop := (∃ vd r, e = .returned (.tuple #[vd, r, .bool (formedB n U)])) ∧ Below w.heap.size w w'
set_option maxRecDepth 100000 in
set_option maxHeartbeats 8000000 in
theorem below_c (p q : Option Addr) (n c d : Nat) (U : List Int) (w : World) (hy : IntsAt w (.slice q U.length d) U) (hn : n ≤ 140737488355328) (hU : U.length ≤ 140737488355328) :
    Calls Tryd.prog 48 #[.agg #[.slice p n c, .slice q U.length d]] w (BelowPost n U w) := by
  have hB0 : Below w.heap.size w (w.alloc (.cells #[.slice p n c, .slice q U.length d] 25)) := (Below.refl _ w).alloc (Nat.le_refl _) _
  have b0 := Box2.new w 25 (.slice p n c) (.slice q U.length d)
  obtain ⟨c0, c1, _, _⟩ := b0.cells
  by_cases hln : n = U.length
  · by_cases hle : U.length ≤ 65536
    · have h1 : ((n : Int) != (U.length : Int)) = false := by rw [hln]; simp
      have h2 : decide ((65536 : Int) < (n : Int)) = false := decide_eq_false (by omega)
      have hmk := fun w' => make_rows w' U.length hle (U.length : Int) (U.length : Int) rfl rfl
      have HY := hid hy
      have HLN := hid hln
      clear hln hy
      have hn2 : ¬ (65536 : Int) < (n : Int) := by have := HLN.out; omega
      go_enter Tryd.func48, Tryd.ntmps48
      go_wp2_with fail
      have hm0 : DnMem w ((w.alloc (.cells #[.slice p n c, .slice q U.length d] 25)).alloc (.cells (madeCells #[.slice none 0 0] U.length) 23)) (w.heap.size + 1) U 0 (List.replicate U.length (.slice none 0 0)) (.slice p n c) (.slice q U.length d) := by
        have hr := RowV.made (w.alloc (.cells #[.slice p n c, .slice q U.length d] 25)) U.length
        rw [World.size_alloc] at hr
        refine ⟨by simp, hr, fun j hj => ?_, fun i j hi hj _ => .inl (by rw [List.getElem_replicate]; rfl), b0.alloc _, hB0.alloc hB0.size _, by omega⟩
        rw [List.getElem_replicate]
        exact OwnInts.nil _ _
      clear hmk c0 c1 b0 hB0
      generalize (w.alloc (.cells #[.slice p n c, .slice q U.length d] 25)).alloc (.cells (madeCells #[.slice none 0 0] U.length) 23) = w1 at *
      obtain ⟨gd, hgd⟩ : ∃ gd, gd = w.heap.size + 1 := ⟨_, rfl⟩
      rw [← hgd] at hm0 ⊢
      clear hgd
      go_loopw [2, 3, 28] (fun dv m i wr => ∃ (k : Nat) (r : Int) (vs : List Value), k ≤ U.length ∧ dv = .slice (some ⟨gd, 0, none⟩) U.length U.length ∧ m = .int .i64 r ∧ i = .int .i64 k ∧ Hid (DnMem w wr gd U k vs (.slice p n c) (.slice q U.length d)) ∧ Hid (DnSt U k r)) (fun _ _ i _ => U.length - (intOf i).toNat)
      case atStart => exact ⟨0, -1, _, Nat.zero_le _, rfl, rfl, rfl, hm0, DnSt.start U⟩
      case round =>
        clear hm0
        obtain ⟨k, r, vs, hk, rfl, rfl, rfl, hm, hst⟩ := hrel
        by_cases hkl : k < U.length
        · obtain ⟨b, off, c', e', hbl, hcs⟩ := (HY.out.below hm.out.low).form (by omega)
          injection e' with e1 _ e2
          subst e1; subst e2
          have hc := hcs k hkl
          have hu := upF_nat U k hkl
          have zk : (0 : Int) ≤ (k : Int) ∧ (k : Int) < (U.length : Int) := by omega
          obtain ⟨d0, d1, _, _⟩ := hm.out.tree.cells
          have hlt := hm.out.tree.lt
          have HLOW := hid hm.out.low
          have HBAD := hid (fun h1 h2 => hst.out.bad hkl h1 h2)
          generalize U[k] = u at *
          rw [hu] at HBAD
          by_cases h0 : 0 ≤ u ∧ u < (U.length : Int)
          · obtain ⟨un, rfl⟩ : ∃ un : Nat, u = (un : Int) := ⟨u.toNat, by omega⟩
            have huv : un < vs.length := by rw [hm.out.len]; omega
            have HNX := hid (hst.out.next (by rw [hu]; omega) (by rw [hu]; omega))
            obtain ⟨rc, rf⟩ := hm.out.row.at un huv
            have hgl := hm.out.row.lt
            have hou := hm.out.own un huv
            have HM := hid hm.out
            have HU := hid hu
            obtain ⟨pv, cv, hvs, _⟩ := hou.ints
            have hdl := dnTo_length U k (un : Int)
            have zu : (0 : Int) ≤ (un : Int) ∧ (un : Int) < (U.length : Int) := by omega
            have y1 : ((un : Int) == -1) = false := by rw [beq_eq_false_iff_ne]; omega
            have y2 : ¬ (un : Int) = -1 := by omega
            have HVS := hid hvs
            rw [hvs] at rc hou
            have HOA := hid (hou.alloc (.cells #[.int .i64 (k : Int)] 3))
            have HON := hid (one_int wr (k : Int) 3)
            have hsz : gd + 1 ≤ (wr.alloc (.cells #[.int .i64 (k : Int)] 3)).heap.size := by rw [World.size_alloc]; omega
            have HROW := hid (hm.out.row.same (Below.heap_alloc _ (.cells #[.int .i64 (k : Int)] 3) _ hgl))
            clear hcs hbl hou hvs hu hm hst h0 HBAD
            go_wp2_with (at_builtin; refine wpList_append_I rfl _ _ rfl (gd + 1) _ _ rfl HOA.out _ [(k : Int)] rfl HON.out (by show (dnTo U k (un : Int)).length + 1 ≤ 16777216; omega) hsz ?_; intro v2 w2 hown2 hg2 hv2; have hrow2 := HROW.out.app HOA.out hg2 (by decide); obtain ⟨x0, x1⟩ := hrow2.at un huv; obtain ⟨p2, c2, e2, _⟩ := hown2.ints; subst e2)
            have hpush := HM.out.push HU.out huv (w2 := w2) (by rw [HVS.out]; exact hg2) hown2 (by rw [HVS.out]; exact hv2)
            rw [show (dnTo U k (un : Int) ++ [(k : Int)]).length = (dnTo U k (un : Int)).length + 1 by simp] at hpush
            have HP := hid hpush
            clear hpush hown2 hg2 hv2 hrow2 x0 x1 rc rf d0 d1 hc
            go_roundw
            case rel => exact ⟨k + 1, r, _, by omega, rfl, rfl, by go_num, HP.out, HNX.out⟩
            case measure => simp [intOf]; omega
          · by_cases h3 : u = -1 ∧ r < 0
            · obtain ⟨rfl, hr0⟩ := h3
              have HNX := hid (hst.out.first hr0 hu)
              have HM := hid (hm.out.skip hu)
              clear hcs hbl hu hm hst h0 HBAD
              go_wp2_with fail
              go_roundw
              case rel => exact ⟨k + 1, (k : Int), vs, by omega, rfl, rfl, by go_num, HM.out, HNX.out⟩
              case measure => simp [intOf]; omega
            · have HF := hid (HBAD.out h0 h3)
              clear hcs hbl hu hm hst HBAD
              by_cases h5 : u = -1
              · subst h5
                have hr0 : ¬ r < 0 := fun e => h3 ⟨rfl, e⟩
                clear h3 h0
                go_wp2_with fail
                go_ret3
                exact ⟨⟨_, _, by rw [HLN.out, HF.out]; rfl⟩, HLOW.out⟩
              · have y1 : (u == -1) = false := by simp; exact h5
                by_cases h6 : u < 0
                · clear h3 h0
                  go_wp2_with fail
                  go_ret3
                  exact ⟨⟨_, _, by rw [HLN.out, HF.out]; rfl⟩, HLOW.out⟩
                · have h7 : (U.length : Int) ≤ u := by omega
                  clear h3 h0
                  go_wp2_with fail
                  go_ret3
                  exact ⟨⟨_, _, by rw [HLN.out, HF.out]; rfl⟩, HLOW.out⟩
        · obtain rfl : k = U.length := by omega
          obtain ⟨d0, d1, _, _⟩ := hm.out.tree.cells
          have HLOW := hid hm.out.low
          by_cases hz : U.length = 0
          · have hU0 : U = [] := List.length_eq_zero_iff.1 hz
            have HF := hid (show formedB n U = true from by rw [HLN.out, hU0]; exact formedB_nil)
            have hz1 : ((U.length : Int) == 0) = true := by rw [hz]; rfl
            have hz2 : (U.length : Int) = 0 := by rw [hz]; rfl
            clear hz hU0 hm hst
            go_wp2_with fail
            go_ret3
            exact ⟨⟨_, _, by rw [HF.out]; rfl⟩, HLOW.out⟩
          · have hz1 : ((U.length : Int) == 0) = false := by simp; exact List.length_pos_iff.1 (by omega)
            have hz2 : ¬ (U.length : Int) = 0 := by omega
            have BX : Hid (Box2 wr.drew w.heap.size 25 (.slice p n c) (.slice q U.length d)) := hm.out.tree
            by_cases hr : r < 0
            · have HF := hid (show formedB n U = false from by rw [HLN.out]; exact hst.out.none (by omega) hr)
              have hr1 : ¬ 0 ≤ r := by omega
              clear hm hst
              go_wp2_with fail
              refine Go.Proofs.YtmlecpapoeodkaaDoor.wp_region_L 17 16 (fun w' => Box2 w' (w.heap.size) 25 (.slice p n c) (.slice q U.length d)) (by kernel_rfl) rfl BX.out (fun _ => ?_)
              refine wpAnyL_pure (i := 0) (v := .slice (some ⟨gd, 0, none⟩) U.length U.length) (by simp only [List.getElem?_toArray, List.getElem?_cons_zero] <;> rfl) (by kernel_rfl) (by kernel_rfl) (by kernel_rfl) (by exact fun _ _ _ h => h) (by decide) (.inr BX.out) (Or.inl ⟨by rfl, fun w _ => (by simp [execOp, go_sem, Act.eval])⟩) (fun _ => ?_)
              simp only [Act.put, List.setIfInBounds_toArray, List.set_cons_zero, List.set_cons_succ]
              refine wpAnyL_pure (i := 1) (v := .int .i64 r) (by simp only [List.getElem?_toArray, List.getElem?_cons_zero, List.getElem?_cons_succ] <;> rfl) (by kernel_rfl) (by kernel_rfl) (by kernel_rfl) (by exact fun _ _ _ h => h) (by decide) (.inr BX.out) (Or.inl ⟨by rfl, fun w _ => (by simp [execOp, go_sem, Act.eval])⟩) (fun _ => ?_)
              simp only [Act.put, List.setIfInBounds_toArray, List.set_cons_zero, List.set_cons_succ]
              refine wpAnyL_pure (i := 2) (v := .int .i64 r) (by simp only [List.getElem?_toArray, List.getElem?_cons_zero, List.getElem?_cons_succ] <;> rfl) (by kernel_rfl) (by kernel_rfl) (by kernel_rfl) (by exact fun _ _ _ h => h) (by decide) (.inr BX.out) (Or.inl ⟨by rfl, fun w _ => (by simp [execOp, go_sem, Act.eval])⟩) (fun _ => ?_)
              simp only [Act.put, List.setIfInBounds_toArray, List.set_cons_zero, List.set_cons_succ]
              refine wpAnyL_pure (i := 3) (v := .bool false) (by simp only [List.getElem?_toArray, List.getElem?_cons_zero, List.getElem?_cons_succ] <;> rfl) (by kernel_rfl) (by kernel_rfl) (by kernel_rfl) (by exact fun _ _ _ h => h) (by decide) (.inr BX.out) (Or.inl ⟨by rfl, fun w _ => (by simp [execOp, go_sem, Act.eval, hr1])⟩) (fun _ => ?_)
              simp only [Act.put, List.setIfInBounds_toArray, List.set_cons_zero, List.set_cons_succ]
              refine wpAnyL_pure (i := 4) (v := .bool false) (by simp only [List.getElem?_toArray, List.getElem?_cons_zero, List.getElem?_cons_succ] <;> rfl) (by kernel_rfl) (by kernel_rfl) (by kernel_rfl) (by exact fun _ _ _ h => h) (by decide) (.inr BX.out) (Or.inl ⟨by rfl, fun w _ => (by simp [execOp, go_sem, Act.eval])⟩) (fun _ => ?_)
              simp only [Act.put, List.setIfInBounds_toArray, List.set_cons_zero, List.set_cons_succ]
              refine wpAnyL_pure (i := 5) (v := undef) (by simp only [List.getElem?_toArray, List.getElem?_cons_zero, List.getElem?_cons_succ] <;> rfl) (by kernel_rfl) (by kernel_rfl) (by kernel_rfl) (by exact fun _ _ _ h => h) (by decide) (.inr BX.out) (Or.inr ⟨by rfl, rfl⟩) (fun _ => ?_)
              simp only [Act.put, List.setIfInBounds_toArray, List.set_cons_zero, List.set_cons_succ]
              refine wpAnyL_pure (i := 6) (v := undef) (by simp only [List.getElem?_toArray, List.getElem?_cons_zero, List.getElem?_cons_succ] <;> rfl) (by kernel_rfl) (by kernel_rfl) (by kernel_rfl) (by exact fun _ _ _ h => h) (by decide) (.inr BX.out) (Or.inr ⟨by rfl, rfl⟩) (fun _ => ?_)
              simp only [Act.put, List.setIfInBounds_toArray, List.set_cons_zero, List.set_cons_succ]
              refine wpAnyL_pure (i := 7) (v := undef) (by simp only [List.getElem?_toArray, List.getElem?_cons_zero, List.getElem?_cons_succ] <;> rfl) (by kernel_rfl) (by kernel_rfl) (by kernel_rfl) (by exact fun _ _ _ h => h) (by decide) (.inr BX.out) (Or.inr ⟨by rfl, rfl⟩) (fun _ => ?_)
              simp only [Act.put, List.setIfInBounds_toArray, List.set_cons_zero, List.set_cons_succ]
              refine wpAnyL_pure (i := 8) (v := undef) (by simp only [List.getElem?_toArray, List.getElem?_cons_zero, List.getElem?_cons_succ] <;> rfl) (by kernel_rfl) (by kernel_rfl) (by kernel_rfl) (by exact fun _ _ _ h => h) (by decide) (.inr BX.out) (Or.inr ⟨by rfl, rfl⟩) (fun _ => ?_)
              simp only [Act.put, List.setIfInBounds_toArray, List.set_cons_zero, List.set_cons_succ]
              refine wpAnyL_pure (i := 9) (v := undef) (by simp only [List.getElem?_toArray, List.getElem?_cons_zero, List.getElem?_cons_succ] <;> rfl) (by kernel_rfl) (by kernel_rfl) (by kernel_rfl) (by exact fun _ _ _ h => h) (by decide) (.inr BX.out) (Or.inr ⟨by rfl, rfl⟩) (fun _ => ?_)
              simp only [Act.put, List.setIfInBounds_toArray, List.set_cons_zero, List.set_cons_succ]
              refine wpAnyL_pure (i := 10) (v := undef) (by simp only [List.getElem?_toArray, List.getElem?_cons_zero, List.getElem?_cons_succ] <;> rfl) (by kernel_rfl) (by kernel_rfl) (by kernel_rfl) (by exact fun _ _ _ h => h) (by decide) (.inr BX.out) (Or.inr ⟨by rfl, rfl⟩) (fun _ => ?_)
              simp only [Act.put, List.setIfInBounds_toArray, List.set_cons_zero, List.set_cons_succ]
              refine wpAnyL_pure (i := 11) (v := undef) (by simp only [List.getElem?_toArray, List.getElem?_cons_zero, List.getElem?_cons_succ] <;> rfl) (by kernel_rfl) (by kernel_rfl) (by kernel_rfl) (by exact fun _ _ _ h => h) (by decide) (.inr BX.out) (Or.inr ⟨by rfl, rfl⟩) (fun _ => ?_)
              simp only [Act.put, List.setIfInBounds_toArray, List.set_cons_zero, List.set_cons_succ]
              refine wpAnyL_pure (i := 12) (v := undef) (by simp only [List.getElem?_toArray, List.getElem?_cons_zero, List.getElem?_cons_succ] <;> rfl) (by kernel_rfl) (by kernel_rfl) (by kernel_rfl) (by exact fun _ _ _ h => h) (by decide) (.inr BX.out) (Or.inr ⟨by rfl, rfl⟩) (fun _ => ?_)
              simp only [Act.put, List.setIfInBounds_toArray, List.set_cons_zero, List.set_cons_succ]
              refine wpAnyL_pure (i := 13) (v := .bool false) (by simp only [List.getElem?_toArray, List.getElem?_cons_zero, List.getElem?_cons_succ] <;> rfl) (by kernel_rfl) (by kernel_rfl) (by kernel_rfl) (by exact fun _ _ _ h => h) (by decide) (.inr BX.out) (Or.inl ⟨by rfl, fun w _ => (by simp [execOp, go_sem, Act.eval])⟩) (fun _ => ?_)
              simp only [Act.put, List.setIfInBounds_toArray, List.set_cons_zero, List.set_cons_succ]
              refine wpAnyL_pure (i := 14) (v := .slice (some ⟨gd, 0, none⟩) U.length U.length) (by simp only [List.getElem?_toArray, List.getElem?_cons_zero, List.getElem?_cons_succ] <;> rfl) (by kernel_rfl) (by kernel_rfl) (by kernel_rfl) (by exact fun _ _ _ h => h) (by decide) (.inr BX.out) (Or.inl ⟨by rfl, fun w _ => (by simp [execOp, go_sem, Act.eval])⟩) (fun _ => ?_)
              simp only [Act.put, List.setIfInBounds_toArray, List.set_cons_zero, List.set_cons_succ]
              refine wpAnyL_pure (i := 15) (v := .int .i64 r) (by simp only [List.getElem?_toArray, List.getElem?_cons_zero, List.getElem?_cons_succ] <;> rfl) (by kernel_rfl) (by kernel_rfl) (by kernel_rfl) (by exact fun _ _ _ h => h) (by decide) (.inr BX.out) (Or.inl ⟨by rfl, fun w _ => (by simp [execOp, go_sem, Act.eval])⟩) (fun _ => ?_)
              simp only [Act.put, List.setIfInBounds_toArray, List.set_cons_zero, List.set_cons_succ]
              refine wpAnyL_one (i := 16) (by kernel_rfl) (by simp only [List.getElem?_toArray, List.getElem?_cons_zero, List.getElem?_cons_succ] <;> rfl) (by rfl) ?_
              refine opwp_value (v := .bool false) (w' := wr.drew) (by simp [execOp, go_sem, Act.eval]) ⟨.inl (by kernel_rfl), ?_⟩
              simp only [Act.put, List.setIfInBounds_toArray, List.set_cons_zero, List.set_cons_succ]
              refine wpAnyL_done (by kernel_rfl) ?_ _
              have hB2 := HLOW.out.drew
              go_wp2_with fail
              go_ret3
              exact ⟨⟨_, _, by rw [HF.out]; rfl⟩, hB2⟩
            · obtain ⟨rn, rfl⟩ : ∃ rn : Nat, r = (rn : Int) := ⟨r.toNat, by omega⟩
              obtain ⟨hr1, hr2, hr3, hr4⟩ := hst.out.root.resolve_left (by rintro ⟨e, _⟩; omega)
              have HRE := hid (reach_c p q n c U.length d _ U rn wr.drew ((hm.out.rows rfl U.length).below ((Below.refl _ wr).drew)) hle (by omega) hr3)
              have HRG := hid hst.out.rng
              have HR3 := hid hr3
              have HR4 := hid hr4
              clear hm hst hr4 hr3 hr
              go_wp2_with fail
              refine Go.Proofs.YtmlecpapoeodkaaDoor.wp_region_L 17 16 (fun w' => Box2 w' (w.heap.size) 25 (.slice p n c) (.slice q U.length d)) (by kernel_rfl) rfl BX.out (fun _ => ?_)
              refine wpAnyL_pure (i := 0) (v := .slice (some ⟨gd, 0, none⟩) U.length U.length) (by simp only [List.getElem?_toArray, List.getElem?_cons_zero] <;> rfl) (by kernel_rfl) (by kernel_rfl) (by kernel_rfl) (by exact fun _ _ _ h => h) (by decide) (.inr BX.out) (Or.inl ⟨by rfl, fun w _ => (by simp [execOp, go_sem, Act.eval])⟩) (fun _ => ?_)
              simp only [Act.put, List.setIfInBounds_toArray, List.set_cons_zero, List.set_cons_succ]
              refine wpAnyL_pure (i := 1) (v := .int .i64 (rn : Int)) (by simp only [List.getElem?_toArray, List.getElem?_cons_zero, List.getElem?_cons_succ] <;> rfl) (by kernel_rfl) (by kernel_rfl) (by kernel_rfl) (by exact fun _ _ _ h => h) (by decide) (.inr BX.out) (Or.inl ⟨by rfl, fun w _ => (by simp [execOp, go_sem, Act.eval])⟩) (fun _ => ?_)
              simp only [Act.put, List.setIfInBounds_toArray, List.set_cons_zero, List.set_cons_succ]
              refine wpAnyL_pure (i := 2) (v := .int .i64 (rn : Int)) (by simp only [List.getElem?_toArray, List.getElem?_cons_zero, List.getElem?_cons_succ] <;> rfl) (by kernel_rfl) (by kernel_rfl) (by kernel_rfl) (by exact fun _ _ _ h => h) (by decide) (.inr BX.out) (Or.inl ⟨by rfl, fun w _ => (by simp [execOp, go_sem, Act.eval])⟩) (fun _ => ?_)
              simp only [Act.put, List.setIfInBounds_toArray, List.set_cons_zero, List.set_cons_succ]
              refine wpAnyL_pure (i := 3) (v := .bool true) (by simp only [List.getElem?_toArray, List.getElem?_cons_zero, List.getElem?_cons_succ] <;> rfl) (by kernel_rfl) (by kernel_rfl) (by kernel_rfl) (by exact fun _ _ _ h => h) (by decide) (.inr BX.out) (Or.inl ⟨by rfl, fun w _ => (by simp [execOp, go_sem, Act.eval])⟩) (fun _ => ?_)
              simp only [Act.put, List.setIfInBounds_toArray, List.set_cons_zero, List.set_cons_succ]
              refine wpAnyL_pure (i := 4) (v := .bool true) (by simp only [List.getElem?_toArray, List.getElem?_cons_zero, List.getElem?_cons_succ] <;> rfl) (by kernel_rfl) (by kernel_rfl) (by kernel_rfl) (by exact fun _ _ _ h => h) (by decide) (.inr BX.out) (Or.inl ⟨by rfl, fun w _ => (by simp [execOp, go_sem, Act.eval])⟩) (fun _ => ?_)
              simp only [Act.put, List.setIfInBounds_toArray, List.set_cons_zero, List.set_cons_succ]
              refine wpAnyL_load2 (i := 5) (v := .agg #[.slice p n c, .slice q U.length d]) (by simp only [List.getElem?_toArray, List.getElem?_cons_zero, List.getElem?_cons_succ] <;> rfl) (by kernel_rfl) (by kernel_rfl) (by kernel_rfl) (by exact fun _ _ _ h => h) (by decide) (Waits.one rfl ⟨⟨5, .phase⟩, by simp, rfl, rfl⟩) (by kernel_rfl) (by kernel_rfl) (.inr BX.out) (Or.inl ⟨by rfl, fun w hw => (by have x0 := hw; simp [execOp, go_sem, Act.eval, x0.cells.1, x0.cells.2.1])⟩) (fun _ => ?_)
              simp only [Act.put, List.setIfInBounds_toArray, List.set_cons_zero, List.set_cons_succ]
              refine wpAnyL_pure (i := 6) (v := .slice (some ⟨gd, 0, none⟩) U.length U.length) (by simp only [List.getElem?_toArray, List.getElem?_cons_zero, List.getElem?_cons_succ] <;> rfl) (by kernel_rfl) (by kernel_rfl) (by kernel_rfl) (by exact fun _ _ _ h => h) (by decide) (.inr BX.out) (Or.inl ⟨by rfl, fun w _ => (by simp [execOp, go_sem, Act.eval])⟩) (fun _ => ?_)
              simp only [Act.put, List.setIfInBounds_toArray, List.set_cons_zero, List.set_cons_succ]
              refine wpAnyL_pure (i := 7) (v := .int .i64 (rn : Int)) (by simp only [List.getElem?_toArray, List.getElem?_cons_zero, List.getElem?_cons_succ] <;> rfl) (by kernel_rfl) (by kernel_rfl) (by kernel_rfl) (by exact fun _ _ _ h => h) (by decide) (.inr BX.out) (Or.inl ⟨by rfl, fun w _ => (by simp [execOp, go_sem, Act.eval])⟩) (fun _ => ?_)
              simp only [Act.put, List.setIfInBounds_toArray, List.set_cons_zero, List.set_cons_succ]
              refine wpAnyL_pure (i := 9) (v := .pointer (some ⟨w.heap.size, 1, none⟩)) (by simp only [List.getElem?_toArray, List.getElem?_cons_zero, List.getElem?_cons_succ] <;> rfl) (by kernel_rfl) (by kernel_rfl) (by kernel_rfl) (by exact fun _ _ _ h => h) (by decide) (.inr BX.out) (Or.inl ⟨by rfl, fun w _ => (by simp [execOp, go_sem, Act.eval])⟩) (fun _ => ?_)
              simp only [Act.put, List.setIfInBounds_toArray, List.set_cons_zero, List.set_cons_succ]
              refine wpAnyL_load2 (i := 10) (v := .slice q U.length d) (by simp only [List.getElem?_toArray, List.getElem?_cons_zero, List.getElem?_cons_succ] <;> rfl) (by kernel_rfl) (by kernel_rfl) (by kernel_rfl) (by exact fun _ _ _ h => h) (by decide) (Waits.one rfl ⟨⟨10, .phase⟩, by simp, rfl, rfl⟩) (by kernel_rfl) (by kernel_rfl) (.inr BX.out) (Or.inl ⟨by rfl, fun w hw => (by have x0 := hw; simp [execOp, go_sem, Act.eval, x0.cells.2.1])⟩) (fun _ => ?_)
              simp only [Act.put, List.setIfInBounds_toArray, List.set_cons_zero, List.set_cons_succ]
              refine wpAnyL_pure (i := 11) (v := .int .i64 ((U.length : Nat) : Int)) (by simp only [List.getElem?_toArray, List.getElem?_cons_zero, List.getElem?_cons_succ] <;> rfl) (by kernel_rfl) (by kernel_rfl) (by kernel_rfl) (by exact fun _ _ _ h => h) (by decide) (.inr BX.out) (Or.inl ⟨by rfl, fun w _ => (by simp [go_sem, Act.eval])⟩) (fun _ => ?_)
              simp only [Act.put, List.setIfInBounds_toArray, List.set_cons_zero, List.set_cons_succ]
              refine wpAnyL_one (i := 8) (by kernel_rfl) (by simp only [List.getElem?_toArray, List.getElem?_cons_zero, List.getElem?_cons_succ] <;> rfl) (by rfl) ?_
              refine opwp_call (f := 78) (args := #[.agg #[.slice p n c, .slice q U.length d], .slice (some ⟨gd, 0, none⟩) U.length U.length, .int .i64 (rn : Int)]) (w' := wr.drew) (by simp [go_sem, Act.eval]) ?_
              refine (HRE.out).mono ?_
              rintro e w8 ⟨⟨lr, rfl, hbf⟩, hb8⟩
              have hc1_0 := hid (BX.out.below hb8 BX.out.lt)
              refine .inl ⟨_, rfl, .inr hc1_0.out, ?_⟩
              simp only [Act.put, List.setIfInBounds_toArray, List.set_cons_zero, List.set_cons_succ]
              refine wpAnyL_pure (i := 12) (v := .bool (((lr.length : Nat) : Int) == ((U.length : Nat) : Int))) (by simp only [List.getElem?_toArray, List.getElem?_cons_zero, List.getElem?_cons_succ] <;> rfl) (by kernel_rfl) (by kernel_rfl) (by kernel_rfl) (by exact fun _ _ _ h => h) (by decide) (.inr hc1_0.out) (Or.inl ⟨by rfl, fun w _ => (by simp [execOp, go_sem, Act.eval])⟩) (fun _ => ?_)
              simp only [Act.put, List.setIfInBounds_toArray, List.set_cons_zero, List.set_cons_succ]
              refine wpAnyL_pure (i := 13) (v := .bool (((lr.length : Nat) : Int) == ((U.length : Nat) : Int))) (by simp only [List.getElem?_toArray, List.getElem?_cons_zero, List.getElem?_cons_succ] <;> rfl) (by kernel_rfl) (by kernel_rfl) (by kernel_rfl) (by exact fun _ _ _ h => h) (by decide) (.inr hc1_0.out) (Or.inl ⟨by rfl, fun w _ => (by simp [execOp, go_sem, Act.eval])⟩) (fun _ => ?_)
              simp only [Act.put, List.setIfInBounds_toArray, List.set_cons_zero, List.set_cons_succ]
              refine wpAnyL_pure (i := 14) (v := .slice (some ⟨gd, 0, none⟩) U.length U.length) (by simp only [List.getElem?_toArray, List.getElem?_cons_zero, List.getElem?_cons_succ] <;> rfl) (by kernel_rfl) (by kernel_rfl) (by kernel_rfl) (by exact fun _ _ _ h => h) (by decide) (.inr hc1_0.out) (Or.inl ⟨by rfl, fun w _ => (by simp [execOp, go_sem, Act.eval])⟩) (fun _ => ?_)
              simp only [Act.put, List.setIfInBounds_toArray, List.set_cons_zero, List.set_cons_succ]
              refine wpAnyL_pure (i := 15) (v := .int .i64 (rn : Int)) (by simp only [List.getElem?_toArray, List.getElem?_cons_zero, List.getElem?_cons_succ] <;> rfl) (by kernel_rfl) (by kernel_rfl) (by kernel_rfl) (by exact fun _ _ _ h => h) (by decide) (.inr hc1_0.out) (Or.inl ⟨by rfl, fun w _ => (by simp [execOp, go_sem, Act.eval])⟩) (fun _ => ?_)
              simp only [Act.put, List.setIfInBounds_toArray, List.set_cons_zero, List.set_cons_succ]
              refine wpAnyL_one (i := 16) (by kernel_rfl) (by simp only [List.getElem?_toArray, List.getElem?_cons_zero, List.getElem?_cons_succ] <;> rfl) (by rfl) ?_
              refine opwp_value (v := .bool (((lr.length : Nat) : Int) == ((U.length : Nat) : Int))) (w' := w8) (by simp [execOp, go_sem, Act.eval]) ⟨.inl (by kernel_rfl), ?_⟩
              simp only [Act.put, List.setIfInBounds_toArray, List.set_cons_zero, List.set_cons_succ]
              refine wpAnyL_done (by kernel_rfl) ?_ _
              have hB2 := HLOW.out.drew.trans (hb8.mono HLOW.out.drew.size)
              have HF := hid (show formedB n U = (((lr.length : Nat) : Int) == ((U.length : Nat) : Int)) from by
                rw [HLN.out, hbf.formedB hle HRG.out HR3.out HR4.out, Bool.eq_iff_iff, decide_eq_true_eq, beq_iff_eq]
                omega)
              clear hbf hb8
              go_wp2_with fail
              go_ret3
              exact ⟨⟨_, _, by rw [HF.out]; rfl⟩, hB2⟩
    · have h1 : ((n : Int) != (U.length : Int)) = false := by rw [hln]; simp
      have h2 : (65536 : Int) < (n : Int) := by omega
      have HF := hid (show formedB n U = false from not_formed fun h => by have := h.le; omega)
      clear hln hle hy
      go_enter Tryd.func48, Tryd.ntmps48
      go_wp2_with fail
      go_ret3
      exact ⟨⟨_, _, by rw [HF.out]; rfl⟩, hB0⟩
  · have h1 : ((n : Int) != (U.length : Int)) = true := by simp; omega
    have HF := hid (show formedB n U = false from not_formed fun h => hln h.len.symm)
    clear hln hy
    go_enter Tryd.func48, Tryd.ntmps48
    go_wp2_with fail
    go_ret3
    exact ⟨⟨_, _, by rw [HF.out]; rfl⟩, hB0⟩
end Go.Proofs.YtmlecpapoeodkaaDoor
