/- Walks: the decomposition of an order. -/
import Derived.Test.YtmlecpapoeodkaaDoorWGiven
import Derived.Test.YtmlecpapoeodkaaDoorWOf
namespace Go.Proofs.YtmlecpapoeodkaaDoor
open Go.RowKit
attribute [local go_sem ↓] run_eqlS run_neqS run_eqlS0 run_neqS0

theorem pick_congr {c c' : Int → Int} {l : List Int} (h : ∀ v ∈ l, c v = c' v) : pick c l = pick c' l := by
  have key : ∀ (l : List Int) (b : Int × Int), (∀ v ∈ l, c v = c' v) → l.foldl (pickStep c) b = l.foldl (pickStep c') b := by
    intro l
    induction l with
    | nil => intro b _; rfl
    | cons x l ih =>
      intro b h
      rw [List.foldl_cons, List.foldl_cons]
      have : pickStep c b x = pickStep c' b x := by unfold pickStep; rw [h x List.mem_cons_self]
      rw [this]
      exact ih _ fun v hv => h v (List.mem_cons_of_mem _ hv)
  exact key l _ h
def upPre (g : Gr) (l : List Int) (i : Nat) : Int := if mems (elS g l i (l.getD i 0)) = [] then (i : Int) + 1 else posL l (pick (posL l) (mems (elS g l i (l.getD i 0)))).1
def upsTo (g : Gr) (l : List Int) (k : Nat) : List Int := (List.range k).map (upPre g l)
theorem upsTo_length (g : Gr) (l : List Int) (k : Nat) : (upsTo g l k).length = k := by simp [upsTo]
theorem upsTo_succ (g : Gr) (l : List Int) (k : Nat) : upsTo g l (k + 1) = upsTo g l k ++ [upPre g l k] := by unfold upsTo; rw [List.range_succ, List.map_append]; rfl
theorem upsP_set (g : Gr) (l : List Int) (h : 0 < l.length) : upsP g l = (upsTo g l l.length).set (l.length - 1) (-1) := by
  apply List.ext_getElem
  · simp [upsP, upsTo]
  · intro i a b
    simp only [upsP, upsTo, List.getElem_map, List.getElem_range, List.getElem_set]
    rw [upsP_length] at a
    unfold upAt
    by_cases e : i + 1 = l.length
    · rw [if_pos e, if_pos (by omega)]
    · rw [if_neg e, if_neg (show ¬ l.length - 1 = i by omega)]; rfl
theorem bagsP_take (g : Gr) (l : List Int) (k : Nat) (h : k < l.length) : (bagsP g l).take (k + 1) = (bagsP g l).take k ++ [bagAt g l k] := by
  rw [List.take_succ_eq_append_getElem (by rw [bagsP_length]; exact h)]
  congr 2
  simp [bagsP]
theorem SetVar.kept' {w w' : World} {b : Nat} {s : VS} (h : SetVar w b s) {row : Option Nat} (hg : w.grownBy w' row) (hne : some b ≠ row) : SetVar w' b s := by
  have hl := h.lt
  obtain ⟨T, h⟩ := h; exact ⟨T, (hg.block _ hl hne).trans h⟩
def Box1 (w : World) (b : Nat) (T : TypeId) (x : Value) : Prop := w.heap[b]? = some (.cells #[x] T (0, 0))
theorem Box1.lt {w : World} {b : Nat} {T : TypeId} {x : Value} (h : Box1 w b T x) : b < w.heap.size := (Array.getElem?_eq_some_iff.1 h).1
theorem Box1.cell {w : World} {b : Nat} {T : TypeId} {x : Value} (h : Box1 w b T x) : w.cell? ⟨b, 0, none⟩ = some x := by unfold Box1 at h; simp [World.cell?, h]
theorem Box1.same {w w' : World} {b : Nat} {T : TypeId} {x : Value} (h : Box1 w b T x) (e : w'.heap[b]? = w.heap[b]?) : Box1 w' b T x := e.trans h
theorem Box1.new (w : World) (T : TypeId) (x : Value) : Box1 (w.alloc (.cells #[x] T)) w.heap.size T x := heap_alloc_new w _
/-- What is in memory while the decomposition is made: the rows of neighbours and of places, the tree so far. -/
structure OfMem (w wr : World) (g gp : Nat) (M : List VS) (P : List Int) (vB vU : Value) (B : List VS) (U : List Int) : Prop where
  ord : w.heap.size < g ∧ g < gp
  row : SetRow wr g M
  prow : IntRow wr gp P
  pv : Box1 wr (gp + 1) 23 (.slice (some ⟨gp, 0, none⟩) P.length P.length)
  dv : Box2 wr (gp + 2) 25 vB vU
  own : OwnSets wr (gp + 3) vB B
  ownU : OwnInts wr (gp + 3) vU U
  low : Below w.heap.size w wr
  rv : Box2 wr w.heap.size 25 (.slice none 0 0) (.slice none 0 0)
  sz : gp + 3 ≤ wr.heap.size
section
variable {w wr wr' : World} {g gp : Nat} {M : List VS} {P : List Int} {vB vU : Value} {B : List VS} {U : List Int} (h : OfMem w wr g gp M P vB vU B U)
include h
theorem OfMem.below (hb : Below wr.heap.size wr wr') : OfMem w wr' g gp M P vB vU B U :=
  ⟨h.ord, h.row.below hb h.row.lt, h.prow.below hb h.prow.lt, h.pv.same (hb.block _ h.pv.lt), h.dv.below hb h.dv.lt, h.own.below hb, h.ownU.below hb, h.low.trans (hb.mono h.low.size), h.rv.below hb h.rv.lt, Nat.le_trans h.sz hb.size⟩
theorem OfMem.near (hg : wr.grownBy wr' (some g)) {M' : List VS} (hr : SetRow wr' g M') : OfMem w wr' g gp M' P vB vU B U := by
  have ho := h.ord
  have n1 : ∀ b, b ≠ g → some b ≠ some g := fun b hb e => hb (by simpa using e)
  exact ⟨ho, hr, h.prow.kept hg (n1 _ (by omega)), h.pv.same (hg.block _ h.pv.lt (n1 _ (by omega))), h.dv.kept hg (n1 _ (by omega)), h.own.kept hg (own_far h.own (by intro k e; cases e; omega)), h.ownU.kept hg (own_far h.ownU (by intro k e; cases e; omega)),
    h.low.grown hg h.low.size (by intro k e; cases e; omega), h.rv.kept hg (n1 _ (by omega)), Nat.le_trans h.sz hg.size⟩
theorem OfMem.place (i : Nat) (x : Int) : OfMem w (wr.setCell ⟨gp, i, none⟩ (.int .i64 x)) g gp M (P.set i x) vB vU B U := by
  have ho := h.ord
  have hg : wr.grownBy (wr.setCell ⟨gp, i, none⟩ (.int .i64 x)) (some gp) := ⟨rfl, rfl, rfl, by simp [World.setCell], fun k _ hne => Below.heap_setCell _ _ _ _ (by intro e; exact hne (by rw [e]))⟩
  have n1 : ∀ b, b ≠ gp → some b ≠ some gp := fun b hb e => hb (by simpa using e)
  exact ⟨ho, h.row.kept hg (n1 _ (by omega)), h.prow.store i x, by rw [List.length_set]; exact h.pv.same (hg.block _ h.pv.lt (n1 _ (by omega))), h.dv.kept hg (n1 _ (by omega)), h.own.kept hg (own_far h.own (by intro k e; cases e; omega)), h.ownU.kept hg (own_far h.ownU (by intro k e; cases e; omega)),
    h.low.grown hg h.low.size (by intro k e; cases e; omega), h.rv.kept hg (n1 _ (by omega)), Nat.le_trans h.sz hg.size⟩
/-- The bags are exchanged for new ones that lie above. -/
theorem OfMem.bags {vB' : Value} {B' : List VS} {w2 : World} (hg : wr.grownBy w2 vB.ownBlock) (h1 : OwnSets w2 (gp + 3) vB' B') : OfMem w (w2.setCell ⟨gp + 2, 0, none⟩ vB') g gp M P vB' vU B' U := by
  have ho := h.ord
  have hf : ∀ k, vB.ownBlock = some k → gp + 3 ≤ k := fun k e => (h.own.lt k e).1
  have n1 : ∀ b, b < gp + 3 → some b ≠ vB.ownBlock := fun b hb e => by have := hf b e.symm; omega
  have hg2 : w2.grownBy (w2.setCell ⟨gp + 2, 0, none⟩ vB') (some (gp + 2)) := ⟨rfl, rfl, rfl, by simp [World.setCell], fun k _ hne => Below.heap_setCell _ _ _ _ (by intro e; exact hne (by rw [e]))⟩
  have n2 : ∀ b, b ≠ gp + 2 → some b ≠ some (gp + 2) := fun b hb e => hb (by simpa using e)
  have h2 := h.ownU.kept hg (own_apart h.ownU h.own (by decide))
  exact ⟨ho, (h.row.kept hg (n1 _ (by omega))).kept hg2 (n2 _ (by omega)), (h.prow.kept hg (n1 _ (by omega))).kept hg2 (n2 _ (by omega)),
    (h.pv.same (hg.block _ h.pv.lt (n1 _ (by omega)))).same (hg2.block _ (Nat.lt_of_lt_of_le h.pv.lt hg.size) (n2 _ (by omega))), (h.dv.kept hg (n1 _ (by omega))).set0 vB',
    h1.kept hg2 (own_far h1 (by intro k e; cases e; omega)), h2.kept hg2 (own_far h2 (by intro k e; cases e; omega)), (h.low.grown hg h.low.size (by intro k e; have := hf k e; omega)).setCell (p := ⟨gp + 2, 0, none⟩) (by show w.heap.size ≤ gp + 2; omega) _,
    (h.rv.kept hg (n1 _ (by omega))).kept hg2 (n2 _ (by omega)), by have := h.sz; have := hg.size; have := hg2.size; omega⟩
/-- The indices are exchanged for new ones that lie above. -/
theorem OfMem.ups {vU' : Value} {U' : List Int} {w2 : World} (hg : wr.grownBy w2 vU.ownBlock) (h2 : OwnInts w2 (gp + 3) vU' U') : OfMem w (w2.setCell ⟨gp + 2, 1, none⟩ vU') g gp M P vB vU' B U' := by
  have ho := h.ord
  have hf : ∀ k, vU.ownBlock = some k → gp + 3 ≤ k := fun k e => (h.ownU.lt k e).1
  have n1 : ∀ b, b < gp + 3 → some b ≠ vU.ownBlock := fun b hb e => by have := hf b e.symm; omega
  have hg2 : w2.grownBy (w2.setCell ⟨gp + 2, 1, none⟩ vU') (some (gp + 2)) := ⟨rfl, rfl, rfl, by simp [World.setCell], fun k _ hne => Below.heap_setCell _ _ _ _ (by intro e; exact hne (by rw [e]))⟩
  have n2 : ∀ b, b ≠ gp + 2 → some b ≠ some (gp + 2) := fun b hb e => hb (by simpa using e)
  have h1 := h.own.kept hg (own_apart h.own h.ownU (by decide))
  exact ⟨ho, (h.row.kept hg (n1 _ (by omega))).kept hg2 (n2 _ (by omega)), (h.prow.kept hg (n1 _ (by omega))).kept hg2 (n2 _ (by omega)),
    (h.pv.same (hg.block _ h.pv.lt (n1 _ (by omega)))).same (hg2.block _ (Nat.lt_of_lt_of_le h.pv.lt hg.size) (n2 _ (by omega))), (h.dv.kept hg (n1 _ (by omega))).set1 vU',
    h1.kept hg2 (own_far h1 (by intro k e; cases e; omega)), h2.kept hg2 (own_far h2 (by intro k e; cases e; omega)), (h.low.grown hg h.low.size (by intro k e; have := hf k e; omega)).setCell (p := ⟨gp + 2, 1, none⟩) (by show w.heap.size ≤ gp + 2; omega) _,
    (h.rv.kept hg (n1 _ (by omega))).kept hg2 (n2 _ (by omega)), by have := h.sz; have := hg.size; have := hg2.size; omega⟩
end
/-- What stands ahead of the k-th vertex. -/
structure OfSt (L : List VS) (l : List Int) (k : Nat) (M : List VS) (P : List Int) : Prop where
  mlen : M.length = L.length
  mok : ∀ u : Int, u ∉ l.take k → gOf M u = elS (gOf L) l k u
  plen : P.length = L.length
  pok : ∀ j (h : j < l.length), j < k → upF P l[j] = (j : Int)
  prng : ∀ x ∈ P, 0 ≤ x ∧ x ≤ 1000
theorem OfSt.start (L : List VS) (l : List Int) : OfSt L l 0 L (List.replicate L.length 0) :=
  ⟨rfl, fun u _ => by rw [elS_zero], by simp, fun j h h0 => by omega, fun x hx => by rw [List.mem_replicate] at hx; omega⟩
theorem nodup_inj {l : List Int} (h : l.Nodup) {j k : Nat} (hj : j < l.length) (hk : k < l.length) (e : l[j] = l[k]) : j = k := by
  rw [← h.idxOf_getElem j hj, ← h.idxOf_getElem k hk, e]
theorem OfSt.set {L : List VS} {l : List Int} {k : Nat} {M : List VS} {P : List Int} (h : OfSt L l k M P) (_hV : ValidG L) (hO : IsOrd l (L.length - 1)) (hk : k < l.length) : gOf M (l.getD k 0) = elS (gOf L) l k (l.getD k 0) := by
  apply h.mok
  rw [getD_at l k hk]
  intro hm
  obtain ⟨j, hj, e⟩ := List.mem_iff_getElem.1 hm
  rw [List.length_take] at hj
  rw [List.getElem_take] at e
  have := nodup_inj hO.nodup _ _ e
  omega
theorem OfSt.step {L : List VS} {l : List Int} {k : Nat} {M : List VS} {P : List Int} (h : OfSt L l k M P) (hV : ValidG L) (hO : IsOrd l (L.length - 1)) (hk : k < l.length) {un : Nat} (hun : l[k] = (un : Int)) {s : VS} (hs : gOf M (un : Int) = s) :
    OfSt L l (k + 1) ((mems s).foldl (elStep s (un : Int)) M) (P.set un (k : Int)) := by
  have hle := hV.le
  have hlen := ord_len hV hO
  have hg := h.set hV hO hk
  have hgd : l.getD k 0 = (un : Int) := by rw [getD_at l k hk, hun]
  rw [hgd, hs] at hg
  have hsy := elS_sym hV.sym l k (by omega)
  have hin : ∀ w, has s w = true → 0 ≤ w ∧ w < (L.length : Int) := fun w hw => by
    rw [hg] at hw
    have h1 := (elS_in hV hO (by omega : k ≤ l.length) hw).1
    have := (hO.mem w).1 h1
    omega
  have hul := (hO.mem (un : Int)).1 (by rw [← hun]; exact List.getElem_mem hk)
  refine ⟨by rw [elFold_length, h.mlen], fun u hu => ?_, by rw [List.length_set]; exact h.plen, fun j hj hjk => ?_, fun x hx => ?_⟩
  · rw [mem_take_succ hk, hgd] at hu
    have hu1 : u ∉ l.take k := fun e => hu (.inl e)
    have hu2 : u ≠ (un : Int) := fun e => hu (.inr e)
    rw [elFold_get s (un : Int) (mems s) M (mems_nodup s) (fun w hw => by rw [h.mlen]; exact hin w ((mem_mems _ _).1 hw)), elS_succ _ l k hk, hgd, h.mok u hu1]
    unfold el
    rw [if_neg hu2, ← hg]
    by_cases e : has s u = true
    · rw [if_pos ((mem_mems _ _).2 e), if_pos e]
    · rw [if_neg (fun h => e ((mem_mems _ _).1 h)), if_neg e]
  · have hlj := (hO.mem l[j]).1 (List.getElem_mem hj)
    obtain ⟨jn, hjn⟩ : ∃ jn : Nat, l[j] = (jn : Int) := ⟨(l[j]).toNat, by omega⟩
    have hpl := h.plen
    rw [hjn] at hlj ⊢
    rw [upF_nat _ jn (by rw [List.length_set]; omega), List.getElem_set]
    by_cases e : j = k
    · subst e
      have : un = jn := by have := hun.symm.trans hjn; omega
      rw [if_pos this]
    · have hne : ¬ un = jn := fun e' => e (nodup_inj hO.nodup hj hk (by rw [hjn, hun, e']))
      rw [if_neg hne, ← upF_nat P jn (by omega), ← hjn]
      exact h.pok j hj (by omega)
  · rcases List.mem_or_eq_of_mem_set hx with hx | rfl
    · exact h.prng x hx
    · omega
/-- What Of returns. -/
def OfPost (L : List VS) (l : List Int) (w : World) (e : Ending) (w' : World) : Prop :=
  Below w.heap.size w w' ∧ ((validG L = false ∧ e = .returned (.tuple #[.agg #[.slice none 0 0, .slice none 0 0], .int .i64 1])) ∨
    (ValidG L ∧ ¬ IsOrd l (L.length - 1) ∧ e = .returned (.tuple #[.agg #[.slice none 0 0, .slice none 0 0], .int .i64 5])) ∨
    (ValidG L ∧ IsOrd l (L.length - 1) ∧ ∃ vB vU, e = .returned (.tuple #[.agg #[vB, vU], .int .i64 0]) ∧ OwnSets w' w.heap.size vB (bagsP (gOf L) l) ∧ OwnInts w' w.heap.size vU (upsP (gOf L) l)))
set_option maxRecDepth 100000 in
set_option maxHeartbeats 16000000 in
theorem Of_tree_c (v v2 : Value) (L : List VS) (l : List Int) (w : World) (hI : SetsAt w v L) (hJ : IntsAt w v2 l) (hT : TabAt w) (hL : L.length ≤ 140737488355328) (hl : l.length ≤ 140737488355328) :
    Calls Tryd.prog 13 #[v, v2] w (OfPost L l w) := by
  have hb0 : Below w.heap.size w (w.alloc (.cells #[.slice none 0 0, .slice none 0 0] 25)) := (Below.refl _ w).alloc (Nat.le_refl _) _
  have hr0 := Box2.new w 25 (.slice none 0 0) (.slice none 0 0)
  have HV := hid (wvalid_c v L _ (hI.below hb0) (hT.below hT.lt hb0) hL)
  have HI := hid hI
  have HJ := hid hJ
  obtain ⟨p, c, rfl, hdrop⟩ := id hI
  obtain ⟨p2, c2, rfl, hdrop2⟩ := id hJ
  clear hdrop hdrop2 hI hJ
  cases hv : validG L
  · rw [hv] at HV
    have HN := hid hv
    clear hv
    go_enter Tryd.func13, Tryd.ntmps13
    go_wp2_with fail
    refine HV.out.mono ?_
    rintro e w2 ⟨rfl, hb2⟩
    have hB2 := hb0.trans (hb2.mono hb0.size)
    have hr2 := hr0.below hb2 hr0.lt
    obtain ⟨_, _, f0, f1⟩ := hr2.cells
    obtain ⟨c0, c1, _, _⟩ := hr2.cells
    go_wp2_with fail
    exact bodyPost_ret (results_box_e rfl rfl rfl (hr2.set01 (.slice none 0 0) (.slice none 0 0))) rfl ⟨below_01 hB2 (Nat.le_refl _) _ _, .inl ⟨HN.out, rfl⟩⟩
  · rw [hv] at HV
    have HVL := hid (validG_iff.1 hv)
    have hp := HVL.out.pos
    have hle := HVL.out.le
    have hnn : ((L.length - 1 : Nat) : Int) = (L.length : Int) - 1 := by omega
    clear hv
    by_cases hlen : l.length + 1 = L.length
    · have d1 : ((l.length : Int) != (L.length : Int) - 1) = false := by simp; omega
      by_cases hof : ofL l = allV ((L.length : Int) - 1)
      · have hne : (!(ofL l == allV ((L.length : Int) - 1))) = false := by rw [hof]; simp
        have hio : IsOrd l (L.length - 1) := isOrd_of (by omega) (by omega) (by rw [hnn]; exact hof)
        have HIO := hid hio
        have hll : l.length ≤ 128 := by omega
        have HLEN := hid hlen
        clear hof hio
        go_enter Tryd.func13, Tryd.ntmps13
        go_wp2_with fail
        refine HV.out.mono ?_
        rintro e w2 ⟨rfl, hb2⟩
        have hB2 := hb0.trans (hb2.mono hb0.size)
        have hr2 := hr0.below hb2 hr0.lt
        have HOF := hid (Of_c _ l w2 (HJ.out.below hB2) hl)
        clear hb0 hr0 hb2 HV
        go_wp2_with fail
        refine HOF.out.mono ?_
        rintro e w3 ⟨rfl, hb3⟩
        have hB3 := hB2.trans (hb3.mono hB2.size)
        have hr3 := hr2.below hb3 hr2.lt
        clear hB2 hr2 hb3 HOF
        go_wp2_with fail
        refine (All_c ((L.length : Int) - 1) w3).mono ?_
        rintro e w4 ⟨rfl, hb4⟩
        have hB4 := hB3.trans (hb4.mono hB3.size)
        have hr4 := hr3.below hb4 hr3.lt
        have HI4 := hid (HI.out.below hB4)
        clear hB3 hr3 hb4
        go_wp2_with fail
        refine (Clone_c _ L w4 HI4.out (by intro e; rw [e] at hp; simp at hp) (by omega)).mono ?_
        rintro e w5 ⟨g, cg, rfl, hg, hR5, hb5, hcl, hcm⟩
        have hB5 := hB4.trans (hb5.mono hB4.size)
        have hr5 := hr4.below hb5 hr4.lt
        have hgw : w.heap.size < g := Nat.lt_of_lt_of_le hr4.lt hg
        have hg5 := hR5.lt
        have hmk := fun w' => make_ints w' L.length (by omega) ((L.length : Int) - 1 + 1) ((L.length : Int) - 1 + 1) (by omega) (by omega)
        have hmk2 := fun w' => make_ints w' L.length (by omega) (L.length : Int) (L.length : Int) rfl rfl
        clear hB4 hr4 HI4 hb5 d1 hne hlen
        go_wp2_with fail
        have hm0 : OfMem w (((w5.alloc (.cells (madeCells #[.int .i64 0] L.length) 3)).alloc (.cells #[.slice (some ⟨w5.heap.size, 0, none⟩) L.length L.length] 23)).alloc (.cells #[.slice none 0 0, .slice none 0 0] 25)) g w5.heap.size L (List.replicate L.length 0) (.slice none 0 0) (.slice none 0 0) [] [] := by
          have x2 := Box1.new (w5.alloc (.cells (madeCells #[.int .i64 0] L.length) 3)) 23 (.slice (some ⟨w5.heap.size, 0, none⟩) L.length L.length)
          have x3 := Box2.new ((w5.alloc (.cells (madeCells #[.int .i64 0] L.length) 3)).alloc (.cells #[.slice (some ⟨w5.heap.size, 0, none⟩) L.length L.length] 23)) 25 (.slice none 0 0) (.slice none 0 0)
          rw [World.size_alloc] at x2
          rw [World.size_alloc, World.size_alloc] at x3
          refine ⟨⟨hgw, hg5⟩, ((hR5.alloc _).alloc _).alloc _, ((IntRow.made w5 L.length).alloc _).alloc _, ?_, x3, OwnSets.nil _ _, OwnInts.nil _ _, ((hB5.alloc hB5.size _).alloc (by have := hB5.size; simp; omega) _).alloc (by have := hB5.size; simp; omega) _, ((hr5.alloc _).alloc _).alloc _, by simp⟩
          rw [List.length_replicate]
          exact x2.same (Below.heap_alloc _ _ _ x2.lt)
        generalize ((w5.alloc (.cells (madeCells #[.int .i64 0] L.length) 3)).alloc (.cells #[.slice (some ⟨w5.heap.size, 0, none⟩) L.length L.length] 23)).alloc (.cells #[.slice none 0 0, .slice none 0 0] 25) = w6 at *
        have hgp : g < w5.heap.size := hg5
        have hm0' : OfMem w w6 g w5.heap.size L (List.replicate L.length 0) (.slice none 0 0) (.slice none 0 0) [] [] := hm0
        generalize w5.heap.size = gp at *
        have HM0 := hid hm0'
        clear hmk hmk2 hm0 hm0' hR5 hB5 hr5 hg5
        rw [show gp + 1 + 1 = gp + 2 from rfl]
        have ngp : ¬ g = gp := by omega
        have ngp2 : ¬ gp = g := by omega
        go_loopw [47] (fun i wr => ∃ (k : Nat) (M : List VS) (P : List Int) (vB : Value), k ≤ l.length ∧ i = .int .i64 k ∧ Hid (OfMem w wr g gp M P vB (.slice none 0 0) ((bagsP (gOf L) l).take k) []) ∧ Hid (OfSt L l k M P)) (fun i _ => l.length - (intOf i).toNat)
        case atStart => exact ⟨0, L, _, _, Nat.zero_le _, rfl, HM0.out, OfSt.start L l⟩
        case round =>
          obtain ⟨k, M, P, vB, hk, rfl, hm, hst⟩ := hrel
          by_cases hkl : k < l.length
          · obtain ⟨b, off, c', e', hbl, hcs⟩ := HJ.out.form (by omega)
            injection e' with e1 _ e2
            subst e1; subst e2
            have hc := (hm.out.low.cell (cell_lt (hcs k hkl))).trans (hcs k hkl)
            have hrg := (HIO.out.mem l[k]).1 (List.getElem_mem hkl)
            have HUN := hid (show ∃ un : Nat, l[k] = (un : Int) from ⟨(l[k]).toNat, by omega⟩)
            obtain ⟨un, hun⟩ := HUN.out
            clear HUN
            have HLK := hid hun
            rw [hun] at hc hrg
            have hul : un < L.length := by omega
            have zu : (0 : Int) ≤ (un : Int) ∧ (un : Int) < (L.length : Int) := by omega
            have zk : (0 : Int) ≤ (k : Int) ∧ (k : Int) < (l.length : Int) := by omega
            have hpl := hst.out.plen
            have cp := hm.out.pv.cell
            rw [hpl] at cp
            obtain ⟨pc, pf⟩ := hm.out.prow.at un (by rw [hpl]; exact hul)
            obtain ⟨s, hs, q0, q1, _, _⟩ := hm.out.row.get un (by rw [hst.out.mlen]; exact hul)
            have HS := hid hs
            have hgl := hm.out.row.lt
            have hgpl := hm.out.prow.lt
            have hgp1 := hm.out.pv.lt
            have hm1 := (hm.out.place un (k : Int)).below ((Below.refl _ _).alloc (Nat.le_refl _) (.cells #[.int .u64 ((lw s).toNat : Int), .int .u64 ((hw s).toNat : Int)] 32))
            have hv1 := SetVar.new (wr.setCell ⟨gp, un, none⟩ (.int .i64 (k : Int))) s 32
            have hsz : (wr.setCell ⟨gp, un, none⟩ (.int .i64 (k : Int))).heap.size = wr.heap.size := by simp [World.setCell]
            rw [hsz] at hv1
            have HM1 := hid hm1
            have HV1 := hid hv1
            clear hun hs hm1 hv1
            go_wp2_with fail
            generalize (wr.setCell ⟨gp, un, none⟩ (.int .i64 (k : Int))).alloc (.cells #[.int .u64 ((lw s).toNat : Int), .int .u64 ((hw s).toNat : Int)] 32) = w7 at *
            have hfar : ∀ x, vB.ownBlock = some x → x < wr.heap.size := fun x e => (hm.out.own.lt x e).2
            have hsz := hm.out.sz
            have HFAR := hid hfar
            have HSTEP := hid (hst.out.step HVL.out HIO.out hkl HLK.out HS.out)
            have HBAG := hid (bagsP_take (gOf L) l k hkl)
            have hbg : bagAt (gOf L) l k = withV s (un : Int) := by
              have h1 := hst.out.set HVL.out HIO.out hkl
              unfold bagAt
              rw [← h1, getD_at l k hkl, HLK.out, HS.out]
            rw [hbg] at HBAG
            have hml : M.length = L.length := hst.out.mlen
            have hst1 := hid (show ∀ x, has s x = true → x < (L.length : Int) from fun x hx => by
              have h1 := hst.out.set HVL.out HIO.out hkl
              rw [getD_at l k hkl, HLK.out, HS.out] at h1
              rw [h1] at hx
              have h2 := (elS_in HVL.out HIO.out (Nat.le_of_lt hkl) hx).1
              have h3 := (HIO.out.mem x).1 h2
              omega)
            generalize wr.heap.size = ps at *
            have DV : Hid (Box2 w7.drew (gp + 2) 25 vB (.slice none 0 0)) := HM1.out.dv
            have SV : Hid (SetVar w7.drew ps s) := HV1.out
            have HBD := hid (HM1.out.low.drew)
            clear hbg hc pc pf q0 q1 cp hbl hcs hfar hm hst
            refine Go.Proofs.YtmlecpapoeodkaaDoor.wp_region_L 9 6 (fun w' => Box2 w' (gp + 2) 25 (vB) (.slice none 0 0) ∧ SetVar w' (ps) (s)) (by kernel_rfl) rfl ⟨DV.out, SV.out⟩ (fun _ => ?_)
            refine wpAnyL_pure (i := 0) (v := .pointer (some ⟨gp + 2, 0, none⟩)) (by simp only [List.getElem?_toArray, List.getElem?_cons_zero] <;> rfl) (by kernel_rfl) (by kernel_rfl) (by kernel_rfl) (by exact fun _ _ _ h => h) (by decide) (.inr ⟨DV.out, SV.out⟩) (Or.inl ⟨by rfl, fun w _ => (by simp [execOp, go_sem, Act.eval])⟩) (fun _ => ?_)
            simp only [Act.put, List.setIfInBounds_toArray, List.set_cons_zero, List.set_cons_succ]
            refine wpAnyL_load2 (i := 1) (v := vB) (by simp only [List.getElem?_toArray, List.getElem?_cons_zero, List.getElem?_cons_succ] <;> rfl) (by kernel_rfl) (by kernel_rfl) (by kernel_rfl) (by exact fun _ _ _ h => h) (by decide) (Waits.one rfl ⟨⟨1, .data⟩, by simp, rfl, rfl⟩) (by kernel_rfl) (by kernel_rfl) (.inr ⟨DV.out, SV.out⟩) (Or.inl ⟨by rfl, fun w hw => (by obtain ⟨x0, _⟩ := hw; simp [execOp, go_sem, Act.eval, x0.cells.1])⟩) (fun _ => ?_)
            simp only [Act.put, List.setIfInBounds_toArray, List.set_cons_zero, List.set_cons_succ]
            refine wpAnyL_load2 (i := 2) (v := encS s) (by simp only [List.getElem?_toArray, List.getElem?_cons_zero, List.getElem?_cons_succ] <;> rfl) (by kernel_rfl) (by kernel_rfl) (by kernel_rfl) (by exact fun _ _ _ h => h) (by decide) (Waits.more (j := 4) rfl ⟨⟨4, .chain⟩, by simp, rfl, rfl⟩ (Waits.one rfl ⟨⟨2, .data⟩, by simp, rfl, rfl⟩)) (by kernel_rfl) (by kernel_rfl) (.inr ⟨DV.out, SV.out⟩) (Or.inl ⟨by rfl, fun w hw => (by obtain ⟨_, x1⟩ := hw; simp [execOp, go_sem, Act.eval, x1.cells.1, x1.cells.2.1])⟩) (fun _ => ?_)
            simp only [Act.put, List.setIfInBounds_toArray, List.set_cons_zero, List.set_cons_succ]
            refine wpAnyL_pure (i := 3) (v := .int .i64 (un : Int)) (by simp only [List.getElem?_toArray, List.getElem?_cons_zero, List.getElem?_cons_succ] <;> rfl) (by kernel_rfl) (by kernel_rfl) (by kernel_rfl) (by exact fun _ _ _ h => h) (by decide) (.inr ⟨DV.out, SV.out⟩) (Or.inl ⟨by rfl, fun w _ => (by simp [execOp, go_sem, Act.eval])⟩) (fun _ => ?_)
            simp only [Act.put, List.setIfInBounds_toArray, List.set_cons_zero, List.set_cons_succ]
            refine wpAnyL_one (i := 4) (by kernel_rfl) (by simp only [List.getElem?_toArray, List.getElem?_cons_zero, List.getElem?_cons_succ] <;> rfl) (by rfl) ?_
            refine opwp_call (f := 32) (args := #[encS s, .int .i64 (un : Int)]) (w' := w7.drew) (by simp [go_sem, Act.eval]) ?_
            refine (With_c s (un : Int) w7.drew).mono ?_
            rintro e w8 ⟨rfl, hb8⟩
            have hc1_0 := hid (DV.out.below hb8 DV.out.lt)
            have hc1_1 := hid (SV.out.below hb8 SV.out.lt)
            refine .inl ⟨_, rfl, .inr ⟨hc1_0.out, hc1_1.out⟩, ?_⟩
            simp only [Act.put, List.setIfInBounds_toArray, List.set_cons_zero, List.set_cons_succ]
            have HM2 := hid ((HM1.out.below ((Below.refl _ w7).drew)).below hb8 |>.below ((Below.refl _ w8).alloc (Nat.le_refl _) (.cells #[.int .u64 ((lw (withV s (un : Int))).toNat : Int), .int .u64 ((hw (withV s (un : Int))).toNat : Int)] 32)))
            have fk1_0 : Hid (Box2 (w8.alloc (.cells #[.int .u64 ((lw (withV s (un : Int))).toNat : Int), .int .u64 ((hw (withV s (un : Int))).toNat : Int)] 32)) (gp + 2) 25 (vB) (.slice none 0 0)) := hc1_0.out.alloc _
            have fk1_1 : Hid (SetVar (w8.alloc (.cells #[.int .u64 ((lw (withV s (un : Int))).toNat : Int), .int .u64 ((hw (withV s (un : Int))).toNat : Int)] 32)) (ps) (s)) := hc1_1.out.alloc _
            refine wpAnyL_one (i := 5) (by kernel_rfl) (by simp only [List.getElem?_toArray, List.getElem?_cons_zero, List.getElem?_cons_succ] <;> rfl) (by rfl) ?_
            refine opwp_value (v := .slice (some ⟨w8.heap.size, 0, none⟩) 1 1) (w' := (w8.alloc (.cells #[.int .u64 ((lw (withV s (un : Int))).toNat : Int), .int .u64 ((hw (withV s (un : Int))).toNat : Int)] 32))) (by simp [execOp, go_sem, Act.eval]) ⟨.inr ⟨fk1_0.out, fk1_1.out⟩, ?_⟩
            simp only [Act.put, List.setIfInBounds_toArray, List.set_cons_zero, List.set_cons_succ]
            refine wpAnyL_one (i := 6) (by kernel_rfl) (by simp only [List.getElem?_toArray, List.getElem?_cons_zero, List.getElem?_cons_succ] <;> rfl) (by rfl) ?_
            refine opwp_append_S _ _ rfl (gp + 3) vB _ rfl HM2.out.own _ [withV s (un : Int)] rfl (one_set w8 (withV s (un : Int))) (by rw [List.length_take, bagsP_length]; show min k l.length + 1 ≤ 16777216; omega) HM2.out.sz ?_
            intro vB2 w9 hown9 hg9 _
            rw [← HBAG.out] at hown9
            have SV9 := hid ((fk1_1.out : SetVar _ _ _).kept' hg9 (fun e => Nat.lt_irrefl _ (HFAR.out _ e.symm)))
            have DV9 := hid (fk1_0.out.kept hg9 (fun e => by have := (HM2.out.own.lt _ e.symm).1; omega))
            obtain ⟨p9, c9, e9, _⟩ := hown9.sets
            subst e9
            refine ⟨.inl (by kernel_rfl), ?_⟩
            simp only [Act.put, List.setIfInBounds_toArray, List.set_cons_zero, List.set_cons_succ]
            refine wpAnyL_pure (i := 7) (v := .pointer (some ⟨gp + 2, 0, none⟩)) (by simp only [List.getElem?_toArray, List.getElem?_cons_zero, List.getElem?_cons_succ] <;> rfl) (by kernel_rfl) (by kernel_rfl) (by kernel_rfl) (by exact fun _ _ _ h => h) (by decide) (.inl (by kernel_rfl)) (Or.inl ⟨by rfl, fun w _ => (by simp [execOp, go_sem, Act.eval])⟩) (fun _ => ?_)
            simp only [Act.put, List.setIfInBounds_toArray, List.set_cons_zero, List.set_cons_succ]
            obtain ⟨y0, _, y2, _⟩ := DV9.out.cells
            refine wpAnyL_one (i := 8) (by kernel_rfl) (by simp only [List.getElem?_toArray, List.getElem?_cons_zero, List.getElem?_cons_succ] <;> rfl) (by rfl) ?_
            refine opwp_skip (w' := (w9.setCell ⟨gp + 2, 0, none⟩ (.slice p9 ((bagsP (gOf L) l).take (k + 1)).length c9))) (by simp [execOp, go_sem, Act.eval, y0, y2]) ⟨.inl (by kernel_rfl), ?_⟩
            simp only [Act.put]
            refine wpAnyL_done (by kernel_rfl) ?_ _
            have HM3 := hid (HM2.out.bags hg9 hown9)
            have SV3 := hid (SV9.out.other (a := ⟨gp + 2, 0, none⟩) (by show ps ≠ gp + 2; omega) (.slice p9 ((bagsP (gOf L) l).take (k + 1)).length c9))
            generalize w9.setCell ⟨gp + 2, 0, none⟩ (.slice p9 ((bagsP (gOf L) l).take (k + 1)).length c9) = w10 at *
            obtain ⟨n0, n1, _, _⟩ := SV3.out.cells
            have HL := hid (List_c s w10 (hT.below hT.lt HM3.out.low))
            clear y0 y2 hg9 hown9 HM1 HM2 HV1 DV SV HBD DV9 SV9 hb8
            go_wp2_with fail
            refine HL.out.mono ?_
            rintro e w11 ⟨v11, rfl, hn11, hb11⟩
            have HM4 := hid (HM3.out.below hb11)
            have SV4 := hid (SV3.out.below hb11 SV3.out.lt)
            have hsz10 := HM3.out.sz
            have hro10 := HM3.out.row.lt
            obtain ⟨pm, cm, e4, hmm⟩ := hn11.ints
            subst e4
            have hfarm : ∀ x n c', Value.slice pm (mems s).length cm = .slice (some x) n c' → x.block ≠ g := fun x n c' e => by
              have := (World.ownsRow.lt hn11.1 x.block (by rw [e]; rfl)).1
              omega
            have HFARM := hid hfarm
            have HMM := hid hmm
            have hmlen := mems_length s
            clear hmm hn11 hb11 n0 n1 HL HM3 SV3 hfarm
            go_wp2_with fail
            have hro := HM4.out.row
            go_loopw [71] (fun i wq => ∃ (j : Nat) (N : List VS), j ≤ (mems s).length ∧ i = .int .i64 j ∧ Hid (N = ((mems s).take j).foldl (elStep s (un : Int)) M) ∧ SetRow wq g N ∧ w11.grownBy wq (some g)) (fun i _ => (mems s).length - (intOf i).toNat)
            case atStart => exact ⟨0, M, Nat.zero_le _, rfl, rfl, hro, World.grownBy.refl _ _⟩
            case round =>
              clear hro
              obtain ⟨j, N, hj, rfl, hN, hro, hgr⟩ := hrel
              have HMq := hid (HM4.out.near hgr hro)
              have SVq := hid (SV4.out.kept' hgr (fun e => by have h1 := HM4.out.sz; have h2 := Option.some.inj e; omega))
              by_cases hjl : j < (mems s).length
              · obtain ⟨bm, om, rfl, hmm⟩ := HMM.out.resolve_left (by intro e; rw [e] at hjl; simp at hjl)
                have hc := hmm j hjl
                rw [List.getElem?_eq_getElem hjl, Option.getD_some] at hc
                have hc2 := (World.cell?_of_block (w := w11) (hgr.block bm (cell_lt hc) (by simpa using HFARM.out _ _ _ rfl))).trans hc
                have hmem : has s (mems s)[j] = true := (mem_mems _ _).1 (List.getElem_mem hjl)
                have hrgm := has_range hmem
                have hin : (mems s)[j] < (L.length : Int) := by
                  have h1 := hst1.out
                  have := h1 _ hmem
                  omega
                obtain ⟨u2, hu2⟩ : ∃ u2 : Nat, (mems s)[j] = (u2 : Int) := ⟨((mems s)[j]).toNat, by omega⟩
                have HTK := hid (List.take_succ_eq_append_getElem hjl)
                rw [hu2] at hc2 hrgm hin HTK
                have hu2l : u2 < L.length := by omega
                have zj : (0 : Int) ≤ (j : Int) ∧ (j : Int) < ((mems s).length : Int) := by omega
                have zu2 : (0 : Int) ≤ (u2 : Int) ∧ (u2 : Int) < (L.length : Int) := by omega
                have hNl : N.length = L.length := by rw [hN.out, elFold_length]; exact hml
                obtain ⟨t, ht, r0, r1, _, _⟩ := hro.get u2 (by rw [hNl]; exact hu2l)
                have HT := hid ht
                have RT : Hid (wr.drew.cell? ⟨g, u2 * 2, none⟩ = some (.int .u64 ((lw t).toNat : Int)) ∧ wr.drew.cell? ⟨g, u2 * 2 + 1, none⟩ = some (.int .u64 ((hw t).toNat : Int))) := ⟨r0, r1⟩
                have SVd : Hid (SetVar wr.drew ps s) := SVq.out
                have HRO := hid hro
                have HGR := hid hgr
                clear hmm hc hrgm hin hu2 hmem r0 r1 ht hro hgr
                go_wp2_with fail
                refine Go.Proofs.YtmlecpapoeodkaaDoor.wp_region_L 14 7 (fun w' => (w'.cell? ⟨g, u2 * 2, none⟩ = some (.int .u64 ((lw (t)).toNat : Int)) ∧ w'.cell? ⟨g, u2 * 2 + 1, none⟩ = some (.int .u64 ((hw (t)).toNat : Int))) ∧ SetVar w' (ps) (s)) (by kernel_rfl) rfl ⟨RT.out, SVd.out⟩ (fun _ => ?_)
                refine wpAnyL_pure (i := 0) (v := .slice (some ⟨g, 0, none⟩) L.length cg) (by simp only [List.getElem?_toArray, List.getElem?_cons_zero] <;> rfl) (by kernel_rfl) (by kernel_rfl) (by kernel_rfl) (by exact fun _ _ _ h => h) (by decide) (.inr ⟨RT.out, SVd.out⟩) (Or.inl ⟨by rfl, fun w _ => (by simp [execOp, go_sem, Act.eval])⟩) (fun _ => ?_)
                simp only [Act.put, List.setIfInBounds_toArray, List.set_cons_zero, List.set_cons_succ]
                refine wpAnyL_pure (i := 1) (v := .int .i64 (u2 : Int)) (by simp only [List.getElem?_toArray, List.getElem?_cons_zero, List.getElem?_cons_succ] <;> rfl) (by kernel_rfl) (by kernel_rfl) (by kernel_rfl) (by exact fun _ _ _ h => h) (by decide) (.inr ⟨RT.out, SVd.out⟩) (Or.inl ⟨by rfl, fun w _ => (by simp [execOp, go_sem, Act.eval])⟩) (fun _ => ?_)
                simp only [Act.put, List.setIfInBounds_toArray, List.set_cons_zero, List.set_cons_succ]
                refine wpAnyL_pure (i := 2) (v := .slice (some ⟨g, 0, none⟩) L.length cg) (by simp only [List.getElem?_toArray, List.getElem?_cons_zero, List.getElem?_cons_succ] <;> rfl) (by kernel_rfl) (by kernel_rfl) (by kernel_rfl) (by exact fun _ _ _ h => h) (by decide) (.inr ⟨RT.out, SVd.out⟩) (Or.inl ⟨by rfl, fun w _ => (by simp [execOp, go_sem, Act.eval])⟩) (fun _ => ?_)
                simp only [Act.put, List.setIfInBounds_toArray, List.set_cons_zero, List.set_cons_succ]
                refine wpAnyL_pure (i := 3) (v := .int .i64 (u2 : Int)) (by simp only [List.getElem?_toArray, List.getElem?_cons_zero, List.getElem?_cons_succ] <;> rfl) (by kernel_rfl) (by kernel_rfl) (by kernel_rfl) (by exact fun _ _ _ h => h) (by decide) (.inr ⟨RT.out, SVd.out⟩) (Or.inl ⟨by rfl, fun w _ => (by simp [execOp, go_sem, Act.eval])⟩) (fun _ => ?_)
                simp only [Act.put, List.setIfInBounds_toArray, List.set_cons_zero, List.set_cons_succ]
                refine wpAnyL_pure (i := 4) (v := .pointer (some ⟨g, u2 * 2, none⟩)) (by simp only [List.getElem?_toArray, List.getElem?_cons_zero, List.getElem?_cons_succ] <;> rfl) (by kernel_rfl) (by kernel_rfl) (by kernel_rfl) (by exact fun _ _ _ h => h) (by decide) (.inr ⟨RT.out, SVd.out⟩) (Or.inl ⟨by rfl, fun w _ => (by simp [execOp, go_sem, Act.eval, zu2])⟩) (fun _ => ?_)
                simp only [Act.put, List.setIfInBounds_toArray, List.set_cons_zero, List.set_cons_succ]
                refine wpAnyL_load2 (i := 5) (v := encS (t)) (by simp only [List.getElem?_toArray, List.getElem?_cons_zero, List.getElem?_cons_succ] <;> rfl) (by kernel_rfl) (by kernel_rfl) (by kernel_rfl) (by exact fun _ _ _ h => h) (by decide) (Waits.one rfl ⟨⟨5, .data⟩, by simp, rfl, rfl⟩) (by kernel_rfl) (by kernel_rfl) (.inr ⟨RT.out, SVd.out⟩) (Or.inl ⟨by rfl, fun w hw => (by obtain ⟨⟨y0, z0⟩, _⟩ := hw; simp [execOp, go_sem, Act.eval, y0, z0])⟩) (fun _ => ?_)
                simp only [Act.put, List.setIfInBounds_toArray, List.set_cons_zero, List.set_cons_succ]
                refine wpAnyL_load2 (i := 6) (v := encS s) (by simp only [List.getElem?_toArray, List.getElem?_cons_zero, List.getElem?_cons_succ] <;> rfl) (by kernel_rfl) (by kernel_rfl) (by kernel_rfl) (by exact fun _ _ _ h => h) (by decide) (Waits.one rfl ⟨⟨6, .data⟩, by simp, rfl, rfl⟩) (by kernel_rfl) (by kernel_rfl) (.inr ⟨RT.out, SVd.out⟩) (Or.inl ⟨by rfl, fun w hw => (by obtain ⟨_, x1⟩ := hw; simp [execOp, go_sem, Act.eval, x1.cells.1, x1.cells.2.1])⟩) (fun _ => ?_)
                simp only [Act.put, List.setIfInBounds_toArray, List.set_cons_zero, List.set_cons_succ]
                refine wpAnyL_pure (i := 8) (v := .int .i64 (u2 : Int)) (by simp only [List.getElem?_toArray, List.getElem?_cons_zero, List.getElem?_cons_succ] <;> rfl) (by kernel_rfl) (by kernel_rfl) (by kernel_rfl) (by exact fun _ _ _ h => h) (by decide) (.inr ⟨RT.out, SVd.out⟩) (Or.inl ⟨by rfl, fun w _ => (by simp [execOp, go_sem, Act.eval])⟩) (fun _ => ?_)
                simp only [Act.put, List.setIfInBounds_toArray, List.set_cons_zero, List.set_cons_succ]
                refine wpAnyL_pure (i := 10) (v := .int .i64 (un : Int)) (by simp only [List.getElem?_toArray, List.getElem?_cons_zero, List.getElem?_cons_succ] <;> rfl) (by kernel_rfl) (by kernel_rfl) (by kernel_rfl) (by exact fun _ _ _ h => h) (by decide) (.inr ⟨RT.out, SVd.out⟩) (Or.inl ⟨by rfl, fun w _ => (by simp [execOp, go_sem, Act.eval])⟩) (fun _ => ?_)
                simp only [Act.put, List.setIfInBounds_toArray, List.set_cons_zero, List.set_cons_succ]
                refine wpAnyL_one (i := 7) (by kernel_rfl) (by simp only [List.getElem?_toArray, List.getElem?_cons_zero, List.getElem?_cons_succ] <;> rfl) (by rfl) ?_
                refine opwp_call (f := 41) (args := #[encS (t), encS s]) (w' := wr.drew) (by simp [go_sem, Act.eval]) ?_
                refine (Union_c t s wr.drew).mono ?_
                rintro e w12 ⟨rfl, hb12⟩
                refine .inl ⟨_, rfl, .inl (by kernel_rfl), ?_⟩
                simp only [Act.put, List.setIfInBounds_toArray, List.set_cons_zero, List.set_cons_succ]
                refine wpAnyL_one (i := 9) (by kernel_rfl) (by simp only [List.getElem?_toArray, List.getElem?_cons_zero, List.getElem?_cons_succ] <;> rfl) (by rfl) ?_
                refine opwp_call (f := 35) (args := #[encS (t ||| s), .int .i64 (u2 : Int)]) (w' := w12) (by simp [go_sem, Act.eval]) ?_
                refine (Without_c (t ||| s) (u2 : Int) w12).mono ?_
                rintro e w13 ⟨rfl, hb13⟩
                refine .inl ⟨_, rfl, .inl (by kernel_rfl), ?_⟩
                simp only [Act.put, List.setIfInBounds_toArray, List.set_cons_zero, List.set_cons_succ]
                refine wpAnyL_one (i := 11) (by kernel_rfl) (by simp only [List.getElem?_toArray, List.getElem?_cons_zero, List.getElem?_cons_succ] <;> rfl) (by rfl) ?_
                refine opwp_call (f := 35) (args := #[encS (withoutV (t ||| s) (u2 : Int)), .int .i64 (un : Int)]) (w' := w13) (by simp [go_sem, Act.eval]) ?_
                refine (Without_c (withoutV (t ||| s) (u2 : Int)) (un : Int) w13).mono ?_
                rintro e w14 ⟨rfl, hb14⟩
                refine .inl ⟨_, rfl, .inl (by kernel_rfl), ?_⟩
                simp only [Act.put, List.setIfInBounds_toArray, List.set_cons_zero, List.set_cons_succ]
                refine wpAnyL_pure (i := 12) (v := .pointer (some ⟨g, u2 * 2, none⟩)) (by simp only [List.getElem?_toArray, List.getElem?_cons_zero, List.getElem?_cons_succ] <;> rfl) (by kernel_rfl) (by kernel_rfl) (by kernel_rfl) (by exact fun _ _ _ h => h) (by decide) (.inl (by kernel_rfl)) (Or.inl ⟨by rfl, fun w _ => (by simp [execOp, go_sem, Act.eval, zu2])⟩) (fun _ => ?_)
                simp only [Act.put, List.setIfInBounds_toArray, List.set_cons_zero, List.set_cons_succ]
                have hbb := (((Below.refl _ wr).drew.trans hb12).trans (hb13.mono hb12.size)).trans (hb14.mono (Nat.le_trans hb12.size hb13.size))
                have hro14 := HRO.out.same (hbb.block g HRO.out.lt)
                obtain ⟨t2, ht2, y0, y1, y2, y3⟩ := hro14.get u2 (by rw [hNl]; exact hu2l)
                refine wpAnyL_one (i := 13) (by kernel_rfl) (by simp only [List.getElem?_toArray, List.getElem?_cons_zero, List.getElem?_cons_succ] <;> rfl) (by rfl) ?_
                refine opwp_skip (w' := ((w14.setCell ⟨g, u2 * 2, none⟩ (.int .u64 ((lw (withoutV (withoutV (t ||| s) (u2 : Int)) (un : Int))).toNat : Int))).setCell ⟨g, u2 * 2 + 1, none⟩ (.int .u64 ((hw (withoutV (withoutV (t ||| s) (u2 : Int)) (un : Int))).toNat : Int)))) (by simp [execOp, go_sem, Act.eval, y0, y1, y2, y3]) ⟨.inl (by kernel_rfl), ?_⟩
                simp only [Act.put]
                refine wpAnyL_done (by kernel_rfl) ?_ _
                have hrow := hro14.store u2 (by rw [hNl]; exact hu2l) (withoutV (withoutV (t ||| s) (u2 : Int)) (un : Int))
                have hst2 : N.set u2 (withoutV (withoutV (t ||| s) (u2 : Int)) (un : Int)) = ((mems s).take (j + 1)).foldl (elStep s (un : Int)) M := by
                  rw [HTK.out, List.foldl_append, ← hN.out]
                  show _ = elStep s (un : Int) N (u2 : Int)
                  unfold elStep
                  rw [HT.out, Int.toNat_natCast]
                have HST2 := hid hst2
                have hgr2 := grownBy_then (grownBy_then HGR.out (grownBy_of_below' hbb _)) (grownBy_set2 w14 g (u2 * 2) (u2 * 2 + 1) (.int .u64 ((lw (withoutV (withoutV (t ||| s) (u2 : Int)) (un : Int))).toNat : Int)) (.int .u64 ((hw (withoutV (withoutV (t ||| s) (u2 : Int)) (un : Int))).toNat : Int)))
                have HR2 := hid hrow
                have HG2 := hid hgr2
                clear hrow hgr2 hst2 hro14 y0 y1 y2 y3 hbb hb12 hb13 hb14 ht2
                go_wp2_with fail
                go_roundw
                case rel => exact ⟨j + 1, _, by omega, by go_num, HST2.out, HR2.out, HG2.out⟩
                case measure => simp [intOf]; omega
              · obtain rfl : j = (mems s).length := by omega
                have hNN := hN.out
                rw [List.take_length] at hNN
                subst hNN
                go_wp2_with fail
                go_roundw
                case rel => exact ⟨k + 1, _, _, _, by omega, by go_num, HMq.out, HSTEP.out⟩
                case measure => simp [intOf]; omega
          · obtain rfl : k = l.length := by omega
            have hm2 := hm.out
            rw [List.take_of_length_le (by rw [bagsP_length]; exact Nat.le_refl _)] at hm2
            have HMB := hid hm2
            have hpl := hst.out.plen
            have hpo := hid (show ∀ x, x ∈ l → upF P x = posL l x from fun x hx => by
              have h1 := List.idxOf_lt_length_of_mem hx
              have h2 : l[l.idxOf x] = x := List.getElem_idxOf h1
              have h3 := hst.out.pok (l.idxOf x) h1 h1
              rw [h2] at h3
              exact h3)
            have HPR := hid (fun x (hx : x ∈ P) => (⟨(hst.out.prng x hx).1, by have := (hst.out.prng x hx).2; omega⟩ : 0 ≤ x ∧ x ≤ 1000000))
            clear hm hm2 hst
            go_wp2_with fail
            go_loopw [92] (fun i wq => ∃ (k : Nat) (vU : Value), k ≤ l.length ∧ i = .int .i64 k ∧ Hid (OfMem w wq g gp M P vB vU (bagsP (gOf L) l) (upsTo (gOf L) l k))) (fun i _ => l.length - (intOf i).toNat)
            case atStart => exact ⟨0, _, Nat.zero_le _, rfl, HMB.out⟩
            case round =>
              clear HMB
              obtain ⟨k, vU, hk, rfl, hm⟩ := hrel
              by_cases hkl : k < l.length
              · obtain ⟨b, off, c', e', hbl, hcs⟩ := HJ.out.form (by omega)
                injection e' with e1 _ e2
                subst e1; subst e2
                have hc := (hm.out.low.cell (cell_lt (hcs k hkl))).trans (hcs k hkl)
                have hrg := (HIO.out.mem l[k]).1 (List.getElem_mem hkl)
                obtain ⟨un, hun⟩ : ∃ un : Nat, l[k] = (un : Int) := ⟨(l[k]).toNat, by omega⟩
                have HLK := hid hun
                rw [hun] at hc hrg
                have hblen : (bagsP (gOf L) l).length = l.length := bagsP_length _ _
                have zk : (0 : Int) ≤ (k : Int) ∧ (k : Int) < (l.length : Int) := by omega
                obtain ⟨gB, cB, rfl, hgB, hrB⟩ := hm.out.own.row (by rw [hblen]; omega)
                obtain ⟨t, ht, q0, q1, _, _⟩ := hrB.get k (by rw [hblen]; exact hkl)
                rw [bagsP_get _ _ k hkl] at ht
                obtain ⟨d0, d1, _, _⟩ := hm.out.dv.cells
                rw [hblen] at d0
                obtain ⟨s, hs⟩ : ∃ s, s = elS (gOf L) l k (l.getD k 0) := ⟨_, rfl⟩
                have hwo : withoutV t (un : Int) = s := by
                  have hsy := (elS_sym HVL.out.sym l k (by omega)).irr (l.getD k 0)
                  rw [← hs] at hsy
                  have hgd : l.getD k 0 = (un : Int) := by rw [getD_at l k hkl, hun]
                  rw [hgd] at hsy
                  rw [← ht]
                  unfold bagAt
                  rw [← hs, hgd]
                  apply ext_has
                  intro x _ _
                  rw [has_withoutV, has_withV, Bool.eq_iff_iff]
                  simp
                  constructor
                  · rintro ⟨h1 | h1, h2⟩
                    · exact h1
                    · omega
                  · intro h1
                    exact ⟨.inl h1, fun e => by rw [e, hsy] at h1; cases h1⟩
                have HWO := hid (Without_c t (un : Int) wr)
                rw [hwo] at HWO
                have HS := hid hs
                have HM := hid hm.out
                have hlgB := hrB.lt
                have hlgp := hm.out.dv.lt
                clear hun hbl hcs ht hs hwo hrB hm hblen
                go_wp2_with fail
                refine HWO.out.mono ?_
                rintro e w8 ⟨rfl, hb8⟩
                have HM8 := hid (HM.out.below hb8)
                have HL := hid (List_c s w8 (hT.below hT.lt HM8.out.low))
                clear q0 q1 d0 d1 HWO HM hb8 hlgB hlgp
                go_wp2_with fail
                refine HL.out.mono ?_
                rintro e w9 ⟨v9, rfl, hn9, hb9⟩
                have HM9 := hid (HM8.out.below hb9)
                have HIM := hid hn9.ints
                obtain ⟨pm, cm, e4, hdrop⟩ := hn9.ints
                subst e4
                have hmlen := mems_length s
                clear hdrop hn9 hb9 HL HM8
                by_cases hne : mems s = []
                · have hz : ((mems s).length : Int) = 0 := by rw [hne]; rfl
                  have hUP : upPre (gOf L) l k = (k : Int) + 1 := by unfold upPre; rw [← HS.out, if_pos hne]
                  have HUP := hid hUP
                  have HNE := hid hne
                  clear hne hUP
                  have h0 : ¬ 0 < (mems s).length := by omega
                  have hna := (Below.refl _ w9).alloc (Nat.le_refl _) (.cells #[.int .i64 ((k : Int) + 1)] 3)
                  have HMA := hid (HM9.out.below hna)
                  have HON := hid (one_int w9 ((k : Int) + 1) 3)
                  obtain ⟨d0, d1, _, _⟩ := HM9.out.dv.cells
                  obtain ⟨d0a, d1a, f0a, f1a⟩ := HMA.out.dv.cells
                  have hul2 := upsTo_length (gOf L) l k
                  clear hna
                  go_wp2_with (at_builtin; refine wpList_append_I rfl _ _ rfl (gp + 3) vU _ rfl HMA.out.ownU _ [((k : Int) + 1)] rfl HON.out (by rw [hul2]; show k + 1 ≤ 16777216; omega) HMA.out.sz ?_; intro vU2 w12 hown2 hg2 _; have dv2 := HMA.out.dv.kept hg2 (fun e => by have := (HMA.out.ownU.lt _ e.symm).1; omega); obtain ⟨y0, y1, y2, y3⟩ := dv2.cells; obtain ⟨p12, c12, e12, _⟩ := hown2.ints; subst e12)
                  have HM12 := HMA.out.ups hg2 hown2
                  rw [← HUP.out, ← upsTo_succ, upsTo_length] at HM12
                  have HX := hid HM12
                  clear HM12 hown2 hg2 dv2 y0 y1 y2 y3 d0 d1 d0a d1a f0a f1a
                  go_roundw
                  case rel => exact ⟨k + 1, _, by omega, by go_num, HX.out⟩
                  case measure => simp [intOf]; omega
                · have hpos : 0 < (mems s).length := List.length_pos_iff.2 hne
                  have hin : ∀ x ∈ mems s, x ∈ l := fun x hx => by
                    rw [mem_mems, HS.out] at hx
                    exact (elS_in HVL.out HIO.out (Nat.le_of_lt hkl) hx).1
                  have hpk : pick (upF P) (mems s) = pick (posL l) (mems s) := pick_congr fun x hx => hpo.out x (hin x hx)
                  obtain ⟨hxm, _, _⟩ := pick_spec (cost := upF P) hne (mems_pos s)
                  have hxl := hin _ hxm
                  have hxr := (HIO.out.mem _).1 hxl
                  have HPK := hid (show upPre (gOf L) l k = upF P (pick (upF P) (mems s)).1 from by
                    rw [hpo.out _ hxl, hpk]
                    unfold upPre
                    rw [← HS.out, if_neg hne])
                  obtain ⟨xn, hxn⟩ : ∃ xn : Nat, (pick (upF P) (mems s)).1 = (xn : Int) := ⟨((pick (upF P) (mems s)).1).toNat, by omega⟩
                  rw [hxn] at hxr
                  have hxP : xn < P.length := by omega
                  have cp := HM9.out.pv.cell
                  obtain ⟨px, _⟩ := HM9.out.prow.at xn hxP
                  have hMC := minOf_c (.slice pm (mems s).length cm) (mems s) (upF P) (gp + 1) w9.drew HIM.out hne (mems_pos s) (by omega) (fun a ha b hb w' hbw => by
                    have la := (HIO.out.mem a).1 (hin a ha)
                    have lb := (HIO.out.mem b).1 (hin b hb)
                    obtain ⟨an, rfl⟩ : ∃ an : Nat, a = (an : Int) := ⟨a.toNat, by omega⟩
                    obtain ⟨bn, rfl⟩ : ∃ bn : Nat, b = (bn : Int) := ⟨b.toNat, by omega⟩
                    exact of1_c an bn P _ (gp + 1) w' ((hbw.cell (cell_lt cp)).trans cp) (((HM9.out.prow.ints P.length).below ((Below.refl _ w9).drew)).below hbw) (by omega) (by omega) HPR.out)
                  rw [hxn] at hMC
                  have hux : upF P (xn : Int) = P[xn] := upF_nat P xn hxP
                  rw [hxn, hux] at HPK
                  have hprx := HPR.out _ (List.getElem_mem hxP)
                  generalize P[xn] = pv at *
                  have zx : (0 : Int) ≤ (xn : Int) ∧ (xn : Int) < (P.length : Int) := by omega
                  have HMC := hid hMC
                  have PV : Hid (w9.drew.cell? ⟨gp + 1, 0, none⟩ = some (.slice (some ⟨gp, 0, none⟩) P.length P.length)) := cp
                  have PX : Hid (w9.drew.cell? ⟨gp, xn, none⟩ = some (.int .i64 pv)) := px
                  have HM9d := hid (HM9.out.below ((Below.refl _ w9).drew))
                  have zpos : (0 : Int) < ((mems s).length : Int) := by omega
                  clear hMC cp px hxr hxm hxl hpk hin hux hxn hne
                  go_wp2_with fail
                  refine Go.Proofs.YtmlecpapoeodkaaDoor.wp_region_L 7 6 (fun w' => w'.cell? ⟨gp + 1, 0, none⟩ = some (.slice (some ⟨gp, 0, none⟩) P.length P.length) ∧ w'.cell? ⟨gp, xn, none⟩ = some (.int .i64 pv)) (by kernel_rfl) rfl ⟨PV.out, PX.out⟩ (fun _ => ?_)
                  refine wpAnyL_load2 (i := 0) (v := .slice (some ⟨gp, 0, none⟩) P.length P.length) (by simp only [List.getElem?_toArray, List.getElem?_cons_zero] <;> rfl) (by kernel_rfl) (by kernel_rfl) (by kernel_rfl) (by exact fun _ _ _ h => h) (by decide) (Waits.one rfl ⟨⟨0, .phase⟩, by simp, rfl, rfl⟩) (by kernel_rfl) (by kernel_rfl) (.inr ⟨PV.out, PX.out⟩) (Or.inl ⟨by rfl, fun w hw => (by obtain ⟨x0, _⟩ := hw; simp [execOp, go_sem, Act.eval, x0])⟩) (fun _ => ?_)
                  simp only [Act.put, List.setIfInBounds_toArray, List.set_cons_zero, List.set_cons_succ]
                  refine wpAnyL_pure (i := 1) (v := .slice pm (mems s).length cm) (by simp only [List.getElem?_toArray, List.getElem?_cons_zero, List.getElem?_cons_succ] <;> rfl) (by kernel_rfl) (by kernel_rfl) (by kernel_rfl) (by exact fun _ _ _ h => h) (by decide) (.inr ⟨PV.out, PX.out⟩) (Or.inl ⟨by rfl, fun w _ => (by simp [execOp, go_sem, Act.eval])⟩) (fun _ => ?_)
                  simp only [Act.put, List.setIfInBounds_toArray, List.set_cons_zero, List.set_cons_succ]
                  refine wpAnyL_pure (i := 2) (v := .func (.func 43) #[] #[.pointer (some ⟨gp + 1, 0, none⟩)]) (by simp only [List.getElem?_toArray, List.getElem?_cons_zero, List.getElem?_cons_succ] <;> rfl) (by kernel_rfl) (by kernel_rfl) (by kernel_rfl) (by exact fun _ _ _ h => h) (by decide) (.inr ⟨PV.out, PX.out⟩) (Or.inl ⟨by rfl, fun w _ => (by simp [execOp, go_sem, Act.eval])⟩) (fun _ => ?_)
                  simp only [Act.put, List.setIfInBounds_toArray, List.set_cons_zero, List.set_cons_succ]
                  refine wpAnyL_one (i := 3) (by kernel_rfl) (by simp only [List.getElem?_toArray, List.getElem?_cons_zero, List.getElem?_cons_succ] <;> rfl) (by rfl) ?_
                  refine opwp_call (f := 42) (args := #[.slice pm (mems s).length cm, .func (.func 43) #[] #[.pointer (some ⟨gp + 1, 0, none⟩)]]) (w' := w9.drew) (by simp [go_sem, Act.eval]) ?_
                  refine (HMC.out).mono ?_
                  rintro e w10 ⟨rfl, hb10⟩
                  have hc1_0 := hid ((hb10.cell (cell_lt PV.out)).trans PV.out)
                  have hc1_1 := hid ((hb10.cell (cell_lt PX.out)).trans PX.out)
                  refine .inl ⟨_, rfl, .inr ⟨hc1_0.out, hc1_1.out⟩, ?_⟩
                  simp only [Act.put, List.setIfInBounds_toArray, List.set_cons_zero, List.set_cons_succ]
                  refine wpAnyL_pure (i := 4) (v := .pointer (some ⟨gp, xn, none⟩)) (by simp only [List.getElem?_toArray, List.getElem?_cons_zero, List.getElem?_cons_succ] <;> rfl) (by kernel_rfl) (by kernel_rfl) (by kernel_rfl) (by exact fun _ _ _ h => h) (by decide) (.inr ⟨hc1_0.out, hc1_1.out⟩) (Or.inl ⟨by rfl, fun w _ => (by simp [execOp, go_sem, Act.eval, zx])⟩) (fun _ => ?_)
                  simp only [Act.put, List.setIfInBounds_toArray, List.set_cons_zero, List.set_cons_succ]
                  refine wpAnyL_load2 (i := 5) (v := .int .i64 pv) (by simp only [List.getElem?_toArray, List.getElem?_cons_zero, List.getElem?_cons_succ] <;> rfl) (by kernel_rfl) (by kernel_rfl) (by kernel_rfl) (by exact fun _ _ _ h => h) (by decide) (Waits.one rfl ⟨⟨5, .data⟩, by simp, rfl, rfl⟩) (by kernel_rfl) (by kernel_rfl) (.inr ⟨hc1_0.out, hc1_1.out⟩) (Or.inl ⟨by rfl, fun w hw => (by obtain ⟨_, x1⟩ := hw; simp [execOp, go_sem, Act.eval, x1])⟩) (fun _ => ?_)
                  simp only [Act.put, List.setIfInBounds_toArray, List.set_cons_zero, List.set_cons_succ]
                  refine wpAnyL_one (i := 6) (by kernel_rfl) (by simp only [List.getElem?_toArray, List.getElem?_cons_zero, List.getElem?_cons_succ] <;> rfl) (by rfl) ?_
                  refine opwp_value (v := .int .i64 pv) (w' := w10) (by simp [execOp, go_sem, Act.eval]) ⟨.inl (by kernel_rfl), ?_⟩
                  simp only [Act.put, List.setIfInBounds_toArray, List.set_cons_zero, List.set_cons_succ]
                  refine wpAnyL_done (by kernel_rfl) ?_ _
                  have HM10 := hid (HM9d.out.below hb10)
                  have HUP := hid HPK.out
                  clear HMC PV PX HM9d HM9 hb10
                  have hna := (Below.refl _ w10).alloc (Nat.le_refl _) (.cells #[.int .i64 pv] 3)
                  have HMA := hid (HM10.out.below hna)
                  have HON := hid (one_int w10 pv 3)
                  obtain ⟨d0, d1, _, _⟩ := HM10.out.dv.cells
                  obtain ⟨d0a, d1a, f0a, f1a⟩ := HMA.out.dv.cells
                  have hul2 := upsTo_length (gOf L) l k
                  clear hna
                  go_wp2_with (at_builtin; refine wpList_append_I rfl _ _ rfl (gp + 3) vU _ rfl HMA.out.ownU _ [pv] rfl HON.out (by rw [hul2]; show k + 1 ≤ 16777216; omega) HMA.out.sz ?_; intro vU2 w12 hown2 hg2 _; have dv2 := HMA.out.dv.kept hg2 (fun e => by have := (HMA.out.ownU.lt _ e.symm).1; omega); obtain ⟨y0, y1, y2, y3⟩ := dv2.cells; obtain ⟨p12, c12, e12, _⟩ := hown2.ints; subst e12)
                  have HM12 := HMA.out.ups hg2 hown2
                  rw [← HUP.out, ← upsTo_succ, upsTo_length] at HM12
                  have HX := hid HM12
                  clear HM12 hown2 hg2 dv2 y0 y1 y2 y3 d0 d1 d0a d1a f0a f1a
                  go_roundw
                  case rel => exact ⟨k + 1, _, by omega, by go_num, HX.out⟩
                  case measure => simp [intOf]; omega
              · obtain rfl : k = l.length := by omega
                have hLEN := HLEN.out
                obtain ⟨d0, d1, _, _⟩ := hm.out.dv.cells
                obtain ⟨e0, e1, f0, f1⟩ := hm.out.rv.cells
                have hsz := hm.out.sz
                have hwg := hm.out.ord
                have n1 : ¬ w.heap.size = gp + 2 := by omega
                have HOW := hid hm.out.own
                have HLO := hid hm.out.low
                have HRV := hid hm.out.rv
                by_cases h0 : l.length = 0
                · have hz : ¬ (0 : Int) < (L.length : Int) - 1 := by omega
                  have HOU := hid hm.out.ownU
                  have hup : upsTo (gOf L) l l.length = upsP (gOf L) l := by rw [h0]; unfold upsTo upsP; rw [h0]; rfl
                  rw [hup] at HOU
                  obtain ⟨pB, cB, rfl, _⟩ := hm.out.own.sets
                  obtain ⟨pU, cU, rfl, _⟩ := HOU.out.ints
                  clear hm hup h0
                  go_wp2_with fail
                  have o1 := (HOW.out.mono (by omega : w.heap.size + 1 ≤ gp + 3)).kept (grownBy_01 _ w.heap.size (.slice pB (bagsP (gOf L) l).length cB) (.slice pU (upsP (gOf L) l).length cU)) (own_far (HOW.out.mono (by omega : w.heap.size + 1 ≤ gp + 3)) (by intro k e; cases e; omega))
                  have o2 := (HOU.out.mono (by omega : w.heap.size + 1 ≤ gp + 3)).kept (grownBy_01 _ w.heap.size (.slice pB (bagsP (gOf L) l).length cB) (.slice pU (upsP (gOf L) l).length cU)) (own_far (HOU.out.mono (by omega : w.heap.size + 1 ≤ gp + 3)) (by intro k e; cases e; omega))
                  exact bodyPost_ret (results_box_e rfl rfl rfl (HRV.out.set01 _ _)) rfl ⟨below_01 HLO.out (Nat.le_refl _) _ _, .inr (.inr ⟨HVL.out, HIO.out, _, _, rfl, o1.mono (Nat.le_succ _), o2.mono (Nat.le_succ _)⟩)⟩
                · have hz : (0 : Int) < (L.length : Int) - 1 := by omega
                  have hou := hm.out.ownU
                  have hul := upsTo_length (gOf L) l l.length
                  obtain ⟨gU, cU, rfl, hgU⟩ : ∃ gU cU, vU = .slice (some ⟨gU, 0, none⟩) (upsTo (gOf L) l l.length).length cU ∧ gp + 3 ≤ gU := by
                    rcases hou.2 with ⟨_, e⟩ | ⟨g', cap, cur, rfl, hb', _⟩
                    · rw [hul] at e; exact absurd e h0
                    · exact ⟨g', cap, rfl, hb'⟩
                  have hlt : l.length - 1 < (upsTo (gOf L) l l.length).length := by omega
                  have hcl := hou.cellAt (l.length - 1) (by omega)
                  have hfr := hou.frozenAt (l.length - 1)
                  rw [List.getElem?_map, List.getElem?_eq_getElem hlt] at hcl
                  have zi : (0 : Int) ≤ (L.length : Int) - 1 - 1 ∧ (L.length : Int) - 1 - 1 < (l.length : Int) := by omega
                  have zt : ((L.length : Int) - 1 - 1).toNat = l.length - 1 := by omega
                  obtain ⟨os, og⟩ := hou.stored (l.length - 1) (.int .i64 (-1))
                  have hset : ((upsTo (gOf L) l l.length).map (Value.int .i64)).set (l.length - 1) (.int .i64 (-1)) = (upsP (gOf L) l).map (Value.int .i64) := by
                    rw [upsP_set _ _ (by omega), List.map_set]
                  rw [hset] at os
                  have HOS := hid os
                  have HOG := hid og
                  have ow2 := HOW.out.kept og (own_apart HOW.out hou (by decide))
                  have rv2 := HRV.out.kept og (fun e => by have := Option.some.inj e; omega)
                  have lo2 := HLO.out.grown og HLO.out.size (by intro k e; cases e; omega)
                  rw [hul] at *
                  obtain ⟨pB, cB, rfl, _⟩ := hm.out.own.sets
                  have HOW2 := hid ow2
                  have HRV2 := hid rv2
                  have HLO2 := hid lo2
                  have hlgU : gU < wr.heap.size := (hou.lt gU rfl).2
                  have n2 : ¬ gU = gp + 2 := by omega
                  have n3 : ¬ gU = w.heap.size := by omega
                  have n4 : ¬ gp + 2 = gU := by omega
                  have n5 : ¬ w.heap.size = gU := by omega
                  clear hm hset h0 hou os og ow2 rv2 lo2
                  go_wp2_with fail
                  generalize wr.setCell ⟨gU, l.length - 1, none⟩ (.int .i64 (-1)) = w5' at *
                  have o1 := (HOW2.out.mono (by omega : w.heap.size + 1 ≤ gp + 3)).kept (grownBy_01 _ w.heap.size (.slice pB (bagsP (gOf L) l).length cB) (.slice (some ⟨gU, 0, none⟩) l.length cU)) (own_far (HOW2.out.mono (by omega : w.heap.size + 1 ≤ gp + 3)) (by intro k e; cases e; omega))
                  have o2 := (HOS.out.mono (by omega : w.heap.size + 1 ≤ gp + 3)).kept (grownBy_01 _ w.heap.size (.slice pB (bagsP (gOf L) l).length cB) (.slice (some ⟨gU, 0, none⟩) l.length cU)) (own_far (HOS.out.mono (by omega : w.heap.size + 1 ≤ gp + 3)) (by intro k e; cases e; omega))
                  have hupl : (upsP (gOf L) l).length = l.length := upsP_length _ _
                  refine bodyPost_ret (results_box_e rfl rfl rfl (HRV2.out.set01 _ _)) rfl ⟨below_01 HLO2.out (Nat.le_refl _) _ _, .inr (.inr ⟨HVL.out, HIO.out, _, _, rfl, o1.mono (Nat.le_succ _), ?_⟩)⟩
                  unfold OwnInts
                  rw [hupl]
                  exact o2.mono (Nat.le_succ _)
      · have hne : (!(ofL l == allV ((L.length : Int) - 1))) = true := by simp [hof]
        have hne2 : (ofL l == allV ((L.length : Int) - 1)) = false := by simp [hof]
        have HN := hid (show ¬ IsOrd l (L.length - 1) from fun h => hof (by have := ((isOrd_iff (by omega)).2 h).2; rwa [hnn] at this))
        clear hof
        go_enter Tryd.func13, Tryd.ntmps13
        go_wp2_with fail
        refine HV.out.mono ?_
        rintro e w2 ⟨rfl, hb2⟩
        have hB2 := hb0.trans (hb2.mono hb0.size)
        have hr2 := hr0.below hb2 hr0.lt
        have HOF := hid (Of_c _ l w2 (HJ.out.below hB2) hl)
        clear hb0 hr0 hb2 HV hlen
        go_wp2_with fail
        refine HOF.out.mono ?_
        rintro e w3 ⟨rfl, hb3⟩
        have hB3 := hB2.trans (hb3.mono hB2.size)
        have hr3 := hr2.below hb3 hr2.lt
        clear hB2 hr2 hb3 HOF
        go_wp2_with fail
        refine (All_c ((L.length : Int) - 1) w3).mono ?_
        rintro e w4 ⟨rfl, hb4⟩
        have hB4 := hB3.trans (hb4.mono hB3.size)
        have hr4 := hr3.below hb4 hr3.lt
        obtain ⟨_, _, f0, f1⟩ := hr4.cells
        obtain ⟨c0, c1, _, _⟩ := hr4.cells
        go_wp2_with fail
        exact bodyPost_ret (results_box_e rfl rfl rfl (hr4.set01 (.slice none 0 0) (.slice none 0 0))) rfl ⟨below_01 hB4 (Nat.le_refl _) _ _, .inr (.inl ⟨HVL.out, HN.out, rfl⟩)⟩
    · have d1 : ((l.length : Int) != (L.length : Int) - 1) = true := by simp; omega
      have HN := hid (show ¬ IsOrd l (L.length - 1) from fun h => hlen (by have := h.len; omega))
      clear hlen
      go_enter Tryd.func13, Tryd.ntmps13
      go_wp2_with fail
      refine HV.out.mono ?_
      rintro e w2 ⟨rfl, hb2⟩
      have hB2 := hb0.trans (hb2.mono hb0.size)
      have hr2 := hr0.below hb2 hr0.lt
      obtain ⟨_, _, f0, f1⟩ := hr2.cells
      obtain ⟨c0, c1, _, _⟩ := hr2.cells
      go_wp2_with fail
      exact bodyPost_ret (results_box_e rfl rfl rfl (hr2.set01 (.slice none 0 0) (.slice none 0 0))) rfl ⟨below_01 hB2 (Nat.le_refl _) _ _, .inr (.inl ⟨HVL.out, HN.out, rfl⟩)⟩
end Go.Proofs.YtmlecpapoeodkaaDoor
