/- Walks: the smooth form of a net. -/
import Derived.Test.YtpdbfbjfodckgaaDoorHFill
import Derived.Deep.DeepCutAuto
namespace Go.Proofs.YtpdbfbjfodckgaaDoor
open Go.RowKit Go.Maps
attribute [local go_sem ↓] run_eqlS run_neqS run_eqlS0 run_neqS0

/-- What is in memory when the maker is made. -/
structure CutS (w wx : World) (sb mb gB rb : Nat) (n : Int) (vL : Value) (L : List NodeT) : Prop where
  sm : SmAt wx w.heap.size sb mb n vL (.slice (some ⟨gB, 0, none⟩) L.length L.length) (.slice none 0 0) (.slice none 0 0) [] [] [] (fun _ => none) 0
  row : SetRow wx gB (vsOf L)
  bel : Below w.heap.size w wx
  res : wx.heap[rb]? = some (.cells #[.int .i64 0, .slice none 0 0] 24 (0, 0))
  net : NetVar wx w.heap.size n vL
theorem CutS.of {w w2 W : World} {mb gB rb : Nat} {n : Int} {vL : Value} {L : List NodeT} (hx : NetVar w2 w.heap.size n vL) (hr : Box2 w2 rb 24 (.int .i64 0) (.slice none 0 0)) (hb2 : Below w.heap.size w w2) (hb : Below w2.heap.size w2 W) (_hg : w2.heap.size ≤ gB) (hrow : SetRow W gB (vsOf L)) (hm : w2.heap.size ≤ mb) (hmap : MapAt W mb 0 (fun _ => none)) :
    CutS w (W.alloc (.cells #[.int .i64 n, vL, .slice (some ⟨gB, 0, none⟩) L.length L.length, .int .i64 n, .slice none 0 0, .slice none 0 0, .map (some mb)] 57)) W.heap.size mb gB rb n vL L := by
  have hal : Below W.heap.size W (W.alloc (.cells #[.int .i64 n, vL, .slice (some ⟨gB, 0, none⟩) L.length L.length, .int .i64 n, .slice none 0 0, .slice none 0 0, .map (some mb)] 57)) := (Below.refl _ W).alloc (Nat.le_refl _) _
  have hbb := hb.trans (hal.mono hb.size)
  refine ⟨⟨heap_alloc_new W _, OwnNodes.nil _ _, OwnInts.nil _ _, hmap.same (Below.heap_alloc _ _ _ hmap.lt), fun u hu => by simp at hu, Nat.le_trans hb2.size hb.size, Nat.le_trans hb2.size hm⟩, hrow.below hal hrow.lt, hb2.trans (hbb.mono hb2.size), (hr.below hbb hr.lt), hx.below hbb⟩
/-- What Smoothed returns of a valid net. -/
def SmdPost (n : Int) (L : List NodeT) (w : World) (e : Ending) (w' : World) : Prop :=
  ∃ v vs, e = .returned (.tuple #[.agg #[.int .i64 n, v], .int .i64 0]) ∧ OwnNodes w' w.heap.size v (smT L) vs ∧ Below w.heap.size w w'
theorem results_net_e {fn : Func} {tmps : Array Value} {w : World} {t s b : Nat} {x y z : Value} (hr : fn.results = #[.cell t 24, .tmp s]) (ht : tmps.getD t undef = .pointer (some ⟨b, 0, none⟩)) (hz : tmps.getD s undef = z) (h : Box2 w b 24 x y) :
    (results fn tmps).run Tryd.prog w = .ok (.tuple #[.agg #[x, y], z]) w := by
  obtain ⟨s0, s1, _, _⟩ := h.cells
  simp only [Array.getD_eq_getD_getElem?] at ht hz
  simp [results, hr, ht, hz, go_sem, s0, s1]
set_option maxRecDepth 100000 in
set_option maxHeartbeats 8000000 in
theorem Smoothed_bad (n : Int) (L : List NodeT) (v : Value) (w : World) (hN : NodesAt w v L) (hv : validNet ⟨n, L⟩ = false) :
    Calls Tryd.prog 14 #[.agg #[.int .i64 n, v]] w (fun e w' => e = .returned (.tuple #[.agg #[.int .i64 0, .slice none 0 0], .int .i64 1]) ∧ Below w.heap.size w w') := by
  have hB1 : Below w.heap.size w ((w.alloc (.cells #[.int .i64 n, v] 24)).alloc (.cells #[.int .i64 0, .slice none 0 0] 24)) := ((Below.refl _ w).alloc (Nat.le_refl _) _).alloc (by simp) _
  have hCK := Check_c n L v _ (hN.below hB1)
  unfold checkNo at hCK
  rw [hv, if_neg (by simp)] at hCK
  have HCK := hid hCK
  obtain ⟨x0, x1⟩ := NetVar.new w n v 24
  have HB1 := hid hB1
  have HRB := hid (show Box2 ((w.alloc (.cells #[.int .i64 n, v] 24)).alloc (.cells #[.int .i64 0, .slice none 0 0] 24)) (w.heap.size + 1) 24 (.int .i64 0) (.slice none 0 0) from by rw [← World.size_alloc w (.cells #[.int .i64 n, v] 24)]; exact Box2.new _ _ _ _)
  clear hCK hB1 hN hv
  go_enter Tryd.func14, Tryd.ntmps14
  go_wp2_with fail
  refine HCK.out.mono ?_
  rintro e w2 ⟨rfl, hb2⟩
  have hbx := HRB.out.below hb2 HRB.out.lt
  obtain ⟨y0, y1, y2, y3⟩ := hbx.cells
  have HBX := hid hbx
  have hB2 := HB1.out.trans (hb2.mono HB1.out.size)
  have HB2 := hid hB2
  clear hbx hB2
  go_wp2_with fail
  exact bodyPost_ret (results_net_e rfl rfl rfl (HBX.out.set01 _ _)) rfl ⟨rfl, below_01 HB2.out (by omega) _ _⟩

theorem insO_take (L : List NodeT) (M : List VS) (A : List Int) (or : Bool) (all : VS) (s : FS) (l : List Int) (j : Nat) : insO L M A or all s l = insO L M A or all (insO L M A or all s (l.take j)) (l.drop j) := by
  unfold insO; rw [← List.foldl_append, List.take_append_drop]
theorem ins_bound {L : List NodeT} {M : List VS} {k : Nat} (h : k < L.length) (hlen : (smF L M L).out.length ≤ 65536) (j : Nat) :
    (insO L M (smF L M (L.take k)).at_ (L[k].kind == 4) (sOf M (k : Int)) ⟨(smF L M (L.take k)).out, (smF L M (L.take k)).ch, []⟩ (L[k].ins.take j)).out.length + 1 ≤ 65536 := by
  obtain ⟨t, ht⟩ := insO_out L M (smF L M (L.take k)).at_ (L[k].kind == 4) (sOf M (k : Int)) (L[k].ins.drop j) (insO L M (smF L M (L.take k)).at_ (L[k].kind == 4) (sOf M (k : Int)) ⟨(smF L M (L.take k)).out, (smF L M (L.take k)).ch, []⟩ (L[k].ins.take j))
  rw [← insO_take] at ht
  obtain ⟨t2, ht2⟩ := smF_out L M (k + 1) L.length (by omega) (Nat.le_refl _)
  rw [List.take_length] at ht2
  have e : (smF L M (L.take (k + 1))).out = (insO L M (smF L M (L.take k)).at_ (L[k].kind == 4) (sOf M (k : Int)) ⟨(smF L M (L.take k)).out, (smF L M (L.take k)).ch, []⟩ L[k].ins).out ++ [⟨L[k].kind, L[k].lit, (insO L M (smF L M (L.take k)).at_ (L[k].kind == 4) (sOf M (k : Int)) ⟨(smF L M (L.take k)).out, (smF L M (L.take k)).ch, []⟩ L[k].ins).inn⟩] := by
    rw [smF_take L M k h]
    unfold stepN
    simp only [smF_at L M k (by omega)]
  rw [ht2, e, ht] at hlen
  simp only [List.length_append, List.length_cons, List.length_nil] at hlen
  omega
theorem smF_next {L : List NodeT} {M : List VS} {k : Nat} (h : k < L.length) {out : List NodeT} {ch : Int → Option Int} {A : List Int} (hs : smF L M (L.take k) = ⟨out, ch, A⟩) {x : NodeT} (hx : L[k] = x) :
    smF L M (L.take (k + 1)) = ⟨(insO L M A (x.kind == 4) (sOf M (k : Int)) ⟨out, ch, []⟩ x.ins).out ++ [⟨x.kind, x.lit, (insO L M A (x.kind == 4) (sOf M (k : Int)) ⟨out, ch, []⟩ x.ins).inn⟩], (insO L M A (x.kind == 4) (sOf M (k : Int)) ⟨out, ch, []⟩ x.ins).ch, A ++ [((insO L M A (x.kind == 4) (sOf M (k : Int)) ⟨out, ch, []⟩ x.ins).out.length : Int)]⟩ := by
  have hk := smF_at L M k (by omega)
  rw [hs] at hk
  rw [smF_take L M k h, hs, hx]
  unfold stepN
  simp only at hk ⊢
  rw [hk]
/-- What lies in memory ahead of node k. -/
def SmL (w wr : World) (sb mb gB rb : Nat) (n : Int) (vL : Value) (L : List NodeT) (st : SM) : Prop :=
  ∃ vOut vAt vs kk, SmAt wr w.heap.size sb mb n vL (.slice (some ⟨gB, 0, none⟩) L.length L.length) vOut vAt st.out vs st.at_ st.ch kk ∧ kk ≤ st.out.length ∧ SetRow wr gB (vsOf L) ∧ Below w.heap.size w wr ∧ Box2 wr rb 24 (.int .i64 0) (.slice none 0 0)
/-- What lies in memory ahead of an input of a node: s is the state, r what is still to come of the inputs' row. -/
def SmI (w wq : World) (sb mb gB rb xb gm m : Nat) (n : Int) (vL vAt : Value) (L : List NodeT) (A : List Int) (vs0 : List Value) (xk xl : Int) (vi : Value) (s : FS) (r : List Int) : Prop :=
  ∃ vOut vs' kk, SmAt wq w.heap.size sb mb n vL (.slice (some ⟨gB, 0, none⟩) L.length L.length) vOut vAt s.out (vs0 ++ vs') A s.ch kk ∧ kk ≤ s.out.length ∧ OwnInts wq w.heap.size (.slice (some ⟨gm, 0, none⟩) m m) (s.inn ++ r) ∧
    (∀ u ∈ vs', ∀ j, u.ownBlock = some j → j ≠ gm) ∧ Box3 wq xb 39 (.int .i64 xk) (.int .i64 xl) vi ∧ vOut.ownBlock ≠ some xb ∧ SetRow wq gB (vsOf L) ∧ Below w.heap.size w wq ∧ Box2 wq rb 24 (.int .i64 0) (.slice none 0 0) ∧ xb < wq.heap.size
theorem SmI.below {w wq w' : World} {sb mb gB rb xb gm m : Nat} {n : Int} {vL vAt : Value} {L : List NodeT} {A : List Int} {vs0 : List Value} {xk xl : Int} {vi : Value} {s : FS} {r : List Int} (h : SmI w wq sb mb gB rb xb gm m n vL vAt L A vs0 xk xl vi s r) (hb : Below wq.heap.size wq w') : SmI w w' sb mb gB rb xb gm m n vL vAt L A vs0 xk xl vi s r := by
  obtain ⟨vOut, vs', kk, h1, h2, h3, h4, h5, h6, h7, h8, h9, h10⟩ := h
  exact ⟨vOut, vs', kk, h1.below hb, h2, h3.below hb, h4, h5.below hb h10, h6, h7.below hb h7.lt, h8.trans (hb.mono h8.size), h9.below hb h9.lt, Nat.lt_of_lt_of_le h10 hb.size⟩
/-- An input that is filled. -/
theorem smi_fill {w wq w7 : World} {sb mb gB rb xb gm m kk kk' : Nat} {n : Int} {vL vAt vOut vOut' : Value} {L : List NodeT} {A : List Int} {vs0 vs' vs2 : List Value} {xk xl : Int} {vi : Value} {out out' : List NodeT} {ch ch' : Int → Option Int} {inn r : List Int} {y z : Int}
    (h1 : SmAt wq w.heap.size sb mb n vL (.slice (some ⟨gB, 0, none⟩) L.length L.length) vOut vAt out (vs0 ++ vs') A ch kk) (h3 : OwnInts wq w.heap.size (.slice (some ⟨gm, 0, none⟩) m m) (inn ++ y :: r)) (h4 : ∀ u ∈ vs', ∀ j, u.ownBlock = some j → j ≠ gm)
    (h5 : Box3 wq xb 39 (.int .i64 xk) (.int .i64 xl) vi) (h6 : vOut.ownBlock ≠ some xb) (h7 : SetRow wq gB (vsOf L)) (h8 : Below w.heap.size w wq) (h9 : Box2 wq rb 24 (.int .i64 0) (.slice none 0 0)) (hv0 : ∀ u ∈ vs0, ∀ j, u.ownBlock = some j → j ≠ gm) (hat : vAt.ownBlock ≠ some gm)
    (g1 : SmAt w7 w.heap.size sb mb n vL (.slice (some ⟨gB, 0, none⟩) L.length L.length) vOut' vAt out' (vs0 ++ vs' ++ vs2) A ch' kk') (g2 : kk' ≤ out'.length) (g3 : ∀ u ∈ vs2, ∀ j, u.ownBlock = some j → wq.heap.size ≤ j) (hf : Fr sb mb wq w7) :
    (∃ y0, w7.cell? ⟨gm, inn.length, none⟩ = some (.int .i64 y0)) ∧ w7.frozen? ⟨gm, inn.length, none⟩ = false ∧ SmI w (w7.setCell ⟨gm, inn.length, none⟩ (.int .i64 z)) sb mb gB rb xb gm m n vL vAt L A vs0 xk xl vi ⟨out', ch', inn ++ [z]⟩ r := by
  have o7 := h1.keepInts hf h3
  obtain ⟨g, c, e, _, hgl, hc⟩ := o7.cells (by simp; omega)
  injection e with e _ _
  injection e with e
  injection e with e _ _
  subst e
  have hlt : inn.length < (inn ++ y :: r).length := by simp
  obtain ⟨c1, c2⟩ := hc inn.length hlt
  have hgt := own_type o7 (k := gm) rfl
  obtain ⟨cs, hcs⟩ := hgt
  have hoth : ∀ (j : Nat) (cs' : Array Value) (T : TypeId), w7.heap[j]? = some (.cells cs' T (0, 0)) → T ≠ 3 → (w7.setCell ⟨gm, inn.length, none⟩ (.int .i64 z)).heap[j]? = w7.heap[j]? := fun j cs' T hj hT => Below.heap_setCell _ _ _ _ (fun e => by
    have e2 : j = gm := e
    subst e2
    rw [hcs] at hj; injection hj with hj; injection hj with _ e _; exact hT e.symm)
  have hgm : gm < wq.heap.size := by
    have := own_ge h3 (k := gm) rfl
    exact this.2
  have hne : ∀ j, j ≠ gm → (w7.setCell ⟨gm, inn.length, none⟩ (.int .i64 z)).heap[j]? = w7.heap[j]? := fun j hj => Below.heap_setCell _ _ _ _ hj
  have hvs : ∀ u ∈ vs' ++ vs2, ∀ j, u.ownBlock = some j → j ≠ gm := fun u hu j e => by
    rcases List.mem_append.1 hu with h | h
    · exact h4 u h j e
    · have := g3 u h j e; omega
  have g1' : SmAt w7 w.heap.size sb mb n vL (.slice (some ⟨gB, 0, none⟩) L.length L.length) vOut' vAt out' (vs0 ++ (vs' ++ vs2)) A ch' kk' := by rw [← List.append_assoc]; exact g1
  have gS : SmAt (w7.setCell ⟨gm, inn.length, none⟩ (.int .i64 z)) w.heap.size sb mb n vL (.slice (some ⟨gB, 0, none⟩) L.length L.length) vOut' vAt out' (vs0 ++ (vs' ++ vs2)) A ch' kk' := by
    refine g1'.same (hoth _ _ _ g1'.box (by decide)) (hne mb (fun e => by subst e; exact g1'.map.ne_cells hcs rfl)) (fun j e => ?_) (fun j e => hne j (fun e2 => by subst e2; exact hat e)) (fun u hu j e => hne j ?_)
    · obtain ⟨cs', h⟩ := own_type g1'.outs.row e; exact hoth j cs' _ h (by decide)
    · rcases List.mem_append.1 hu with h | h
      · exact hv0 u h j e
      · exact hvs u h j e
  have hx7 : Box3 w7 xb 39 (.int .i64 xk) (.int .i64 xl) vi := h5.same (hf.block xb h5.lt (fun e => by subst e; have := h1.box; unfold SmBox at this; unfold Box3 at h5; rw [this] at h5; injection h5 with h5; injection h5 with _ e _; cases e) (h1.map.ne_cells h5) (by rw [h1.box.row]; exact h6))
  have hr7 : SetRow w7 gB (vsOf L) := by
    obtain ⟨cs', hr⟩ := h7
    exact (show SetRow wq gB (vsOf L) from ⟨cs', hr⟩).same (h1.keep hf hr.1 (by decide) (by decide))
  have hb7 : Box2 w7 rb 24 (.int .i64 0) (.slice none 0 0) := h9.same (h1.keep hf h9 (by decide) (by decide))
  refine ⟨⟨_, c1⟩, c2, vOut', vs' ++ vs2, kk', gS, g2, ?_, hvs, ?_, ?_, ?_, ?_, ?_, ?_⟩
  · have := OwnInts.store o7 inn.length hlt z
    rw [List.set_append_right _ _ (Nat.le_refl _), Nat.sub_self, List.set_cons_zero] at this
    rw [List.append_assoc]
    exact this
  · exact hx7.same (hoth _ _ _ hx7 (by decide))
  · rw [← g1'.box.row]
    rcases hf.row with e | ⟨q, e, hq⟩
    · rw [e, h1.box.row]; exact h6
    · rw [e]; intro e2; cases e2; have := h5.lt; omega
  · obtain ⟨cs', hr⟩ := hr7
    exact (show SetRow w7 gB (vsOf L) from ⟨cs', hr⟩).same (hoth _ _ _ hr.1 (by decide))
  · exact (h1.low hf h8).setCell (p := ⟨gm, inn.length, none⟩) (own_ge h3 (k := gm) rfl).1 _
  · exact hb7.same (hoth _ _ _ hb7 (by decide))
  · have := hx7.lt; simpa [World.setCell] using this
theorem box3_fr {w w' : World} {B sb mb xb : Nat} {n : Int} {vL vB vOut vAt x y z : Value} {out : List NodeT} {vs : List Value} {A : List Int} {ch : Int → Option Int} {k : Nat} (h : SmAt w B sb mb n vL vB vOut vAt out vs A ch k) (hx : Box3 w xb 39 x y z) (h6 : vOut.ownBlock ≠ some xb) (hf : Fr sb mb w w') : Box3 w' xb 39 x y z :=
  hx.same (hf.block xb hx.lt (fun e => by subst e; have := h.box; unfold SmBox at this; unfold Box3 at hx; rw [this] at hx; injection hx with hx; injection hx with _ e _; cases e) (h.map.ne_cells hx) (by rw [h.box.row]; exact h6))
theorem Box3.set2 {w : World} {b : Nat} {T : TypeId} {x y z : Value} (h : Box3 w b T x y z) (z' : Value) : Box3 (w.setCell ⟨b, 2, none⟩ z') b T x y z' := by
  unfold Box3 at *; simp [World.setCell, Array.getElem?_modify, h]
/-- The inputs of a node are laid in. -/
theorem xbox_set {w wq : World} {sb mb gB rb xb kk : Nat} {n : Int} {vL vAt vOut vi vi' vB : Value} {L : List NodeT} {A : List Int} {vs : List Value} {xk xl : Int} {out : List NodeT} {ch : Int → Option Int}
    (h1 : SmAt wq w.heap.size sb mb n vL vB vOut vAt out vs A ch kk) (h5 : Box3 wq xb 39 (.int .i64 xk) (.int .i64 xl) vi) (h6 : vOut.ownBlock ≠ some xb) (h7 : SetRow wq gB (vsOf L)) (h8 : Below w.heap.size w wq) (h9 : Box2 wq rb 24 (.int .i64 0) (.slice none 0 0)) (hx : w.heap.size ≤ xb) :
    SmAt (wq.setCell ⟨xb, 2, none⟩ vi') w.heap.size sb mb n vL vB vOut vAt out vs A ch kk ∧ Box3 (wq.setCell ⟨xb, 2, none⟩ vi') xb 39 (.int .i64 xk) (.int .i64 xl) vi' ∧ SetRow (wq.setCell ⟨xb, 2, none⟩ vi') gB (vsOf L) ∧ Below w.heap.size w (wq.setCell ⟨xb, 2, none⟩ vi') ∧ Box2 (wq.setCell ⟨xb, 2, none⟩ vi') rb 24 (.int .i64 0) (.slice none 0 0) ∧
    (∀ {g : Nat} {m : Nat} {l : List Int} {B1 : Nat}, OwnInts wq B1 (.slice (some ⟨g, 0, none⟩) m m) l → OwnInts (wq.setCell ⟨xb, 2, none⟩ vi') B1 (.slice (some ⟨g, 0, none⟩) m m) l) := by
  have hne : ∀ j, j ≠ xb → (wq.setCell ⟨xb, 2, none⟩ vi').heap[j]? = wq.heap[j]? := fun j hj => Below.heap_setCell _ _ _ _ hj
  have hty : ∀ (j : Nat) (cs : Array Value) (T : TypeId) (fr : Nat × Nat), wq.heap[j]? = some (.cells cs T fr) → T ≠ 39 → j ≠ xb := fun j cs T fr hj hT e => by
    subst e; unfold Box3 at h5; rw [hj] at h5; injection h5 with h5; injection h5 with _ e _; exact hT e
  refine ⟨h1.same (hne _ (hty _ _ _ _ h1.box (by decide))) (hne _ (fun e => h1.map.ne_cells h5 e.symm)) (fun j e => hne j (fun e2 => by subst e2; exact h6 e)) (fun j e => ?_) (fun u hu j e => ?_), h5.set2 _, ?_, h8.setCell (p := ⟨xb, 2, none⟩) hx _, h9.same (hne _ (hty _ _ _ _ h9 (by decide))), fun {g m l B1} hi => own_same hi fun j e => ?_⟩
  · obtain ⟨cs, hc⟩ := own_type h1.ats e; exact hne j (hty _ _ _ _ hc (by decide))
  · obtain ⟨_, _, cs, hc⟩ := h1.outs.in_lt hu e; exact hne j (hty _ _ _ _ hc (by decide))
  · obtain ⟨cs, hr⟩ := h7
    exact (show SetRow wq gB (vsOf L) from ⟨cs, hr⟩).same (hne _ (hty _ _ _ _ hr.1 (by decide)))
  · obtain ⟨cs, hc⟩ := own_type hi e; exact hne j (hty _ _ _ _ hc (by decide))
/-- A new place. -/
theorem at_step {W W' : World} {B sb mb : Nat} {n : Int} {vL vB vOut vAt v' : Value} {out : List NodeT} {vs : List Value} {A : List Int} {ch : Int → Option Int} {k : Nat} {z : Int} {o : Obj}
    (h : SmAt W B sb mb n vL vB vOut vAt out vs A ch k) (hown : OwnInts W' B v' (A ++ [z])) (hg : (W.alloc o).grownBy W' vAt.ownBlock) (hloc : v'.ownBlock = none ∨ v'.ownBlock = vAt.ownBlock ∨ v'.ownBlock = some (W.alloc o).heap.size) :
    SmBox W' sb n vL vB vOut vAt mb ∧ SmAt (W'.setCell ⟨sb, 5, none⟩ v') B sb mb n vL vB vOut v' out vs (A ++ [z]) ch k ∧ (∀ j, j < W.heap.size → j ≠ sb → vAt.ownBlock ≠ some j → (W'.setCell ⟨sb, 5, none⟩ v').heap[j]? = W.heap[j]?) ∧ W.heap.size ≤ (W'.setCell ⟨sb, 5, none⟩ v').heap.size := by
  have hal : Below W.heap.size W (W.alloc o) := (Below.refl _ W).alloc (Nat.le_refl _) _
  have h6 : ∀ j, j < W.heap.size → vAt.ownBlock ≠ some j → W'.heap[j]? = W.heap[j]? := fun j hj h1 => (hg.block j (by rw [World.size_alloc]; omega) (fun e => h1 e.symm)).trans (hal.block j hj)
  have hne : ∀ (j : Nat) (cs : Array Value) (T : TypeId) (fr : Nat × Nat), W.heap[j]? = some (.cells cs T fr) → T ≠ 3 → vAt.ownBlock ≠ some j := fun j cs T fr hj hT e => by
    obtain ⟨cs', hc⟩ := own_type h.ats e; rw [hj] at hc; injection hc with hc; injection hc with _ e _; exact hT e
  have hbx : SmBox W' sb n vL vB vOut vAt mb := h.box.same (h6 sb h.box.lt (hne _ _ _ _ h.box (by decide)))
  have hsame : ∀ j, j < W.heap.size → j ≠ sb → vAt.ownBlock ≠ some j → (W'.setCell ⟨sb, 5, none⟩ v').heap[j]? = W.heap[j]? := fun j hj h1 h2 => (Below.heap_setCell _ _ _ _ h1).trans (h6 j hj h2)
  have hsb : ∀ (j : Nat) (cs : Array Value) (T : TypeId) (fr : Nat × Nat), W.heap[j]? = some (.cells cs T fr) → T ≠ 57 → j ≠ sb := fun j cs T fr hj hT e => by
    subst e; have := h.box; unfold SmBox at this; rw [hj] at this; injection this with this; injection this with _ e _; exact hT e
  refine ⟨hbx, ⟨hbx.at_ v', h.outs.same (fun j e => ?_) (fun u hu j e => ?_), ?_, h.map.same (hsame mb h.map.lt (fun e => h.map.ne_cells h.box e.symm) (fun e => by obtain ⟨cs, hc⟩ := own_type h.ats e; exact h.map.ne_cells hc rfl)), fun u hu j e e2 => ?_, h.hs, h.hm⟩, hsame, ?_⟩
  · obtain ⟨cs, hc⟩ := own_type h.outs.row e
    exact hsame j (own_ge h.outs.row e).2 (hsb _ _ _ _ hc (by decide)) (hne _ _ _ _ hc (by decide))
  · obtain ⟨_, hl, cs, hc⟩ := h.outs.in_lt hu e
    exact hsame j hl (hsb _ _ _ _ hc (by decide)) (h.far u hu j e)
  · refine own_same hown fun j e => Below.heap_setCell _ _ _ _ (fun e2 => ?_)
    have e3 : j = sb := e2
    subst e3
    obtain ⟨cs, hc⟩ := own_type hown e
    unfold SmBox at hbx
    rw [hc] at hbx; injection hbx with hbx; injection hbx with _ e _; cases e
  · have hl := (h.outs.in_lt hu e).2.1
    rcases hloc with h1 | h1 | h1
    · rw [h1] at e2; cases e2
    · rw [h1] at e2; exact h.far u hu j e e2
    · rw [h1, World.size_alloc] at e2; injection e2 with e2; omega
  · have := hg.size; rw [World.size_alloc] at this; simp [World.setCell]; omega
set_option maxRecDepth 100000 in
set_option maxHeartbeats 8000000 in
theorem Smoothed_c (n : Int) (L : List NodeT) (v : Value) (w : World) (hN : NodesAt w v L) (hv : validNet ⟨n, L⟩ = true) (hT : TabAt w) (hlen : (smT L).length ≤ 65536) (hins : ∀ x ∈ L, x.ins.length ≤ 65536) :
    Calls Tryd.prog 14 #[.agg #[.int .i64 n, v]] w (SmdPost n L w) := by
  have hB1 : Below w.heap.size w ((w.alloc (.cells #[.int .i64 n, v] 24)).alloc (.cells #[.int .i64 0, .slice none 0 0] 24)) := ((Below.refl _ w).alloc (Nat.le_refl _) _).alloc (by simp) _
  have hCK := Check_c n L v _ (hN.below hB1)
  rw [checkNo_t hv] at hCK
  obtain ⟨⟨r1, r2, r3, r4⟩, hft⟩ := (validNet_iff _).1 hv
  simp only at r1 r2 r3 r4 hft
  have HCK := hid hCK
  obtain ⟨p, c, rfl, h⟩ := hN
  obtain ⟨b, off, rfl, hN⟩ := h.resolve_left (by intro e; rw [e] at r3; simp at r3)
  have HNN := hid (show NodesAt w (.slice (some ⟨b, off, none⟩) L.length c) L from ⟨_, _, rfl, .inr ⟨b, off, rfl, hN⟩⟩)
  have hx := (NetVar.new w n (.slice (some ⟨b, off, none⟩) L.length c) 24)
  have hx' := hx
  obtain ⟨x0, x1⟩ := hx'
  have HX1 := hid (NetVar.below hx ((Below.refl _ (w.alloc (.cells #[.int .i64 n, .slice (some ⟨b, off, none⟩) L.length c] 24))).alloc (Nat.le_refl _) (.cells #[.int .i64 0, .slice none 0 0] 24)))
  have HB1 := hid hB1
  have HRB := hid (show Box2 ((w.alloc (.cells #[.int .i64 n, .slice (some ⟨b, off, none⟩) L.length c] 24)).alloc (.cells #[.int .i64 0, .slice none 0 0] 24)) (w.heap.size + 1) 24 (.int .i64 0) (.slice none 0 0) from by rw [← World.size_alloc w (.cells #[.int .i64 n, .slice (some ⟨b, off, none⟩) L.length c] 24)]; exact Box2.new _ _ _ _)
  have HFT := hid hft
  have HV := hid hv
  have HT := hid hT
  have HINS := hid hins
  have HLEN := hid hlen
  have HN := hid hN
  have hmm := @run_makeMap Tryd.prog
  obtain ⟨i0, hi0, hz0, hz1, hz2⟩ := info_parts info_int
  clear hCK hB1 hN hv hft hT hins hlen h hx
  go_enter Tryd.func14, Tryd.ntmps14
  go_wp2_with fail
  refine HCK.out.mono ?_
  rintro e w2 ⟨rfl, hb2⟩
  have HX2 := hid (HX1.out.below hb2)
  have HR2 := hid (HRB.out.below hb2 HRB.out.lt)
  have HB2 := hid (HB1.out.trans (hb2.mono HB1.out.size))
  clear x0 x1 hb2 HCK HX1 HB1 HRB
  go_upto_region 3 with fail
  go_cut [4] (fun s4 wx => ∃ (sb mb gB : Nat), s4 = .pointer (some ⟨sb, 0, none⟩) ∧ Hid (CutS w wx sb mb gB (w.heap.size + 1) n (.slice (some ⟨b, off, none⟩) L.length c) L))
  case first =>
    have CN : Hid (w2.drew.cell? ⟨w.heap.size, 0, none⟩ = some (.int .i64 n)) := HX2.out.n
    have CL : Hid (w2.drew.cell? ⟨w.heap.size, 1, none⟩ = some (.slice (some ⟨b, off, none⟩) L.length c)) := HX2.out.l
    have tb0 : Below w2.heap.size w2 w2.drew := (Below.refl _ w2).drew
    have HNW := hid (fun (W : World) (hb : Below w2.heap.size w2 W) => Vars_c n L _ W ((HNN.out.below HB2.out).below hb) HV.out)
    refine wp_PN ?_
    refine Go.Proofs.YtpdbfbjfodckgaaDoor.wp_region_L 10 7 (fun w' => w'.cell? ⟨w.heap.size, 0, none⟩ = some (.int .i64 n) ∧ w'.cell? ⟨w.heap.size, 1, none⟩ = some (.slice (some ⟨b, off, none⟩) L.length c)) (by kernel_rfl) rfl ⟨CN.out, CL.out⟩ (fun _ => ?_)
    refine wpAnyL_load2 (i := 0) (v := .agg #[.int .i64 n, .slice (some ⟨b, off, none⟩) L.length c]) (by simp only [List.getElem?_toArray, List.getElem?_cons_zero] <;> rfl) (by kernel_rfl) (by kernel_rfl) (by kernel_rfl) (by exact fun _ _ _ h => h) (by decide) (Waits.one rfl ⟨⟨0, .data⟩, by simp, rfl, rfl⟩) (by kernel_rfl) (by kernel_rfl) (.inr ⟨CN.out, CL.out⟩) (Or.inl ⟨by rfl, fun w hw => (by obtain ⟨x0, x1⟩ := hw; simp [execOp, go_sem, Act.eval, x0, x1])⟩) (fun _ => ?_)
    simp only [Act.put, List.setIfInBounds_toArray, List.set_cons_zero, List.set_cons_succ]
    refine wpAnyL_load2 (i := 1) (v := .agg #[.int .i64 n, .slice (some ⟨b, off, none⟩) L.length c]) (by simp only [List.getElem?_toArray, List.getElem?_cons_zero, List.getElem?_cons_succ] <;> rfl) (by kernel_rfl) (by kernel_rfl) (by kernel_rfl) (by exact fun _ _ _ h => h) (by decide) (Waits.more (j := 2) rfl ⟨⟨2, .data⟩, by simp, rfl, rfl⟩ (Waits.one rfl ⟨⟨1, .data⟩, by simp, rfl, rfl⟩)) (by kernel_rfl) (by kernel_rfl) (.inr ⟨CN.out, CL.out⟩) (Or.inl ⟨by rfl, fun w hw => (by obtain ⟨x0, x1⟩ := hw; simp [execOp, go_sem, Act.eval, x0, x1])⟩) (fun _ => ?_)
    simp only [Act.put, List.setIfInBounds_toArray, List.set_cons_zero, List.set_cons_succ]
    refine wpAnyL_pure (i := 3) (v := .pointer (some ⟨w.heap.size, 0, none⟩)) (by simp only [List.getElem?_toArray, List.getElem?_cons_zero, List.getElem?_cons_succ] <;> rfl) (by kernel_rfl) (by kernel_rfl) (by kernel_rfl) (by exact fun _ _ _ h => h) (by decide) (.inr ⟨CN.out, CL.out⟩) (Or.inl ⟨by rfl, fun w _ => (by simp [execOp, go_sem, Act.eval])⟩) (fun _ => ?_)
    simp only [Act.put, List.setIfInBounds_toArray, List.set_cons_zero, List.set_cons_succ]
    refine wpAnyL_load2 (i := 4) (v := .int .i64 n) (by simp only [List.getElem?_toArray, List.getElem?_cons_zero, List.getElem?_cons_succ] <;> rfl) (by kernel_rfl) (by kernel_rfl) (by kernel_rfl) (by exact fun _ _ _ h => h) (by decide) (Waits.more (j := 5) rfl ⟨⟨5, .data⟩, by simp, rfl, rfl⟩ (Waits.one rfl ⟨⟨4, .data⟩, by simp, rfl, rfl⟩)) (by kernel_rfl) (by kernel_rfl) (.inr ⟨CN.out, CL.out⟩) (Or.inl ⟨by rfl, fun w hw => (by obtain ⟨x0, _⟩ := hw; simp [execOp, go_sem, Act.eval, x0])⟩) (fun _ => ?_)
    simp only [Act.put, List.setIfInBounds_toArray, List.set_cons_zero, List.set_cons_succ]
    refine wpAnyL_pure (i := 5) (v := .agg #[.int .i64 n, .slice none 0 0]) (by simp only [List.getElem?_toArray, List.getElem?_cons_zero, List.getElem?_cons_succ] <;> rfl) (by kernel_rfl) (by kernel_rfl) (by kernel_rfl) (by exact fun _ _ _ h => h) (by decide) (.inr ⟨CN.out, CL.out⟩) (Or.inl ⟨by rfl, fun w _ => (by simp [execOp, go_sem, Act.eval])⟩) (fun _ => ?_)
    simp only [Act.put, List.setIfInBounds_toArray, List.set_cons_zero, List.set_cons_succ]
    refine wpAnyL_two (i := 2) (j := 6) (by kernel_rfl) (by simp only [List.getElem?_toArray, List.getElem?_cons_zero, List.getElem?_cons_succ] <;> rfl) (by rfl) (by simp only [List.getElem?_toArray, List.getElem?_cons_zero, List.getElem?_cons_succ] <;> rfl) (by rfl) ?_ ?_
    · refine opwp_call (f := 35) (args := #[.agg #[.int .i64 n, .slice (some ⟨b, off, none⟩) L.length c]]) (w' := w2.drew) (by simp [go_sem, Act.eval]) ?_
      refine (HNW.out w2.drew tb0).mono ?_
      rintro e wa1 ⟨ga1, rfl, hga1, hrowa1, hba1⟩
      have hca1_0 := hid ((hba1.cell (cell_lt CN.out)).trans CN.out)
      have hca1_1 := hid ((hba1.cell (cell_lt CL.out)).trans CL.out)
      have tba1 := tb0.trans (hba1.mono tb0.size)
      have tga1 := Nat.le_trans tb0.size hga1
      refine .inl ⟨_, rfl, .inr ⟨hca1_0.out, hca1_1.out⟩, ?_⟩
      simp only [Act.put, List.setIfInBounds_toArray, List.set_cons_zero, List.set_cons_succ]
      have hala2 : Below wa1.heap.size wa1 (wa1.alloc (.map #[] 0)) := (Below.refl _ wa1).alloc (Nat.le_refl _) _
      have fma2_0 := hid ((hala2.cell (cell_lt hca1_0.out)).trans hca1_0.out)
      have fma2_1 := hid ((hala2.cell (cell_lt hca1_1.out)).trans hca1_1.out)
      have tba2 := tba1.trans (hala2.mono tba1.size)
      have tla2 : w2.heap.size ≤ wa1.heap.size := tba1.size
      have tma2 : MapAt (wa1.alloc (.map #[] 0)) wa1.heap.size 0 (fun _ => none) := MapAt.new wa1
      have hrowa2 := hrowa1.below hala2 hrowa1.lt
      refine wpAnyL_one (i := 6) (by kernel_rfl) (by simp only [List.getElem?_toArray, List.getElem?_cons_zero, List.getElem?_cons_succ] <;> rfl) (by rfl) ?_
      refine opwp_value (v := .map (some wa1.heap.size)) (w' := (wa1.alloc (.map #[] 0))) (by simp [execOp, go_sem, run_makeMap]) ⟨.inr ⟨fma2_0.out, fma2_1.out⟩, ?_⟩
      simp only [Act.put, List.setIfInBounds_toArray, List.set_cons_zero, List.set_cons_succ]
      refine wpAnyL_one (i := 7) (by kernel_rfl) (by simp only [List.getElem?_toArray, List.getElem?_cons_zero, List.getElem?_cons_succ] <;> rfl) (by rfl) ?_
      refine opwp_value (v := .agg #[.int .i64 n, .slice (some ⟨b, off, none⟩) L.length c, .slice (some ⟨ga1, 0, none⟩) L.length L.length, .int .i64 n, .slice none 0 0, .slice none 0 0, .map (some wa1.heap.size)]) (w' := (wa1.alloc (.map #[] 0))) (by simp [execOp, go_sem, Act.eval]) ⟨.inl (by kernel_rfl), ?_⟩
      simp only [Act.put, List.setIfInBounds_toArray, List.set_cons_zero, List.set_cons_succ]
      have hfin := hid (CutS.of HX2.out HR2.out HB2.out tba2 tga1 hrowa2 tla2 tma2)
      refine wpAnyL_one (i := 8) (by kernel_rfl) (by simp only [List.getElem?_toArray, List.getElem?_cons_zero, List.getElem?_cons_succ] <;> rfl) (by rfl) ?_
      refine opwp_value (v := .pointer (some ⟨(wa1.alloc (.map #[] 0)).heap.size, 0, none⟩)) (w' := ((wa1.alloc (.map #[] 0)).alloc (.cells #[.int .i64 n, .slice (some ⟨b, off, none⟩) L.length c, .slice (some ⟨ga1, 0, none⟩) L.length L.length, .int .i64 n, .slice none 0 0, .slice none 0 0, .map (some wa1.heap.size)] 57))) (by simp [execOp, go_sem, Act.eval]) ⟨.inl (by kernel_rfl), ?_⟩
      simp only [Act.put, List.setIfInBounds_toArray, List.set_cons_zero, List.set_cons_succ]
      refine wpAnyL_pure (i := 9) (v := .pointer (some ⟨(wa1.alloc (.map #[] 0)).heap.size, 0, none⟩)) (by simp only [List.getElem?_toArray, List.getElem?_cons_zero, List.getElem?_cons_succ] <;> rfl) (by kernel_rfl) (by kernel_rfl) (by kernel_rfl) (by exact fun _ _ _ h => h) (by decide) (.inl (by kernel_rfl)) (Or.inl ⟨by rfl, fun w _ => (by simp [execOp, go_sem, Act.eval])⟩) (fun _ => ?_)
      simp only [Act.put, List.setIfInBounds_toArray, List.set_cons_zero, List.set_cons_succ]
      refine wpAnyL_done (by kernel_rfl) ?_ _
      refine PN_normal ?_
      go_wp2_with fail
      go_meet
      exact ⟨_, _, _, rfl, hfin.out⟩
    · have halb1 : Below w2.drew.heap.size w2.drew (w2.drew.alloc (.map #[] 0)) := (Below.refl _ w2.drew).alloc (Nat.le_refl _) _
      have fmb1_0 := hid ((halb1.cell (cell_lt CN.out)).trans CN.out)
      have fmb1_1 := hid ((halb1.cell (cell_lt CL.out)).trans CL.out)
      have tbb1 := tb0.trans (halb1.mono tb0.size)
      have tlb1 : w2.heap.size ≤ w2.drew.heap.size := tb0.size
      have tmb1 : MapAt (w2.drew.alloc (.map #[] 0)) w2.heap.size 0 (fun _ => none) := MapAt.new w2.drew
      refine opwp_value (v := .map (some w2.heap.size)) (w' := (w2.drew.alloc (.map #[] 0))) (by simp [execOp, go_sem, run_makeMap]) ⟨.inr ⟨fmb1_0.out, fmb1_1.out⟩, ?_⟩
      simp only [Act.put, List.setIfInBounds_toArray, List.set_cons_zero, List.set_cons_succ]
      refine wpAnyL_one (i := 2) (by kernel_rfl) (by simp only [List.getElem?_toArray, List.getElem?_cons_zero, List.getElem?_cons_succ] <;> rfl) (by rfl) ?_
      refine opwp_call (f := 35) (args := #[.agg #[.int .i64 n, .slice (some ⟨b, off, none⟩) L.length c]]) (w' := (w2.drew.alloc (.map #[] 0))) (by simp [go_sem, Act.eval]) ?_
      refine (HNW.out (w2.drew.alloc (.map #[] 0)) tbb1).mono ?_
      rintro e wb2 ⟨gb2, rfl, hgb2, hrowb2, hbb2⟩
      have hcb1_0 := hid ((hbb2.cell (cell_lt fmb1_0.out)).trans fmb1_0.out)
      have hcb1_1 := hid ((hbb2.cell (cell_lt fmb1_1.out)).trans fmb1_1.out)
      have tbb2 := tbb1.trans (hbb2.mono tbb1.size)
      have tgb2 := Nat.le_trans tbb1.size hgb2
      have tmb2 := tmb1.same (hbb2.block _ tmb1.lt)
      refine .inl ⟨_, rfl, .inr ⟨hcb1_0.out, hcb1_1.out⟩, ?_⟩
      simp only [Act.put, List.setIfInBounds_toArray, List.set_cons_zero, List.set_cons_succ]
      refine wpAnyL_one (i := 7) (by kernel_rfl) (by simp only [List.getElem?_toArray, List.getElem?_cons_zero, List.getElem?_cons_succ] <;> rfl) (by rfl) ?_
      refine opwp_value (v := .agg #[.int .i64 n, .slice (some ⟨b, off, none⟩) L.length c, .slice (some ⟨gb2, 0, none⟩) L.length L.length, .int .i64 n, .slice none 0 0, .slice none 0 0, .map (some w2.heap.size)]) (w' := wb2) (by simp [execOp, go_sem, Act.eval]) ⟨.inl (by kernel_rfl), ?_⟩
      simp only [Act.put, List.setIfInBounds_toArray, List.set_cons_zero, List.set_cons_succ]
      have hfin := hid (CutS.of HX2.out HR2.out HB2.out tbb2 tgb2 hrowb2 tlb1 tmb2)
      refine wpAnyL_one (i := 8) (by kernel_rfl) (by simp only [List.getElem?_toArray, List.getElem?_cons_zero, List.getElem?_cons_succ] <;> rfl) (by rfl) ?_
      refine opwp_value (v := .pointer (some ⟨wb2.heap.size, 0, none⟩)) (w' := (wb2.alloc (.cells #[.int .i64 n, .slice (some ⟨b, off, none⟩) L.length c, .slice (some ⟨gb2, 0, none⟩) L.length L.length, .int .i64 n, .slice none 0 0, .slice none 0 0, .map (some w2.heap.size)] 57))) (by simp [execOp, go_sem, Act.eval]) ⟨.inl (by kernel_rfl), ?_⟩
      simp only [Act.put, List.setIfInBounds_toArray, List.set_cons_zero, List.set_cons_succ]
      refine wpAnyL_pure (i := 9) (v := .pointer (some ⟨wb2.heap.size, 0, none⟩)) (by simp only [List.getElem?_toArray, List.getElem?_cons_zero, List.getElem?_cons_succ] <;> rfl) (by kernel_rfl) (by kernel_rfl) (by kernel_rfl) (by exact fun _ _ _ h => h) (by decide) (.inl (by kernel_rfl)) (Or.inl ⟨by rfl, fun w _ => (by simp [execOp, go_sem, Act.eval])⟩) (fun _ => ?_)
      simp only [Act.put, List.setIfInBounds_toArray, List.set_cons_zero, List.set_cons_succ]
      refine wpAnyL_done (by kernel_rfl) ?_ _
      refine PN_normal ?_
      go_wp2_with fail
      go_meet
      exact ⟨_, _, _, rfl, hfin.out⟩
  case rest =>
    obtain ⟨sb, mb, gB, rfl, HC⟩ := hcut
    obtain ⟨y0, y1⟩ := HC.out.net
    go_wp2_with fail
    go_loopw [26] (fun z wr => ∃ (k : Nat), k ≤ L.length ∧ z = .int .i64 k ∧ Hid (SmL w wr sb mb gB (w.heap.size + 1) n (.slice (some ⟨b, off, none⟩) L.length c) L (smF L (vsOf L) (L.take k)))) (fun z _ => L.length - (intOf z).toNat)
    case atStart => exact ⟨0, Nat.zero_le _, rfl, _, _, [], 0, HC.out.sm, Nat.le_refl _, HC.out.row, HC.out.bel, HC.out.res⟩
    case round =>
      clear y0 y1 HC HX2 HR2
      obtain ⟨k, hk, rfl, hsl⟩ := hrel
      by_cases hkl : k < L.length
      · obtain ⟨⟨out, ch, A⟩, hst⟩ : ∃ st, smF L (vsOf L) (L.take k) = st := ⟨_, rfl⟩
        have hAk := smF_at L (vsOf L) k (by omega)
        have hbd := fun j => ins_bound hkl HLEN.out j
        rw [hst] at hsl hAk hbd
        obtain ⟨vOut, vAt, vs0, kk, h1, h2, h3, h4, h5⟩ := hsl.out
        simp only at h1 h2 hAk hbd
        obtain ⟨u, hu⟩ := HN.out k hkl
        have hur := hu.below h4
        have d0 := hur.kind
        have d1 := hur.lit
        have d2 := hur.ins
        have HU := hid hu
        have HIN := hid (ins_lt HFT.out hkl)
        have hle : L[k].ins.length ≤ 65536 := HINS.out _ (List.getElem_mem hkl)
        have zk : (0 : Int) ≤ (k : Int) ∧ (k : Int) < (L.length : Int) := by omega
        have HNX := hid (fun x hx => smF_next hkl hst (x := x) hx)
        have HBD := hid hbd
        clear hu hsl hbd
        generalize hxx : L[k] = x at *
        obtain ⟨xk, xl, xi⟩ := x
        obtain ⟨p2, c2, e2, hdrop⟩ := HU.out.ints
        subst e2
        have hnx := HNX.out ⟨xk, xl, xi⟩ rfl
        have HNXT := hid hnx
        clear hdrop hxx HNX hnx
        simp only at d0 d1 hle
        have HAK := hid hAk
        have hb5 : Below wr.heap.size wr (wr.alloc (.cells #[.int .i64 xk, .int .i64 xl, .slice p2 xi.length c2] 39)) := (Below.refl _ wr).alloc (Nat.le_refl _) _
        have HX5 := hid (Box3.new wr 39 (.int .i64 xk) (.int .i64 xl) (.slice p2 xi.length c2))
        have H1 := hid (h1.below hb5)
        have H2 := hid h2
        have H3 := hid (h3.below hb5 h3.lt)
        have H4 := hid (h4.trans (hb5.mono h4.size))
        have H5 := hid (h5.below hb5 h5.lt)
        have hxo : vOut.ownBlock ≠ some wr.heap.size := fun e => by have := (own_ge h1.outs.row e).2; omega
        have HXO := hid hxo
        have HWS := hid h4.size
        have hv0 : ∀ u ∈ vs0, ∀ j, u.ownBlock = some j → j < wr.heap.size := fun u hu j e => (h1.outs.in_lt hu e).2.1
        have HV0 := hid hv0
        have hat0 : ∀ j, vAt.ownBlock = some j → j < wr.heap.size := fun j e => (own_ge h1.ats e).2
        have HAT0 := hid hat0
        have HIW := hid (show IntsAt w (.slice p2 xi.length c2) xi from HU.out.ints)
        obtain ⟨n0, n1, n2⟩ := HX5.out.cells
        clear hAk h1 h2 h3 h4 h5 hb5 hur hxo hv0 hat0
        go_wp2_with fail
        refine (moved_c _ sb mb n _ _ vOut vAt _ A xi H1.out.box H1.out.ats.ints (HIW.out.below H4.out) (fun x hx => by have := HIN.out x hx; have := HAK.out; omega) hle).mono ?_
        rintro e w6 ⟨gm, rfl, hgm, hom, hb6⟩
        have hx6 := HX5.out.below hb6 HX5.out.lt
        obtain ⟨m0, m1, m2⟩ := hx6.cells
        have hgm2 : wr.heap.size < gm := by rw [World.size_alloc] at hgm; omega
        have HI0 := hid (show SmI w w6 sb mb gB (w.heap.size + 1) wr.heap.size gm xi.length n (.slice (some ⟨b, off, none⟩) L.length c) vAt L A vs0 xk xl (.slice p2 xi.length c2) (insO L (vsOf L) A (xk == 4) (sOf (vsOf L) (k : Int)) ⟨out, ch, []⟩ (xi.take 0)) ((xi.drop 0).map (iOf A)) from
          ⟨vOut, [], kk, by rw [List.append_nil]; exact H1.out.below hb6, H2.out, own_lower hom (by rw [World.size_alloc]; have := H4.out.size; rw [World.size_alloc] at this; exact this), by simp, hx6, HXO.out, H3.out.below hb6 H3.out.lt, H4.out.trans (hb6.mono H4.out.size), H5.out.below hb6 H5.out.lt, hx6.lt⟩)
        have HGM := hid hgm2
        clear hom hb6 hgm hgm2 hx6 n0 n1 n2 d0 d1 d2
        go_wp2_with fail
        obtain ⟨wo, hwo⟩ : ∃ wo : World, wo = wr := ⟨_, rfl⟩
        subst hwo
        go_loopw [38] (fun z wq => ∃ (j : Nat), j ≤ xi.length ∧ z = .int .i64 j ∧ Hid (SmI w wq sb mb gB (w.heap.size + 1) wo.heap.size gm xi.length n (.slice (some ⟨b, off, none⟩) L.length c) vAt L A vs0 xk xl (.slice p2 xi.length c2) (insO L (vsOf L) A (xk == 4) (sOf (vsOf L) (k : Int)) ⟨out, ch, []⟩ (xi.take j)) ((xi.drop j).map (iOf A)))) (fun z _ => xi.length - (intOf z).toNat)
        case atStart => exact ⟨0, Nat.zero_le _, rfl, HI0.out⟩
        case round =>
          clear HI0 m0 m1 m2
          obtain ⟨j, hj, rfl, hsi⟩ := hrel
          by_cases hjl : j < xi.length
          · obtain ⟨s, hs⟩ : ∃ s, s = insO L (vsOf L) A (xk == 4) (sOf (vsOf L) (k : Int)) ⟨out, ch, []⟩ (xi.take j) := ⟨_, rfl⟩
            have hsn := insO_snoc L (vsOf L) A (xk == 4) (sOf (vsOf L) (k : Int)) ⟨out, ch, []⟩ (xi.take j) xi[j]
            have hil := insO_inn L (vsOf L) A (xk == 4) (sOf (vsOf L) (k : Int)) (xi.take j) ⟨out, ch, []⟩
            have hbd1 := HBD.out (j + 1)
            have hbd0 := HBD.out j
            rw [← List.take_succ_eq_append_getElem hjl, ← hs] at hsn
            rw [← hs] at hsi hil hbd0
            rw [hsn] at hbd1
            have HSN := hid hsn
            have hdr : (xi.drop j).map (iOf A) = iOf A xi[j] :: (xi.drop (j + 1)).map (iOf A) := by rw [List.drop_eq_getElem_cons hjl, List.map_cons]
            rw [hdr] at hsi
            have hilj : s.inn.length = j := by rw [hil, List.length_take]; show 0 + _ = _; omega
            obtain ⟨vO, vs1, k1, h1, h2, h3, h4, h5, h6, h7, h8, h9, h10⟩ := hsi.out
            obtain ⟨p3, c3, e3, h33⟩ := HIW.out.below h8
            injection e3 with e1 e0 e2
            clear e0
            subst e1; subst e2
            obtain ⟨b2, o2, rfl, hc⟩ := h33.resolve_left (by intro e; rw [e] at hjl; simp at hjl)
            have hcj := hc j hjl
            rw [List.getElem?_eq_getElem hjl, Option.getD_some] at hcj
            have hin := HIN.out _ (List.getElem_mem hjl)
            obtain ⟨q, hq⟩ : ∃ q : Nat, xi[j] = (q : Int) := ⟨xi[j].toNat, by omega⟩
            rw [hq] at hcj hin HSN hsi h3 hbd1
            have zj : (0 : Int) ≤ (j : Int) ∧ (j : Int) < (xi.length : Int) := by omega
            have zq : (0 : Int) ≤ (q : Int) ∧ (q : Int) < (L.length : Int) := by omega
            have hql : q < L.length := by omega
            have hqk : q < k := by omega
            have HSI := hid hsi.out
            have HBD0 := hid hbd0
            have HBD1 := hid hbd1
            have HIL := hid hilj
            have BK : Hid (wr.drew.cell? ⟨wo.heap.size, 0, none⟩ = some (.int .i64 xk)) := h5.cells.1
            have lxb : wo.heap.size < wr.heap.size := h10
            obtain ⟨_, _, t2, _, t4, _, _⟩ := h1.box.get
            obtain ⟨pO, cO, eO, hdrop⟩ := h1.outs.nodes
            subst eO
            clear hdrop
            have zl : ¬ 65536 < (s.out.length : Int) := by omega
            clear hc h33 hin hq hs hsn hil hdr hsi hilj hbd0 hbd1
            by_cases hx4 : xk = 4
            · subst hx4
              obtain ⟨t, ht, y0, y1, _, _⟩ := h7.getS q (by rw [vsOf_length]; exact hql)
              obtain ⟨tk, htk, z0, z1, _, _⟩ := h7.getS k (by rw [vsOf_length]; exact hkl)
              have BB : Hid (wr.drew.cell? ⟨sb, 2, none⟩ = some (.slice (some ⟨gB, 0, none⟩) L.length L.length)) := t2
              have BT : Hid (wr.drew.cell? ⟨gB, q * 2, none⟩ = some (.int .u64 ((lw t).toNat : Int)) ∧ wr.drew.cell? ⟨gB, q * 2 + 1, none⟩ = some (.int .u64 ((hw t).toNat : Int))) := ⟨y0, y1⟩
              have BTK : Hid (wr.drew.cell? ⟨gB, k * 2, none⟩ = some (.int .u64 ((lw tk).toNat : Int)) ∧ wr.drew.cell? ⟨gB, k * 2 + 1, none⟩ = some (.int .u64 ((hw tk).toNat : Int))) := ⟨z0, z1⟩
              have HTT := hid ht
              have HTK := hid htk
              clear ht htk y0 y1
              by_cases hd : t = tk
              · have HST := hid (show insO L (vsOf L) A ((4 : Int) == 4) (sOf (vsOf L) (k : Int)) ⟨out, ch, []⟩ (xi.take (j + 1)) = ⟨s.out, s.ch, s.inn ++ [iOf A (q : Int)]⟩ from by
                  rw [HSN.out]; unfold stepO; rw [if_neg (by rw [HTT.out, HTK.out, hd]; simp)])
                have HS2 := hid (show SmI w wr.drew sb mb gB (w.heap.size + 1) wo.heap.size gm xi.length n (.slice (some ⟨b, off, none⟩) L.length c) vAt L A vs0 4 xl (.slice (some ⟨b2, o2, none⟩) xi.length c2) ⟨s.out, s.ch, s.inn ++ [iOf A (q : Int)]⟩ ((xi.drop (j + 1)).map (iOf A)) from by
                  obtain ⟨a1, a2, a3, a4, a5, a6, a7⟩ := HSI.out.below (Below.refl _ wr).drew
                  refine ⟨a1, a2, a3, a4, a5, ?_, a7⟩
                  rw [List.append_assoc]; exact a6)
                have HD := hid hd
                clear hd z0 z1
                go_wp2_with fail
                refine Go.Proofs.YtpdbfbjfodckgaaDoor.wp_region_L 20 18 (fun w' => w'.cell? ⟨wo.heap.size, 0, none⟩ = some (.int .i64 4) ∧ w'.cell? ⟨sb, 2, none⟩ = some (.slice (some ⟨gB, 0, none⟩) L.length L.length) ∧ (w'.cell? ⟨gB, q * 2, none⟩ = some (.int .u64 ((lw (t)).toNat : Int)) ∧ w'.cell? ⟨gB, q * 2 + 1, none⟩ = some (.int .u64 ((hw (t)).toNat : Int))) ∧ (w'.cell? ⟨gB, k * 2, none⟩ = some (.int .u64 ((lw (tk)).toNat : Int)) ∧ w'.cell? ⟨gB, k * 2 + 1, none⟩ = some (.int .u64 ((hw (tk)).toNat : Int)))) (by kernel_rfl) rfl ⟨BK.out, BB.out, BT.out, BTK.out⟩ (fun _ => ?_)
                refine wpAnyL_pure (i := 0) (v := .pointer (some ⟨wo.heap.size, 0, none⟩)) (by simp only [List.getElem?_toArray, List.getElem?_cons_zero] <;> rfl) (by kernel_rfl) (by kernel_rfl) (by kernel_rfl) (by exact fun _ _ _ h => h) (by decide) (.inr ⟨BK.out, BB.out, BT.out, BTK.out⟩) (Or.inl ⟨by rfl, fun w _ => (by simp [execOp, go_sem, Act.eval])⟩) (fun _ => ?_)
                simp only [Act.put, List.setIfInBounds_toArray, List.set_cons_zero, List.set_cons_succ]
                refine wpAnyL_load2 (i := 1) (v := .int .i64 4) (by simp only [List.getElem?_toArray, List.getElem?_cons_zero, List.getElem?_cons_succ] <;> rfl) (by kernel_rfl) (by kernel_rfl) (by kernel_rfl) (by exact fun _ _ _ h => h) (by decide) (Waits.more (j := 3) rfl ⟨⟨3, .guard⟩, by simp, rfl, rfl⟩ (Waits.more (j := 2) rfl ⟨⟨2, .data⟩, by simp, rfl, rfl⟩ (Waits.one rfl ⟨⟨1, .data⟩, by simp, rfl, rfl⟩))) (by kernel_rfl) (by kernel_rfl) (.inr ⟨BK.out, BB.out, BT.out, BTK.out⟩) (Or.inl ⟨by rfl, fun w hw => (by obtain ⟨x0, _, _, _⟩ := hw; simp [execOp, go_sem, Act.eval, x0])⟩) (fun _ => ?_)
                simp only [Act.put, List.setIfInBounds_toArray, List.set_cons_zero, List.set_cons_succ]
                refine wpAnyL_pure (i := 2) (v := .bool true) (by simp only [List.getElem?_toArray, List.getElem?_cons_zero, List.getElem?_cons_succ] <;> rfl) (by kernel_rfl) (by kernel_rfl) (by kernel_rfl) (by exact fun _ _ _ h => h) (by decide) (.inr ⟨BK.out, BB.out, BT.out, BTK.out⟩) (Or.inl ⟨by rfl, fun w _ => (by simp [execOp, go_sem, Act.eval])⟩) (fun _ => ?_)
                simp only [Act.put, List.setIfInBounds_toArray, List.set_cons_zero, List.set_cons_succ]
                refine wpAnyL_pure (i := 3) (v := .bool true) (by simp only [List.getElem?_toArray, List.getElem?_cons_zero, List.getElem?_cons_succ] <;> rfl) (by kernel_rfl) (by kernel_rfl) (by kernel_rfl) (by exact fun _ _ _ h => h) (by decide) (.inr ⟨BK.out, BB.out, BT.out, BTK.out⟩) (Or.inl ⟨by rfl, fun w _ => (by simp [execOp, go_sem, Act.eval])⟩) (fun _ => ?_)
                simp only [Act.put, List.setIfInBounds_toArray, List.set_cons_zero, List.set_cons_succ]
                refine wpAnyL_pure (i := 4) (v := .pointer (some ⟨sb, 0, none⟩)) (by simp only [List.getElem?_toArray, List.getElem?_cons_zero, List.getElem?_cons_succ] <;> rfl) (by kernel_rfl) (by kernel_rfl) (by kernel_rfl) (by exact fun _ _ _ h => h) (by decide) (.inr ⟨BK.out, BB.out, BT.out, BTK.out⟩) (Or.inl ⟨by rfl, fun w _ => (by simp [execOp, go_sem, Act.eval])⟩) (fun _ => ?_)
                simp only [Act.put, List.setIfInBounds_toArray, List.set_cons_zero, List.set_cons_succ]
                refine wpAnyL_pure (i := 5) (v := .pointer (some ⟨sb, 0, none⟩)) (by simp only [List.getElem?_toArray, List.getElem?_cons_zero, List.getElem?_cons_succ] <;> rfl) (by kernel_rfl) (by kernel_rfl) (by kernel_rfl) (by exact fun _ _ _ h => h) (by decide) (.inr ⟨BK.out, BB.out, BT.out, BTK.out⟩) (Or.inl ⟨by rfl, fun w _ => (by simp [execOp, go_sem, Act.eval])⟩) (fun _ => ?_)
                simp only [Act.put, List.setIfInBounds_toArray, List.set_cons_zero, List.set_cons_succ]
                refine wpAnyL_pure (i := 6) (v := .pointer (some ⟨sb, 2, none⟩)) (by simp only [List.getElem?_toArray, List.getElem?_cons_zero, List.getElem?_cons_succ] <;> rfl) (by kernel_rfl) (by kernel_rfl) (by kernel_rfl) (by exact fun _ _ _ h => h) (by decide) (.inr ⟨BK.out, BB.out, BT.out, BTK.out⟩) (Or.inl ⟨by rfl, fun w _ => (by simp [execOp, go_sem, Act.eval])⟩) (fun _ => ?_)
                simp only [Act.put, List.setIfInBounds_toArray, List.set_cons_zero, List.set_cons_succ]
                refine wpAnyL_load2 (i := 7) (v := .slice (some ⟨gB, 0, none⟩) L.length L.length) (by simp only [List.getElem?_toArray, List.getElem?_cons_zero, List.getElem?_cons_succ] <;> rfl) (by kernel_rfl) (by kernel_rfl) (by kernel_rfl) (by exact fun _ _ _ h => h) (by decide) (Waits.more (j := 10) rfl ⟨⟨10, .data⟩, by simp, rfl, rfl⟩ (Waits.more (j := 9) rfl ⟨⟨9, .data⟩, by simp, rfl, rfl⟩ (Waits.one rfl ⟨⟨7, .data⟩, by simp, rfl, rfl⟩))) (by kernel_rfl) (by kernel_rfl) (.inr ⟨BK.out, BB.out, BT.out, BTK.out⟩) (Or.inl ⟨by rfl, fun w hw => (by obtain ⟨_, x1, _, _⟩ := hw; simp [execOp, go_sem, Act.eval, x1])⟩) (fun _ => ?_)
                simp only [Act.put, List.setIfInBounds_toArray, List.set_cons_zero, List.set_cons_succ]
                refine wpAnyL_pure (i := 8) (v := .int .i64 (q : Int)) (by simp only [List.getElem?_toArray, List.getElem?_cons_zero, List.getElem?_cons_succ] <;> rfl) (by kernel_rfl) (by kernel_rfl) (by kernel_rfl) (by exact fun _ _ _ h => h) (by decide) (.inr ⟨BK.out, BB.out, BT.out, BTK.out⟩) (Or.inl ⟨by rfl, fun w _ => (by simp [execOp, go_sem, Act.eval])⟩) (fun _ => ?_)
                simp only [Act.put, List.setIfInBounds_toArray, List.set_cons_zero, List.set_cons_succ]
                refine wpAnyL_pure (i := 9) (v := .pointer (some ⟨gB, q * 2, none⟩)) (by simp only [List.getElem?_toArray, List.getElem?_cons_zero, List.getElem?_cons_succ] <;> rfl) (by kernel_rfl) (by kernel_rfl) (by kernel_rfl) (by exact fun _ _ _ h => h) (by decide) (.inr ⟨BK.out, BB.out, BT.out, BTK.out⟩) (Or.inl ⟨by rfl, fun w _ => (by simp [execOp, go_sem, Act.eval, zq])⟩) (fun _ => ?_)
                simp only [Act.put, List.setIfInBounds_toArray, List.set_cons_zero, List.set_cons_succ]
                refine wpAnyL_load2 (i := 10) (v := encS (t)) (by simp only [List.getElem?_toArray, List.getElem?_cons_zero, List.getElem?_cons_succ] <;> rfl) (by kernel_rfl) (by kernel_rfl) (by kernel_rfl) (by exact fun _ _ _ h => h) (by decide) (Waits.one rfl ⟨⟨10, .data⟩, by simp, rfl, rfl⟩) (by kernel_rfl) (by kernel_rfl) (.inr ⟨BK.out, BB.out, BT.out, BTK.out⟩) (Or.inl ⟨by rfl, fun w hw => (by obtain ⟨_, _, ⟨y2, z2⟩, _⟩ := hw; simp [execOp, go_sem, Act.eval, y2, z2])⟩) (fun _ => ?_)
                simp only [Act.put, List.setIfInBounds_toArray, List.set_cons_zero, List.set_cons_succ]
                refine wpAnyL_pure (i := 11) (v := .pointer (some ⟨sb, 0, none⟩)) (by simp only [List.getElem?_toArray, List.getElem?_cons_zero, List.getElem?_cons_succ] <;> rfl) (by kernel_rfl) (by kernel_rfl) (by kernel_rfl) (by exact fun _ _ _ h => h) (by decide) (.inr ⟨BK.out, BB.out, BT.out, BTK.out⟩) (Or.inl ⟨by rfl, fun w _ => (by simp [execOp, go_sem, Act.eval])⟩) (fun _ => ?_)
                simp only [Act.put, List.setIfInBounds_toArray, List.set_cons_zero, List.set_cons_succ]
                refine wpAnyL_pure (i := 12) (v := .pointer (some ⟨sb, 0, none⟩)) (by simp only [List.getElem?_toArray, List.getElem?_cons_zero, List.getElem?_cons_succ] <;> rfl) (by kernel_rfl) (by kernel_rfl) (by kernel_rfl) (by exact fun _ _ _ h => h) (by decide) (.inr ⟨BK.out, BB.out, BT.out, BTK.out⟩) (Or.inl ⟨by rfl, fun w _ => (by simp [execOp, go_sem, Act.eval])⟩) (fun _ => ?_)
                simp only [Act.put, List.setIfInBounds_toArray, List.set_cons_zero, List.set_cons_succ]
                refine wpAnyL_pure (i := 13) (v := .pointer (some ⟨sb, 2, none⟩)) (by simp only [List.getElem?_toArray, List.getElem?_cons_zero, List.getElem?_cons_succ] <;> rfl) (by kernel_rfl) (by kernel_rfl) (by kernel_rfl) (by exact fun _ _ _ h => h) (by decide) (.inr ⟨BK.out, BB.out, BT.out, BTK.out⟩) (Or.inl ⟨by rfl, fun w _ => (by simp [execOp, go_sem, Act.eval])⟩) (fun _ => ?_)
                simp only [Act.put, List.setIfInBounds_toArray, List.set_cons_zero, List.set_cons_succ]
                refine wpAnyL_load2 (i := 14) (v := .slice (some ⟨gB, 0, none⟩) L.length L.length) (by simp only [List.getElem?_toArray, List.getElem?_cons_zero, List.getElem?_cons_succ] <;> rfl) (by kernel_rfl) (by kernel_rfl) (by kernel_rfl) (by exact fun _ _ _ h => h) (by decide) (Waits.more (j := 17) rfl ⟨⟨17, .data⟩, by simp, rfl, rfl⟩ (Waits.more (j := 16) rfl ⟨⟨16, .data⟩, by simp, rfl, rfl⟩ (Waits.one rfl ⟨⟨14, .data⟩, by simp, rfl, rfl⟩))) (by kernel_rfl) (by kernel_rfl) (.inr ⟨BK.out, BB.out, BT.out, BTK.out⟩) (Or.inl ⟨by rfl, fun w hw => (by obtain ⟨_, x1, _, _⟩ := hw; simp [execOp, go_sem, Act.eval, x1])⟩) (fun _ => ?_)
                simp only [Act.put, List.setIfInBounds_toArray, List.set_cons_zero, List.set_cons_succ]
                refine wpAnyL_pure (i := 15) (v := .int .i64 (k : Int)) (by simp only [List.getElem?_toArray, List.getElem?_cons_zero, List.getElem?_cons_succ] <;> rfl) (by kernel_rfl) (by kernel_rfl) (by kernel_rfl) (by exact fun _ _ _ h => h) (by decide) (.inr ⟨BK.out, BB.out, BT.out, BTK.out⟩) (Or.inl ⟨by rfl, fun w _ => (by simp [execOp, go_sem, Act.eval])⟩) (fun _ => ?_)
                simp only [Act.put, List.setIfInBounds_toArray, List.set_cons_zero, List.set_cons_succ]
                refine wpAnyL_pure (i := 16) (v := .pointer (some ⟨gB, k * 2, none⟩)) (by simp only [List.getElem?_toArray, List.getElem?_cons_zero, List.getElem?_cons_succ] <;> rfl) (by kernel_rfl) (by kernel_rfl) (by kernel_rfl) (by exact fun _ _ _ h => h) (by decide) (.inr ⟨BK.out, BB.out, BT.out, BTK.out⟩) (Or.inl ⟨by rfl, fun w _ => (by simp [execOp, go_sem, Act.eval, zk])⟩) (fun _ => ?_)
                simp only [Act.put, List.setIfInBounds_toArray, List.set_cons_zero, List.set_cons_succ]
                refine wpAnyL_load2 (i := 17) (v := encS (tk)) (by simp only [List.getElem?_toArray, List.getElem?_cons_zero, List.getElem?_cons_succ] <;> rfl) (by kernel_rfl) (by kernel_rfl) (by kernel_rfl) (by exact fun _ _ _ h => h) (by decide) (Waits.one rfl ⟨⟨17, .data⟩, by simp, rfl, rfl⟩) (by kernel_rfl) (by kernel_rfl) (.inr ⟨BK.out, BB.out, BT.out, BTK.out⟩) (Or.inl ⟨by rfl, fun w hw => (by obtain ⟨_, _, _, ⟨y3, z3⟩⟩ := hw; simp [execOp, go_sem, Act.eval, y3, z3])⟩) (fun _ => ?_)
                simp only [Act.put, List.setIfInBounds_toArray, List.set_cons_zero, List.set_cons_succ]
                refine wpAnyL_one (i := 18) (by kernel_rfl) (by simp only [List.getElem?_toArray, List.getElem?_cons_zero, List.getElem?_cons_succ] <;> rfl) (by rfl) ?_
                refine opwp_value (v := .bool false) (w' := wr.drew) (by simp [execOp, go_sem, Act.eval, HD.out]) ⟨.inl (by kernel_rfl), ?_⟩
                simp only [Act.put, List.setIfInBounds_toArray, List.set_cons_zero, List.set_cons_succ]
                refine wpAnyL_pure (i := 19) (v := .bool false) (by simp only [List.getElem?_toArray, List.getElem?_cons_zero, List.getElem?_cons_succ] <;> rfl) (by kernel_rfl) (by kernel_rfl) (by kernel_rfl) (by exact fun _ _ _ h => h) (by decide) (.inl (by kernel_rfl)) (Or.inl ⟨by rfl, fun w _ => (by simp [execOp, go_sem, Act.eval])⟩) (fun _ => ?_)
                simp only [Act.put, List.setIfInBounds_toArray, List.set_cons_zero, List.set_cons_succ]
                refine wpAnyL_done (by kernel_rfl) ?_ _
                go_wp2_with fail
                go_roundw
                case rel => exact ⟨j + 1, by omega, by go_num, by rw [HST.out]; exact HS2.out⟩
                case measure => simp [intOf]; omega
              · have hd3 : ¬ (t = tk) := hd
                obtain ⟨rr, hrr⟩ : ∃ rr, rr = fillO L (vsOf L) A s.out s.ch (q : Int) tk := ⟨_, rfl⟩
                have HST := hid (show insO L (vsOf L) A ((4 : Int) == 4) (sOf (vsOf L) (k : Int)) ⟨out, ch, []⟩ (xi.take (j + 1)) = ⟨rr.out ++ [⟨3, 0, rr.inn⟩], rr.ch, s.inn ++ [(rr.out.length : Int)]⟩ from by
                  rw [HSN.out]; unfold stepO; rw [if_pos ⟨by decide, by rw [HTT.out, HTK.out]; exact hd⟩, HTK.out, hrr])
                have hrl : rr.out.length + 2 ≤ 65536 := by
                  have := HBD1.out
                  rw [← HSN.out, HST.out] at this
                  simp only [List.length_append, List.length_cons, List.length_nil] at this
                  omega
                have hgO : (Value.slice pO s.out.length cO).ownBlock ≠ some gB := fun e => by
                  obtain ⟨cs, hc⟩ := own_type h1.outs.row e
                  obtain ⟨cs2, hr⟩ := h7
                  rw [hr.1] at hc; injection hc with hc; injection hc with _ e _; cases e
                have HFC := hid (filled_c wr.drew w.heap.size sb mb gB L.length n _ _ vAt L s.out (vs0 ++ vs1) (vsOf L) A s.ch k1 q tk (h1.below (Below.refl _ wr).drew) h2 h8.size ((HNN.out.below h8).below (Below.refl _ wr).drew) (h7.below (Below.refl _ wr).drew h7.lt) (vsOf_length L) ((HT.out.below HT.out.lt h8).below (HT.out.below HT.out.lt h8).lt (Below.refl _ wr).drew)
                  (by have := HAK.out; omega) (by have := HAK.out; omega) r4 (by rw [nOf_nat L q hql]; intro x hx; have := ins_lt HFT.out hql x hx; have := HAK.out; omega) (by rw [nOf_nat L q hql]; exact HINS.out _ (List.getElem_mem hql)) hgO (by rw [← hrr]; omega))
                rw [← hrr] at HFC
                have HRL := hid hrl
                clear hrr hd hgO hrl
                go_wp2_with fail
                refine Go.Proofs.YtpdbfbjfodckgaaDoor.wp_region_L 20 18 (fun w' => w'.cell? ⟨wo.heap.size, 0, none⟩ = some (.int .i64 4) ∧ w'.cell? ⟨sb, 2, none⟩ = some (.slice (some ⟨gB, 0, none⟩) L.length L.length) ∧ (w'.cell? ⟨gB, q * 2, none⟩ = some (.int .u64 ((lw (t)).toNat : Int)) ∧ w'.cell? ⟨gB, q * 2 + 1, none⟩ = some (.int .u64 ((hw (t)).toNat : Int))) ∧ (w'.cell? ⟨gB, k * 2, none⟩ = some (.int .u64 ((lw (tk)).toNat : Int)) ∧ w'.cell? ⟨gB, k * 2 + 1, none⟩ = some (.int .u64 ((hw (tk)).toNat : Int)))) (by kernel_rfl) rfl ⟨BK.out, BB.out, BT.out, BTK.out⟩ (fun _ => ?_)
                refine wpAnyL_pure (i := 0) (v := .pointer (some ⟨wo.heap.size, 0, none⟩)) (by simp only [List.getElem?_toArray, List.getElem?_cons_zero] <;> rfl) (by kernel_rfl) (by kernel_rfl) (by kernel_rfl) (by exact fun _ _ _ h => h) (by decide) (.inr ⟨BK.out, BB.out, BT.out, BTK.out⟩) (Or.inl ⟨by rfl, fun w _ => (by simp [execOp, go_sem, Act.eval])⟩) (fun _ => ?_)
                simp only [Act.put, List.setIfInBounds_toArray, List.set_cons_zero, List.set_cons_succ]
                refine wpAnyL_load2 (i := 1) (v := .int .i64 4) (by simp only [List.getElem?_toArray, List.getElem?_cons_zero, List.getElem?_cons_succ] <;> rfl) (by kernel_rfl) (by kernel_rfl) (by kernel_rfl) (by exact fun _ _ _ h => h) (by decide) (Waits.more (j := 3) rfl ⟨⟨3, .guard⟩, by simp, rfl, rfl⟩ (Waits.more (j := 2) rfl ⟨⟨2, .data⟩, by simp, rfl, rfl⟩ (Waits.one rfl ⟨⟨1, .data⟩, by simp, rfl, rfl⟩))) (by kernel_rfl) (by kernel_rfl) (.inr ⟨BK.out, BB.out, BT.out, BTK.out⟩) (Or.inl ⟨by rfl, fun w hw => (by obtain ⟨x0, _, _, _⟩ := hw; simp [execOp, go_sem, Act.eval, x0])⟩) (fun _ => ?_)
                simp only [Act.put, List.setIfInBounds_toArray, List.set_cons_zero, List.set_cons_succ]
                refine wpAnyL_pure (i := 2) (v := .bool true) (by simp only [List.getElem?_toArray, List.getElem?_cons_zero, List.getElem?_cons_succ] <;> rfl) (by kernel_rfl) (by kernel_rfl) (by kernel_rfl) (by exact fun _ _ _ h => h) (by decide) (.inr ⟨BK.out, BB.out, BT.out, BTK.out⟩) (Or.inl ⟨by rfl, fun w _ => (by simp [execOp, go_sem, Act.eval])⟩) (fun _ => ?_)
                simp only [Act.put, List.setIfInBounds_toArray, List.set_cons_zero, List.set_cons_succ]
                refine wpAnyL_pure (i := 3) (v := .bool true) (by simp only [List.getElem?_toArray, List.getElem?_cons_zero, List.getElem?_cons_succ] <;> rfl) (by kernel_rfl) (by kernel_rfl) (by kernel_rfl) (by exact fun _ _ _ h => h) (by decide) (.inr ⟨BK.out, BB.out, BT.out, BTK.out⟩) (Or.inl ⟨by rfl, fun w _ => (by simp [execOp, go_sem, Act.eval])⟩) (fun _ => ?_)
                simp only [Act.put, List.setIfInBounds_toArray, List.set_cons_zero, List.set_cons_succ]
                refine wpAnyL_pure (i := 4) (v := .pointer (some ⟨sb, 0, none⟩)) (by simp only [List.getElem?_toArray, List.getElem?_cons_zero, List.getElem?_cons_succ] <;> rfl) (by kernel_rfl) (by kernel_rfl) (by kernel_rfl) (by exact fun _ _ _ h => h) (by decide) (.inr ⟨BK.out, BB.out, BT.out, BTK.out⟩) (Or.inl ⟨by rfl, fun w _ => (by simp [execOp, go_sem, Act.eval])⟩) (fun _ => ?_)
                simp only [Act.put, List.setIfInBounds_toArray, List.set_cons_zero, List.set_cons_succ]
                refine wpAnyL_pure (i := 5) (v := .pointer (some ⟨sb, 0, none⟩)) (by simp only [List.getElem?_toArray, List.getElem?_cons_zero, List.getElem?_cons_succ] <;> rfl) (by kernel_rfl) (by kernel_rfl) (by kernel_rfl) (by exact fun _ _ _ h => h) (by decide) (.inr ⟨BK.out, BB.out, BT.out, BTK.out⟩) (Or.inl ⟨by rfl, fun w _ => (by simp [execOp, go_sem, Act.eval])⟩) (fun _ => ?_)
                simp only [Act.put, List.setIfInBounds_toArray, List.set_cons_zero, List.set_cons_succ]
                refine wpAnyL_pure (i := 6) (v := .pointer (some ⟨sb, 2, none⟩)) (by simp only [List.getElem?_toArray, List.getElem?_cons_zero, List.getElem?_cons_succ] <;> rfl) (by kernel_rfl) (by kernel_rfl) (by kernel_rfl) (by exact fun _ _ _ h => h) (by decide) (.inr ⟨BK.out, BB.out, BT.out, BTK.out⟩) (Or.inl ⟨by rfl, fun w _ => (by simp [execOp, go_sem, Act.eval])⟩) (fun _ => ?_)
                simp only [Act.put, List.setIfInBounds_toArray, List.set_cons_zero, List.set_cons_succ]
                refine wpAnyL_load2 (i := 7) (v := .slice (some ⟨gB, 0, none⟩) L.length L.length) (by simp only [List.getElem?_toArray, List.getElem?_cons_zero, List.getElem?_cons_succ] <;> rfl) (by kernel_rfl) (by kernel_rfl) (by kernel_rfl) (by exact fun _ _ _ h => h) (by decide) (Waits.more (j := 10) rfl ⟨⟨10, .data⟩, by simp, rfl, rfl⟩ (Waits.more (j := 9) rfl ⟨⟨9, .data⟩, by simp, rfl, rfl⟩ (Waits.one rfl ⟨⟨7, .data⟩, by simp, rfl, rfl⟩))) (by kernel_rfl) (by kernel_rfl) (.inr ⟨BK.out, BB.out, BT.out, BTK.out⟩) (Or.inl ⟨by rfl, fun w hw => (by obtain ⟨_, x1, _, _⟩ := hw; simp [execOp, go_sem, Act.eval, x1])⟩) (fun _ => ?_)
                simp only [Act.put, List.setIfInBounds_toArray, List.set_cons_zero, List.set_cons_succ]
                refine wpAnyL_pure (i := 8) (v := .int .i64 (q : Int)) (by simp only [List.getElem?_toArray, List.getElem?_cons_zero, List.getElem?_cons_succ] <;> rfl) (by kernel_rfl) (by kernel_rfl) (by kernel_rfl) (by exact fun _ _ _ h => h) (by decide) (.inr ⟨BK.out, BB.out, BT.out, BTK.out⟩) (Or.inl ⟨by rfl, fun w _ => (by simp [execOp, go_sem, Act.eval])⟩) (fun _ => ?_)
                simp only [Act.put, List.setIfInBounds_toArray, List.set_cons_zero, List.set_cons_succ]
                refine wpAnyL_pure (i := 9) (v := .pointer (some ⟨gB, q * 2, none⟩)) (by simp only [List.getElem?_toArray, List.getElem?_cons_zero, List.getElem?_cons_succ] <;> rfl) (by kernel_rfl) (by kernel_rfl) (by kernel_rfl) (by exact fun _ _ _ h => h) (by decide) (.inr ⟨BK.out, BB.out, BT.out, BTK.out⟩) (Or.inl ⟨by rfl, fun w _ => (by simp [execOp, go_sem, Act.eval, zq])⟩) (fun _ => ?_)
                simp only [Act.put, List.setIfInBounds_toArray, List.set_cons_zero, List.set_cons_succ]
                refine wpAnyL_load2 (i := 10) (v := encS (t)) (by simp only [List.getElem?_toArray, List.getElem?_cons_zero, List.getElem?_cons_succ] <;> rfl) (by kernel_rfl) (by kernel_rfl) (by kernel_rfl) (by exact fun _ _ _ h => h) (by decide) (Waits.one rfl ⟨⟨10, .data⟩, by simp, rfl, rfl⟩) (by kernel_rfl) (by kernel_rfl) (.inr ⟨BK.out, BB.out, BT.out, BTK.out⟩) (Or.inl ⟨by rfl, fun w hw => (by obtain ⟨_, _, ⟨y2, z2⟩, _⟩ := hw; simp [execOp, go_sem, Act.eval, y2, z2])⟩) (fun _ => ?_)
                simp only [Act.put, List.setIfInBounds_toArray, List.set_cons_zero, List.set_cons_succ]
                refine wpAnyL_pure (i := 11) (v := .pointer (some ⟨sb, 0, none⟩)) (by simp only [List.getElem?_toArray, List.getElem?_cons_zero, List.getElem?_cons_succ] <;> rfl) (by kernel_rfl) (by kernel_rfl) (by kernel_rfl) (by exact fun _ _ _ h => h) (by decide) (.inr ⟨BK.out, BB.out, BT.out, BTK.out⟩) (Or.inl ⟨by rfl, fun w _ => (by simp [execOp, go_sem, Act.eval])⟩) (fun _ => ?_)
                simp only [Act.put, List.setIfInBounds_toArray, List.set_cons_zero, List.set_cons_succ]
                refine wpAnyL_pure (i := 12) (v := .pointer (some ⟨sb, 0, none⟩)) (by simp only [List.getElem?_toArray, List.getElem?_cons_zero, List.getElem?_cons_succ] <;> rfl) (by kernel_rfl) (by kernel_rfl) (by kernel_rfl) (by exact fun _ _ _ h => h) (by decide) (.inr ⟨BK.out, BB.out, BT.out, BTK.out⟩) (Or.inl ⟨by rfl, fun w _ => (by simp [execOp, go_sem, Act.eval])⟩) (fun _ => ?_)
                simp only [Act.put, List.setIfInBounds_toArray, List.set_cons_zero, List.set_cons_succ]
                refine wpAnyL_pure (i := 13) (v := .pointer (some ⟨sb, 2, none⟩)) (by simp only [List.getElem?_toArray, List.getElem?_cons_zero, List.getElem?_cons_succ] <;> rfl) (by kernel_rfl) (by kernel_rfl) (by kernel_rfl) (by exact fun _ _ _ h => h) (by decide) (.inr ⟨BK.out, BB.out, BT.out, BTK.out⟩) (Or.inl ⟨by rfl, fun w _ => (by simp [execOp, go_sem, Act.eval])⟩) (fun _ => ?_)
                simp only [Act.put, List.setIfInBounds_toArray, List.set_cons_zero, List.set_cons_succ]
                refine wpAnyL_load2 (i := 14) (v := .slice (some ⟨gB, 0, none⟩) L.length L.length) (by simp only [List.getElem?_toArray, List.getElem?_cons_zero, List.getElem?_cons_succ] <;> rfl) (by kernel_rfl) (by kernel_rfl) (by kernel_rfl) (by exact fun _ _ _ h => h) (by decide) (Waits.more (j := 17) rfl ⟨⟨17, .data⟩, by simp, rfl, rfl⟩ (Waits.more (j := 16) rfl ⟨⟨16, .data⟩, by simp, rfl, rfl⟩ (Waits.one rfl ⟨⟨14, .data⟩, by simp, rfl, rfl⟩))) (by kernel_rfl) (by kernel_rfl) (.inr ⟨BK.out, BB.out, BT.out, BTK.out⟩) (Or.inl ⟨by rfl, fun w hw => (by obtain ⟨_, x1, _, _⟩ := hw; simp [execOp, go_sem, Act.eval, x1])⟩) (fun _ => ?_)
                simp only [Act.put, List.setIfInBounds_toArray, List.set_cons_zero, List.set_cons_succ]
                refine wpAnyL_pure (i := 15) (v := .int .i64 (k : Int)) (by simp only [List.getElem?_toArray, List.getElem?_cons_zero, List.getElem?_cons_succ] <;> rfl) (by kernel_rfl) (by kernel_rfl) (by kernel_rfl) (by exact fun _ _ _ h => h) (by decide) (.inr ⟨BK.out, BB.out, BT.out, BTK.out⟩) (Or.inl ⟨by rfl, fun w _ => (by simp [execOp, go_sem, Act.eval])⟩) (fun _ => ?_)
                simp only [Act.put, List.setIfInBounds_toArray, List.set_cons_zero, List.set_cons_succ]
                refine wpAnyL_pure (i := 16) (v := .pointer (some ⟨gB, k * 2, none⟩)) (by simp only [List.getElem?_toArray, List.getElem?_cons_zero, List.getElem?_cons_succ] <;> rfl) (by kernel_rfl) (by kernel_rfl) (by kernel_rfl) (by exact fun _ _ _ h => h) (by decide) (.inr ⟨BK.out, BB.out, BT.out, BTK.out⟩) (Or.inl ⟨by rfl, fun w _ => (by simp [execOp, go_sem, Act.eval, zk])⟩) (fun _ => ?_)
                simp only [Act.put, List.setIfInBounds_toArray, List.set_cons_zero, List.set_cons_succ]
                refine wpAnyL_load2 (i := 17) (v := encS (tk)) (by simp only [List.getElem?_toArray, List.getElem?_cons_zero, List.getElem?_cons_succ] <;> rfl) (by kernel_rfl) (by kernel_rfl) (by kernel_rfl) (by exact fun _ _ _ h => h) (by decide) (Waits.one rfl ⟨⟨17, .data⟩, by simp, rfl, rfl⟩) (by kernel_rfl) (by kernel_rfl) (.inr ⟨BK.out, BB.out, BT.out, BTK.out⟩) (Or.inl ⟨by rfl, fun w hw => (by obtain ⟨_, _, _, ⟨y3, z3⟩⟩ := hw; simp [execOp, go_sem, Act.eval, y3, z3])⟩) (fun _ => ?_)
                simp only [Act.put, List.setIfInBounds_toArray, List.set_cons_zero, List.set_cons_succ]
                refine wpAnyL_one (i := 18) (by kernel_rfl) (by simp only [List.getElem?_toArray, List.getElem?_cons_zero, List.getElem?_cons_succ] <;> rfl) (by rfl) ?_
                refine opwp_value (v := .bool true) (w' := wr.drew) (by simp [execOp, go_sem, Act.eval, hd3]) ⟨.inl (by kernel_rfl), ?_⟩
                simp only [Act.put, List.setIfInBounds_toArray, List.set_cons_zero, List.set_cons_succ]
                refine wpAnyL_pure (i := 19) (v := .bool true) (by simp only [List.getElem?_toArray, List.getElem?_cons_zero, List.getElem?_cons_succ] <;> rfl) (by kernel_rfl) (by kernel_rfl) (by kernel_rfl) (by exact fun _ _ _ h => h) (by decide) (.inl (by kernel_rfl)) (Or.inl ⟨by rfl, fun w _ => (by simp [execOp, go_sem, Act.eval])⟩) (fun _ => ?_)
                simp only [Act.put, List.setIfInBounds_toArray, List.set_cons_zero, List.set_cons_succ]
                refine wpAnyL_done (by kernel_rfl) ?_ _
                go_wp2_with fail
                refine HFC.out.mono ?_
                rintro e w7 ⟨rfl, ⟨vO7, vs7, k7, S7, K7, G7⟩, F7⟩
                have hgw : wo.heap.size < gm := HGM.out
                obtain ⟨⟨yy, c1⟩, c2, SI7⟩ := smi_fill (z := (rr.out.length : Int)) (h1.below (Below.refl _ wr).drew) (h3.below (Below.refl _ wr).drew) h4 (h5.below (Below.refl _ wr).drew h10) h6 (h7.below (Below.refl _ wr).drew h7.lt) h8.drew (h9.below (Below.refl _ wr).drew h9.lt) (fun u hu j e => by have := HV0.out u hu j e; omega) (fun e => by have := HAT0.out gm e; omega) S7 (by rw [List.length_append]; omega) G7 F7
                rw [HIL.out] at c1 c2 SI7
                have t47 := S7.box.get.2.2.2.2.1
                obtain ⟨pO7, cO7, eO7, hdrop⟩ := S7.outs.nodes
                have hm7 : (rr.out ++ [(⟨3, 0, rr.inn⟩ : NodeT)]).length = rr.out.length + 1 := by simp
                rw [hm7] at eO7
                have zl7 : ¬ 65536 < ((rr.out.length + 1 : Nat) : Int) := by have := HRL.out; omega
                generalize rr.out.length + 1 = m7 at eO7 zl7
                subst eO7
                have hsg : ¬ sb = gm := fun e => by
                  subst e
                  obtain ⟨cs, hc⟩ := own_type h3 (k := sb) rfl
                  have := h1.box; unfold SmBox at this; rw [hc] at this; injection this with this; injection this with _ e _; cases e
                have hgs : ¬ gm = sb := fun e => hsg e.symm
                have HS7 := hid SI7
                have hsl7 := S7.box.lt
                clear hdrop hm7 S7 K7 G7 F7 SI7 h1 h3 h5 h7 h9 t4 zl
                go_wp2_with fail
                go_roundw
                case rel => exact ⟨j + 1, by omega, by go_num, by rw [HST.out]; exact HS7.out⟩
                case measure => simp [intOf]; omega
            · have HST := hid (show insO L (vsOf L) A (xk == 4) (sOf (vsOf L) (k : Int)) ⟨out, ch, []⟩ (xi.take (j + 1)) = ⟨s.out, s.ch, s.inn ++ [iOf A (q : Int)]⟩ from by
                rw [HSN.out]; unfold stepO; rw [if_neg (by simp [hx4])])
              have HS2 := hid (show SmI w wr.drew sb mb gB (w.heap.size + 1) wo.heap.size gm xi.length n (.slice (some ⟨b, off, none⟩) L.length c) vAt L A vs0 xk xl (.slice (some ⟨b2, o2, none⟩) xi.length c2) ⟨s.out, s.ch, s.inn ++ [iOf A (q : Int)]⟩ ((xi.drop (j + 1)).map (iOf A)) from by
                obtain ⟨a1, a2, a3, a4, a5, a6, a7⟩ := HSI.out.below (Below.refl _ wr).drew
                refine ⟨a1, a2, a3, a4, a5, ?_, a7⟩
                rw [List.append_assoc]; exact a6)
              go_wp2_with fail
              refine Go.Proofs.YtpdbfbjfodckgaaDoor.wp_region_L 20 2 (fun w' => w'.cell? ⟨wo.heap.size, 0, none⟩ = some (.int .i64 xk)) (by kernel_rfl) rfl BK.out (fun _ => ?_)
              refine wpAnyL_pure (i := 0) (v := .pointer (some ⟨wo.heap.size, 0, none⟩)) (by simp only [List.getElem?_toArray, List.getElem?_cons_zero] <;> rfl) (by kernel_rfl) (by kernel_rfl) (by kernel_rfl) (by exact fun _ _ _ h => h) (by decide) (.inr BK.out) (Or.inl ⟨by rfl, fun w _ => (by simp [execOp, go_sem, Act.eval])⟩) (fun _ => ?_)
              simp only [Act.put, List.setIfInBounds_toArray, List.set_cons_zero, List.set_cons_succ]
              refine wpAnyL_load2 (i := 1) (v := .int .i64 xk) (by simp only [List.getElem?_toArray, List.getElem?_cons_zero, List.getElem?_cons_succ] <;> rfl) (by kernel_rfl) (by kernel_rfl) (by kernel_rfl) (by exact fun _ _ _ h => h) (by decide) (Waits.one rfl ⟨⟨1, .data⟩, by simp, rfl, rfl⟩) (by kernel_rfl) (by kernel_rfl) (.inr BK.out) (Or.inl ⟨by rfl, fun w hw => (by have x0 := hw; simp [execOp, go_sem, Act.eval, x0])⟩) (fun _ => ?_)
              simp only [Act.put, List.setIfInBounds_toArray, List.set_cons_zero, List.set_cons_succ]
              refine wpAnyL_one (i := 2) (by kernel_rfl) (by simp only [List.getElem?_toArray, List.getElem?_cons_zero, List.getElem?_cons_succ] <;> rfl) (by rfl) ?_
              refine opwp_value (v := .bool false) (w' := wr.drew) (by simp [execOp, go_sem, Act.eval, hx4]) ⟨.inl (by kernel_rfl), ?_⟩
              simp only [Act.put, List.setIfInBounds_toArray, List.set_cons_zero, List.set_cons_succ]
              refine wpAnyL_pure (i := 3) (v := .bool false) (by simp only [List.getElem?_toArray, List.getElem?_cons_zero, List.getElem?_cons_succ] <;> rfl) (by kernel_rfl) (by kernel_rfl) (by kernel_rfl) (by exact fun _ _ _ h => h) (by decide) (.inl (by kernel_rfl)) (Or.inl ⟨by rfl, fun w _ => (by simp [execOp, go_sem, Act.eval])⟩) (fun _ => ?_)
              simp only [Act.put, List.setIfInBounds_toArray, List.set_cons_zero, List.set_cons_succ]
              refine wpAnyL_pure (i := 4) (v := undef) (by simp only [List.getElem?_toArray, List.getElem?_cons_zero, List.getElem?_cons_succ] <;> rfl) (by kernel_rfl) (by kernel_rfl) (by kernel_rfl) (by exact fun _ _ _ h => h) (by decide) (.inl (by kernel_rfl)) (Or.inr ⟨by rfl, rfl⟩) (fun _ => ?_)
              simp only [Act.put, List.setIfInBounds_toArray, List.set_cons_zero, List.set_cons_succ]
              refine wpAnyL_pure (i := 5) (v := undef) (by simp only [List.getElem?_toArray, List.getElem?_cons_zero, List.getElem?_cons_succ] <;> rfl) (by kernel_rfl) (by kernel_rfl) (by kernel_rfl) (by exact fun _ _ _ h => h) (by decide) (.inl (by kernel_rfl)) (Or.inr ⟨by rfl, rfl⟩) (fun _ => ?_)
              simp only [Act.put, List.setIfInBounds_toArray, List.set_cons_zero, List.set_cons_succ]
              refine wpAnyL_pure (i := 6) (v := undef) (by simp only [List.getElem?_toArray, List.getElem?_cons_zero, List.getElem?_cons_succ] <;> rfl) (by kernel_rfl) (by kernel_rfl) (by kernel_rfl) (by exact fun _ _ _ h => h) (by decide) (.inl (by kernel_rfl)) (Or.inr ⟨by rfl, rfl⟩) (fun _ => ?_)
              simp only [Act.put, List.setIfInBounds_toArray, List.set_cons_zero, List.set_cons_succ]
              refine wpAnyL_pure (i := 7) (v := undef) (by simp only [List.getElem?_toArray, List.getElem?_cons_zero, List.getElem?_cons_succ] <;> rfl) (by kernel_rfl) (by kernel_rfl) (by kernel_rfl) (by exact fun _ _ _ h => h) (by decide) (.inl (by kernel_rfl)) (Or.inr ⟨by rfl, rfl⟩) (fun _ => ?_)
              simp only [Act.put, List.setIfInBounds_toArray, List.set_cons_zero, List.set_cons_succ]
              refine wpAnyL_pure (i := 8) (v := undef) (by simp only [List.getElem?_toArray, List.getElem?_cons_zero, List.getElem?_cons_succ] <;> rfl) (by kernel_rfl) (by kernel_rfl) (by kernel_rfl) (by exact fun _ _ _ h => h) (by decide) (.inl (by kernel_rfl)) (Or.inr ⟨by rfl, rfl⟩) (fun _ => ?_)
              simp only [Act.put, List.setIfInBounds_toArray, List.set_cons_zero, List.set_cons_succ]
              refine wpAnyL_pure (i := 9) (v := undef) (by simp only [List.getElem?_toArray, List.getElem?_cons_zero, List.getElem?_cons_succ] <;> rfl) (by kernel_rfl) (by kernel_rfl) (by kernel_rfl) (by exact fun _ _ _ h => h) (by decide) (.inl (by kernel_rfl)) (Or.inr ⟨by rfl, rfl⟩) (fun _ => ?_)
              simp only [Act.put, List.setIfInBounds_toArray, List.set_cons_zero, List.set_cons_succ]
              refine wpAnyL_pure (i := 10) (v := undef) (by simp only [List.getElem?_toArray, List.getElem?_cons_zero, List.getElem?_cons_succ] <;> rfl) (by kernel_rfl) (by kernel_rfl) (by kernel_rfl) (by exact fun _ _ _ h => h) (by decide) (.inl (by kernel_rfl)) (Or.inr ⟨by rfl, rfl⟩) (fun _ => ?_)
              simp only [Act.put, List.setIfInBounds_toArray, List.set_cons_zero, List.set_cons_succ]
              refine wpAnyL_pure (i := 11) (v := undef) (by simp only [List.getElem?_toArray, List.getElem?_cons_zero, List.getElem?_cons_succ] <;> rfl) (by kernel_rfl) (by kernel_rfl) (by kernel_rfl) (by exact fun _ _ _ h => h) (by decide) (.inl (by kernel_rfl)) (Or.inr ⟨by rfl, rfl⟩) (fun _ => ?_)
              simp only [Act.put, List.setIfInBounds_toArray, List.set_cons_zero, List.set_cons_succ]
              refine wpAnyL_pure (i := 12) (v := undef) (by simp only [List.getElem?_toArray, List.getElem?_cons_zero, List.getElem?_cons_succ] <;> rfl) (by kernel_rfl) (by kernel_rfl) (by kernel_rfl) (by exact fun _ _ _ h => h) (by decide) (.inl (by kernel_rfl)) (Or.inr ⟨by rfl, rfl⟩) (fun _ => ?_)
              simp only [Act.put, List.setIfInBounds_toArray, List.set_cons_zero, List.set_cons_succ]
              refine wpAnyL_pure (i := 13) (v := undef) (by simp only [List.getElem?_toArray, List.getElem?_cons_zero, List.getElem?_cons_succ] <;> rfl) (by kernel_rfl) (by kernel_rfl) (by kernel_rfl) (by exact fun _ _ _ h => h) (by decide) (.inl (by kernel_rfl)) (Or.inr ⟨by rfl, rfl⟩) (fun _ => ?_)
              simp only [Act.put, List.setIfInBounds_toArray, List.set_cons_zero, List.set_cons_succ]
              refine wpAnyL_pure (i := 14) (v := undef) (by simp only [List.getElem?_toArray, List.getElem?_cons_zero, List.getElem?_cons_succ] <;> rfl) (by kernel_rfl) (by kernel_rfl) (by kernel_rfl) (by exact fun _ _ _ h => h) (by decide) (.inl (by kernel_rfl)) (Or.inr ⟨by rfl, rfl⟩) (fun _ => ?_)
              simp only [Act.put, List.setIfInBounds_toArray, List.set_cons_zero, List.set_cons_succ]
              refine wpAnyL_pure (i := 15) (v := undef) (by simp only [List.getElem?_toArray, List.getElem?_cons_zero, List.getElem?_cons_succ] <;> rfl) (by kernel_rfl) (by kernel_rfl) (by kernel_rfl) (by exact fun _ _ _ h => h) (by decide) (.inl (by kernel_rfl)) (Or.inr ⟨by rfl, rfl⟩) (fun _ => ?_)
              simp only [Act.put, List.setIfInBounds_toArray, List.set_cons_zero, List.set_cons_succ]
              refine wpAnyL_pure (i := 16) (v := undef) (by simp only [List.getElem?_toArray, List.getElem?_cons_zero, List.getElem?_cons_succ] <;> rfl) (by kernel_rfl) (by kernel_rfl) (by kernel_rfl) (by exact fun _ _ _ h => h) (by decide) (.inl (by kernel_rfl)) (Or.inr ⟨by rfl, rfl⟩) (fun _ => ?_)
              simp only [Act.put, List.setIfInBounds_toArray, List.set_cons_zero, List.set_cons_succ]
              refine wpAnyL_pure (i := 17) (v := undef) (by simp only [List.getElem?_toArray, List.getElem?_cons_zero, List.getElem?_cons_succ] <;> rfl) (by kernel_rfl) (by kernel_rfl) (by kernel_rfl) (by exact fun _ _ _ h => h) (by decide) (.inl (by kernel_rfl)) (Or.inr ⟨by rfl, rfl⟩) (fun _ => ?_)
              simp only [Act.put, List.setIfInBounds_toArray, List.set_cons_zero, List.set_cons_succ]
              refine wpAnyL_pure (i := 18) (v := undef) (by simp only [List.getElem?_toArray, List.getElem?_cons_zero, List.getElem?_cons_succ] <;> rfl) (by kernel_rfl) (by kernel_rfl) (by kernel_rfl) (by exact fun _ _ _ h => h) (by decide) (.inl (by kernel_rfl)) (Or.inr ⟨by rfl, rfl⟩) (fun _ => ?_)
              simp only [Act.put, List.setIfInBounds_toArray, List.set_cons_zero, List.set_cons_succ]
              refine wpAnyL_pure (i := 19) (v := .bool false) (by simp only [List.getElem?_toArray, List.getElem?_cons_zero, List.getElem?_cons_succ] <;> rfl) (by kernel_rfl) (by kernel_rfl) (by kernel_rfl) (by exact fun _ _ _ h => h) (by decide) (.inl (by kernel_rfl)) (Or.inl ⟨by rfl, fun w _ => (by simp [execOp, go_sem, Act.eval])⟩) (fun _ => ?_)
              simp only [Act.put, List.setIfInBounds_toArray, List.set_cons_zero, List.set_cons_succ]
              refine wpAnyL_done (by kernel_rfl) ?_ _
              go_wp2_with fail
              go_roundw
              case rel => exact ⟨j + 1, by omega, by go_num, by rw [HST.out]; exact HS2.out⟩
              case measure => simp [intOf]; omega
          · obtain rfl : j = xi.length := by omega
            have hsi2 := hsi.out
            rw [List.take_length, List.drop_length, List.map_nil] at hsi2
            obtain ⟨s, hs⟩ : ∃ s, s = insO L (vsOf L) A (xk == 4) (sOf (vsOf L) (k : Int)) ⟨out, ch, []⟩ xi := ⟨_, rfl⟩
            have hbd0 := HBD.out xi.length
            rw [List.take_length, ← hs] at hbd0
            rw [← hs] at hsi2
            have HS := hid hs
            obtain ⟨vO, vs1, k1, h1, h2, h3, h4, h5, h6, h7, h8, h9, h10⟩ := hsi2
            rw [List.append_nil] at h3
            obtain ⟨m0, m1, m2⟩ := h5.cells
            have mf : wr.frozen? ⟨wo.heap.size, 2, none⟩ = false := by unfold Box3 at h5; simp [World.frozen?, h5]
            clear hs hsi
            have hxw : w.heap.size ≤ wo.heap.size := HWS.out
            obtain ⟨g1, g5, g7, g8, g9, gi⟩ := xbox_set (vi' := .slice (some ⟨gm, 0, none⟩) xi.length xi.length) h1 h5 h6 h7 h8 h9 hxw
            have G1 := hid g1
            have G3 := hid (gi h3)
            have G5 := hid g5
            have G7 := hid g7
            have G8 := hid g8
            have G9 := hid g9
            have HVO := hid h6
            have HK := hid h2
            have HBD0 := hid hbd0
            have lxb : wo.heap.size < wr.heap.size := h10
            have hfar : ∀ j, (Value.slice (some ⟨gm, 0, none⟩) xi.length xi.length).ownBlock = some j → vAt.ownBlock ≠ some j := fun j e e2 => by
              injection e with e
              have e3 : gm = j := e
              have := HAT0.out j e2
              have := HGM.out
              omega
            have HFAR := hid hfar
            obtain ⟨pA, cA, eA, hdrop⟩ := h1.ats.ints
            subst eA
            clear hdrop hfar g1 g5 g7 g8 g9 gi h1 h2 h3 h4 h5 h6 h7 h8 h9 hbd0
            go_wp2_with fail
            generalize wr.setCell ⟨wo.heap.size, 2, none⟩ (.slice (some ⟨gm, 0, none⟩) xi.length xi.length) = w8 at *
            have HSL := hid (show s.inn.length = xi.length from by rw [HS.out, insO_inn]; show 0 + _ = _; omega)
            have G1d := hid (G1.out.below (w' := w8.drew) (Below.refl _ w8).drew)
            have G5d := hid (show Box3 w8.drew wo.heap.size 39 (.int .i64 xk) (.int .i64 xl) (.slice (some ⟨gm, 0, none⟩) xi.length xi.length) from G5.out)
            have C5 : Hid (w8.drew.cell? ⟨sb, 5, none⟩ = some (.slice pA A.length cA)) := G1.out.box.get.2.2.2.2.2.1
            have X0 : Hid (w8.drew.cell? ⟨wo.heap.size, 0, none⟩ = some (.int .i64 xk)) := G5.out.cells.1
            have X1 : Hid (w8.drew.cell? ⟨wo.heap.size, 1, none⟩ = some (.int .i64 xl)) := G5.out.cells.2.1
            have X2 : Hid (w8.drew.cell? ⟨wo.heap.size, 2, none⟩ = some (.slice (some ⟨gm, 0, none⟩) xi.length xi.length)) := G5.out.cells.2.2
            refine Go.Proofs.YtpdbfbjfodckgaaDoor.wp_region_L 13 9 (fun w' => w'.cell? ⟨sb, 5, none⟩ = some (.slice pA A.length cA) ∧ w'.cell? ⟨wo.heap.size, 0, none⟩ = some (.int .i64 xk) ∧ w'.cell? ⟨wo.heap.size, 1, none⟩ = some (.int .i64 xl) ∧ w'.cell? ⟨wo.heap.size, 2, none⟩ = some (.slice (some ⟨gm, 0, none⟩) xi.length xi.length)) (by kernel_rfl) rfl ⟨C5.out, X0.out, X1.out, X2.out⟩ (fun _ => ?_)
            refine wpAnyL_pure (i := 0) (v := .pointer (some ⟨sb, 0, none⟩)) (by simp only [List.getElem?_toArray, List.getElem?_cons_zero] <;> rfl) (by kernel_rfl) (by kernel_rfl) (by kernel_rfl) (by exact fun _ _ _ h => h) (by decide) (.inr ⟨C5.out, X0.out, X1.out, X2.out⟩) (Or.inl ⟨by rfl, fun w _ => (by simp [execOp, go_sem, Act.eval])⟩) (fun _ => ?_)
            simp only [Act.put, List.setIfInBounds_toArray, List.set_cons_zero, List.set_cons_succ]
            refine wpAnyL_pure (i := 1) (v := .pointer (some ⟨sb, 0, none⟩)) (by simp only [List.getElem?_toArray, List.getElem?_cons_zero, List.getElem?_cons_succ] <;> rfl) (by kernel_rfl) (by kernel_rfl) (by kernel_rfl) (by exact fun _ _ _ h => h) (by decide) (.inr ⟨C5.out, X0.out, X1.out, X2.out⟩) (Or.inl ⟨by rfl, fun w _ => (by simp [execOp, go_sem, Act.eval])⟩) (fun _ => ?_)
            simp only [Act.put, List.setIfInBounds_toArray, List.set_cons_zero, List.set_cons_succ]
            refine wpAnyL_pure (i := 2) (v := .pointer (some ⟨sb, 0, none⟩)) (by simp only [List.getElem?_toArray, List.getElem?_cons_zero, List.getElem?_cons_succ] <;> rfl) (by kernel_rfl) (by kernel_rfl) (by kernel_rfl) (by exact fun _ _ _ h => h) (by decide) (.inr ⟨C5.out, X0.out, X1.out, X2.out⟩) (Or.inl ⟨by rfl, fun w _ => (by simp [execOp, go_sem, Act.eval])⟩) (fun _ => ?_)
            simp only [Act.put, List.setIfInBounds_toArray, List.set_cons_zero, List.set_cons_succ]
            refine wpAnyL_pure (i := 3) (v := .pointer (some ⟨sb, 5, none⟩)) (by simp only [List.getElem?_toArray, List.getElem?_cons_zero, List.getElem?_cons_succ] <;> rfl) (by kernel_rfl) (by kernel_rfl) (by kernel_rfl) (by exact fun _ _ _ h => h) (by decide) (.inr ⟨C5.out, X0.out, X1.out, X2.out⟩) (Or.inl ⟨by rfl, fun w _ => (by simp [execOp, go_sem, Act.eval])⟩) (fun _ => ?_)
            simp only [Act.put, List.setIfInBounds_toArray, List.set_cons_zero, List.set_cons_succ]
            refine wpAnyL_load2 (i := 4) (v := .slice pA A.length cA) (by simp only [List.getElem?_toArray, List.getElem?_cons_zero, List.getElem?_cons_succ] <;> rfl) (by kernel_rfl) (by kernel_rfl) (by kernel_rfl) (by exact fun _ _ _ h => h) (by decide) (Waits.one rfl ⟨⟨4, .data⟩, by simp, rfl, rfl⟩) (by kernel_rfl) (by kernel_rfl) (.inr ⟨C5.out, X0.out, X1.out, X2.out⟩) (Or.inl ⟨by rfl, fun w hw => (by obtain ⟨x0, _, _, _⟩ := hw; simp [execOp, go_sem, Act.eval, x0])⟩) (fun _ => ?_)
            simp only [Act.put, List.setIfInBounds_toArray, List.set_cons_zero, List.set_cons_succ]
            refine wpAnyL_pure (i := 5) (v := .pointer (some ⟨sb, 0, none⟩)) (by simp only [List.getElem?_toArray, List.getElem?_cons_zero, List.getElem?_cons_succ] <;> rfl) (by kernel_rfl) (by kernel_rfl) (by kernel_rfl) (by exact fun _ _ _ h => h) (by decide) (.inr ⟨C5.out, X0.out, X1.out, X2.out⟩) (Or.inl ⟨by rfl, fun w _ => (by simp [execOp, go_sem, Act.eval])⟩) (fun _ => ?_)
            simp only [Act.put, List.setIfInBounds_toArray, List.set_cons_zero, List.set_cons_succ]
            refine wpAnyL_load2 (i := 6) (v := .agg #[.int .i64 xk, .int .i64 xl, .slice (some ⟨gm, 0, none⟩) xi.length xi.length]) (by simp only [List.getElem?_toArray, List.getElem?_cons_zero, List.getElem?_cons_succ] <;> rfl) (by kernel_rfl) (by kernel_rfl) (by kernel_rfl) (by exact fun _ _ _ h => h) (by decide) (Waits.more (j := 7) rfl ⟨⟨7, .chain⟩, by simp, rfl, rfl⟩ (Waits.one rfl ⟨⟨6, .data⟩, by simp, rfl, rfl⟩)) (by kernel_rfl) (by kernel_rfl) (.inr ⟨C5.out, X0.out, X1.out, X2.out⟩) (Or.inl ⟨by rfl, fun w hw => (by obtain ⟨_, x1, x2, x3⟩ := hw; simp [execOp, go_sem, Act.eval, x1, x2, x3])⟩) (fun _ => ?_)
            simp only [Act.put, List.setIfInBounds_toArray, List.set_cons_zero, List.set_cons_succ]
            refine wpAnyL_one (i := 7) (by kernel_rfl) (by simp only [List.getElem?_toArray, List.getElem?_cons_zero, List.getElem?_cons_succ] <;> rfl) (by rfl) ?_
            refine opwp_call (f := 40) (args := #[.pointer (some ⟨sb, 0, none⟩), .agg #[.int .i64 xk, .int .i64 xl, .slice (some ⟨gm, 0, none⟩) xi.length xi.length]]) (w' := w8.drew) (by simp [go_sem, Act.eval]) ?_
            refine ((G1d.out.add (xk := xk) (xl := xl) G8.out.size G3.out (by have := HSL.out; omega) HFAR.out (by have := HBD0.out; omega) rfl)).mono ?_
            rintro e w9 ⟨rfl, ⟨vO9, S9⟩, F9⟩
            have hcd1_0 := hid (S9.box.get.2.2.2.2.2.1)
            have hcd1_1 := hid ((box3_fr G1d.out G5d.out HVO.out F9).cells.1)
            have hcd1_2 := hid ((box3_fr G1d.out G5d.out HVO.out F9).cells.2.1)
            have hcd1_3 := hid ((box3_fr G1d.out G5d.out HVO.out F9).cells.2.2)
            refine .inl ⟨_, rfl, .inr ⟨hcd1_0.out, hcd1_1.out, hcd1_2.out, hcd1_3.out⟩, ?_⟩
            simp only [Act.put, List.setIfInBounds_toArray, List.set_cons_zero, List.set_cons_succ]
            have hbA : Below w9.heap.size w9 (w9.alloc (.cells #[.int .i64 (s.out.length : Int)] 3)) := (Below.refl _ w9).alloc (Nat.le_refl _) _
            have ha_0 := hid ((hbA.cell (cell_lt hcd1_0.out)).trans hcd1_0.out)
            have ha_1 := hid ((hbA.cell (cell_lt hcd1_1.out)).trans hcd1_1.out)
            have ha_2 := hid ((hbA.cell (cell_lt hcd1_2.out)).trans hcd1_2.out)
            have ha_3 := hid ((hbA.cell (cell_lt hcd1_3.out)).trans hcd1_3.out)
            refine wpAnyL_one (i := 8) (by kernel_rfl) (by simp only [List.getElem?_toArray, List.getElem?_cons_zero, List.getElem?_cons_succ] <;> rfl) (by rfl) ?_
            refine opwp_value (v := .slice (some ⟨w9.heap.size, 0, none⟩) 1 1) (w' := w9.alloc (.cells #[.int .i64 (s.out.length : Int)] 3)) (by simp [execOp, go_sem, Act.eval]) ⟨.inr ⟨ha_0.out, ha_1.out, ha_2.out, ha_3.out⟩, ?_⟩
            simp only [Act.put, List.setIfInBounds_toArray, List.set_cons_zero, List.set_cons_succ]
            refine wpAnyL_one (i := 9) (by kernel_rfl) (by simp only [List.getElem?_toArray, List.getElem?_cons_zero, List.getElem?_cons_succ] <;> rfl) (by rfl) ?_
            have HS9 := hid (S9.below hbA)
            refine wp_append_lies _ _ _ 33 rfl w.heap.size 3 i0 (.int .i64 0) 1 8 Tryd.underlying33 hi0 hz0 hz1 hz2 rfl (by decide) (.slice pA A.length cA) A.length (A.map (Value.int .i64)) rfl HS9.out.ats ⟨w9.heap.size, 0, none⟩ 1 1 [.int .i64 (s.out.length : Int)] rfl (by simp) (World.news_of_block (heap_alloc_new w9 _)) (by simp [Value.oneCell']) (by omega) (by unfold maxLen; have := HAK.out; omega) (by have := HAK.out; omega) (Nat.le_trans G8.out.size (Nat.le_trans F9.size hbA.size)) _ rfl ?_
            intro gg cap w10 hown hgrow hat hlt
            obtain ⟨e1, e2, e3, e4⟩ := at_step S9 (own_snoc hown) hgrow (show _ ∨ _ ∨ _ from by rcases hat with h | h; exact .inr (.inl h.symm); exact .inr (.inr (by rw [h]; rfl)))
            have y5 := e1.get.2.2.2.2.2.1
            have f5 := e1.free 5
            refine ⟨.inl (by kernel_rfl), ?_⟩
            simp only [Act.put, List.setIfInBounds_toArray, List.set_cons_zero, List.set_cons_succ]
            refine wpAnyL_pure (i := 10) (v := .pointer (some ⟨sb, 0, none⟩)) (by simp only [List.getElem?_toArray, List.getElem?_cons_zero, List.getElem?_cons_succ] <;> rfl) (by kernel_rfl) (by kernel_rfl) (by kernel_rfl) (by exact fun _ _ _ h => h) (by decide) (.inl (by kernel_rfl)) (Or.inl ⟨by rfl, fun w _ => (by simp [execOp, go_sem, Act.eval])⟩) (fun _ => ?_)
            simp only [Act.put, List.setIfInBounds_toArray, List.set_cons_zero, List.set_cons_succ]
            refine wpAnyL_pure (i := 11) (v := .pointer (some ⟨sb, 5, none⟩)) (by simp only [List.getElem?_toArray, List.getElem?_cons_zero, List.getElem?_cons_succ] <;> rfl) (by kernel_rfl) (by kernel_rfl) (by kernel_rfl) (by exact fun _ _ _ h => h) (by decide) (.inl (by kernel_rfl)) (Or.inl ⟨by rfl, fun w _ => (by simp [execOp, go_sem, Act.eval])⟩) (fun _ => ?_)
            simp only [Act.put, List.setIfInBounds_toArray, List.set_cons_zero, List.set_cons_succ]
            refine wpAnyL_one (i := 12) (by kernel_rfl) (by simp only [List.getElem?_toArray, List.getElem?_cons_zero, List.getElem?_cons_succ] <;> rfl) (by rfl) ?_
            refine opwp_skip (w' := (w10.setCell ⟨sb, 5, none⟩ (.slice (some ⟨gg, 0, none⟩) (A.length + 1) cap))) (by simp [execOp, go_sem, Act.eval, y5, f5]) ⟨.inl (by kernel_rfl), ?_⟩
            simp only [Act.put]
            refine wpAnyL_done (by kernel_rfl) ?_ _
            have hlow9 := G1d.out.low F9 G8.out.drew
            have hlow10 : Below w.heap.size w (w10.setCell ⟨sb, 5, none⟩ (.slice (some ⟨gg, 0, none⟩) (A.length + 1) cap)) := ((hlow9.alloc hlow9.size _).grown hgrow (Nat.le_trans hlow9.size hbA.size) (fun j e => (own_ge S9.ats e).1)).setCell (p := ⟨sb, 5, none⟩) S9.hs _
            have hset : ∀ (j : Nat) (cs : Array Value) (T : TypeId), w9.heap[j]? = some (.cells cs T (0, 0)) → T ≠ 57 → T ≠ 3 → (w10.setCell ⟨sb, 5, none⟩ (.slice (some ⟨gg, 0, none⟩) (A.length + 1) cap)).heap[j]? = w9.heap[j]? := fun j cs T hj h1 h2 =>
              e3 j (Array.getElem?_eq_some_iff.1 hj).1 (fun e => by subst e; have := S9.box; unfold SmBox at this; rw [hj] at this; injection this with this; injection this with _ e _; exact h1 e) (fun e => by obtain ⟨cs', hc⟩ := own_type S9.ats e; rw [hj] at hc; injection hc with hc; injection hc with _ e _; exact h2 e)
            have hrow11 : SetRow (w10.setCell ⟨sb, 5, none⟩ (.slice (some ⟨gg, 0, none⟩) (A.length + 1) cap)) gB (vsOf L) := by
              obtain ⟨cs, hr⟩ := G7.out
              have h9 : w9.heap[gB]? = some (.cells cs 42 (0, 0)) := (G1d.out.keep F9 (show w8.drew.heap[gB]? = _ from hr.1) (by decide) (by decide)).trans hr.1
              exact (show SetRow w9 gB (vsOf L) from ⟨cs, h9, hr.2⟩).same (hset _ _ _ h9 (by decide) (by decide))
            have hres11 : Box2 (w10.setCell ⟨sb, 5, none⟩ (.slice (some ⟨gg, 0, none⟩) (A.length + 1) cap)) (w.heap.size + 1) 24 (.int .i64 0) (.slice none 0 0) := by
              have h9 : Box2 w9 (w.heap.size + 1) 24 (.int .i64 0) (.slice none 0 0) := (show Box2 w8.drew _ _ _ _ from G9.out).same (G1d.out.keep F9 (show w8.drew.heap[w.heap.size + 1]? = _ from G9.out) (by decide) (by decide))
              exact h9.same (hset _ _ _ h9 (by decide) (by decide))
            have HFIN := hid (show SmL w (w10.setCell ⟨sb, 5, none⟩ (.slice (some ⟨gg, 0, none⟩) (A.length + 1) cap)) sb mb gB (w.heap.size + 1) n (.slice (some ⟨b, off, none⟩) L.length c) L (smF L (vsOf L) (L.take (k + 1))) from by
              rw [HNXT.out]
              simp only [← HS.out]
              exact ⟨vO9, _, _, k1, e2, by rw [List.length_append]; have := HK.out; omega, hrow11, hlow10, hres11⟩)
            clear hlow9 hlow10 hset hrow11 hres11 e1 e2 e3 e4 y5 f5 hown hgrow hat hlt S9 F9 hbA HS9
            go_wp2_with fail
            go_roundw
            case rel => exact ⟨k + 1, by omega, by go_num, HFIN.out⟩
            case measure => simp [intOf]; omega
      · obtain rfl : k = L.length := by omega
        rw [List.take_length] at hsl
        obtain ⟨vOut, vAt, vs0, kk, h1, h2, h3, h4, h5⟩ := hsl.out
        have hlen := HLEN.out
        unfold smT at hlen
        obtain ⟨pO, cO, eO, hdrop⟩ := h1.outs.nodes
        obtain ⟨_, _, _, t3, t4, _, _⟩ := h1.box.get
        have HO := hid (show OwnNodes wr w.heap.size vOut (smT L) vs0 from h1.outs)
        have hsl2 := h1.box.lt
        obtain ⟨y0, y1, y2, y3⟩ := h5.cells
        have HR5 := hid h5
        have HB5 := hid h4
        have hrl := h5.lt
        obtain ⟨m, hm⟩ : ∃ m, m = (smF L (vsOf L) L).out.length := ⟨_, rfl⟩
        rw [← hm] at eO hlen
        have zl : ¬ 65536 < (m : Int) := by omega
        have HHS := hid h1.hs
        subst eO
        clear hsl hdrop h1 h2 h3 h4 h5 hm hlen
        go_wp2_with fail
        refine bodyPost_ret (results_net_e rfl rfl rfl (HR5.out.set01 _ _)) rfl ?_
        refine ⟨_, vs0, rfl, ?_, below_01 HB5.out (by omega) _ _⟩
        have hne : ∀ (j : Nat) (cs : Array Value) (T : TypeId), wr.heap[j]? = some (.cells cs T (0, 0)) → T ≠ 24 → ((wr.setCell ⟨w.heap.size + 1, 0, none⟩ (.int .i64 n)).setCell ⟨w.heap.size + 1, 1, none⟩ (.slice pO m cO)).heap[j]? = wr.heap[j]? := fun j cs T hj hT => by
          have hjr : j ≠ w.heap.size + 1 := fun e => by
            subst e
            have := HR5.out
            unfold Box2 at this
            rw [hj] at this; injection this with this; injection this with _ e _; exact hT e
          rw [Below.heap_setCell _ _ _ _ hjr, Below.heap_setCell _ _ _ _ hjr]
        refine HO.out.same (fun j e => ?_) (fun u hu j e => ?_)
        · obtain ⟨cs, hc⟩ := own_type HO.out.row e; exact hne j cs _ hc (by decide)
        · obtain ⟨_, _, cs, hc⟩ := HO.out.in_lt hu e; exact hne j cs _ hc (by decide)
end Go.Proofs.YtpdbfbjfodckgaaDoor
