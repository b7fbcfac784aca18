/- Walk of the reference censusref21.Smoothed: the smooth form of a net. -/
import Derived.Test.YtpdbfbjfodckgaaDoorHMk
import Derived.Test.YtpdbfbjfodckgaaDoorHInv
import Derived.Test.YtpdbfbjfodckgaaDoorHRefS
import Derived.Deep.CutBlock
namespace Go.Proofs.YtpdbfbjfodckgaaDoor
open Go.RowKit
attribute [local go_sem ↓] run_eqlS run_neqS run_eqlS0 run_neqS0

/-- What lies in memory while the inputs of a node are made. -/
structure RmS (w wo wq : World) (sb gB xb : Nat) (n : Int) (vL vAt vin vOut : Value) (L : List NodeT) (A : List Int) (xk xl : Int) (vi : Value) (out : List NodeT) (ch : Int → Option Int) (vs : List Value) (li : List Int) : Prop where
  maker : RmAt wq w.heap.size sb n vOut vAt out vs A ch
  own : OwnInts wq w.heap.size vin li
  inw : ∀ j, vin.ownBlock = some j → wo.heap.size ≤ j
  sep : ∀ u ∈ vs, ∀ j, u.ownBlock = some j → vin.ownBlock ≠ some j
  vat : ∀ j, vAt.ownBlock = some j → j < wo.heap.size
  xbx : Box3 wq xb 39 (.int .i64 xk) (.int .i64 xl) vi
  xrow : vOut.ownBlock ≠ some xb
  row : SetRow wq gB (vsOf L)
  bel : Below w.heap.size w wq
  res : Box2 wq (w.heap.size + 1) 24 (.int .i64 0) (.slice none 0 0)
  net : Box2 wq w.heap.size 24 (.int .i64 n) vL
section
variable {w wo wq : World} {sb gB xb : Nat} {n : Int} {vL vAt vin vOut : Value} {L : List NodeT} {A : List Int} {xk xl : Int} {vi : Value} {out : List NodeT} {ch : Int → Option Int} {vs : List Value} {li : List Int}
theorem RmS.below {w' : World} (h : RmS w wo wq sb gB xb n vL vAt vin vOut L A xk xl vi out ch vs li) (hb : Below wq.heap.size wq w') : RmS w wo w' sb gB xb n vL vAt vin vOut L A xk xl vi out ch vs li :=
  ⟨h.maker.below hb, h.own.below hb, h.inw, h.sep, h.vat, h.xbx.below hb h.xbx.lt, h.xrow, h.row.below hb h.row.lt, h.bel.trans (hb.mono h.bel.size), h.res.below hb h.res.lt, h.net.below hb h.net.lt⟩
theorem RmS.xkeep {w' : World} (h : RmS w wo wq sb gB xb n vL vAt vin vOut L A xk xl vi out ch vs li) (hf : FrR sb wq w') : Box3 w' xb 39 (.int .i64 xk) (.int .i64 xl) vi :=
  h.xbx.same (hf.block xb h.xbx.lt (h.maker.box.type h.xbx (by decide)) (by rw [h.maker.box.row]; exact h.xrow))
theorem RmS.rowKeep {w' : World} (h : RmS w wo wq sb gB xb n vL vAt vin vOut L A xk xl vi out ch vs li) (hf : FrR sb wq w') : SetRow w' gB (vsOf L) := by
  obtain ⟨cs, hr⟩ := h.row
  exact (show SetRow wq gB (vsOf L) from ⟨cs, hr⟩).same (h.maker.keep hf hr.1 (by decide) (by decide))
/-- A call of one of the maker's functions. -/
theorem RmS.call {w' : World} {vOut' : Value} {out' : List NodeT} {ch' : Int → Option Int} {vs2 : List Value} (h : RmS w wo wq sb gB xb n vL vAt vin vOut L A xk xl vi out ch vs li) (hm : RmAt w' w.heap.size sb n vOut' vAt out' (vs ++ vs2) A ch') (hf : FrR sb wq w')
    (hs : ∀ u ∈ vs2, ∀ j, u.ownBlock = some j → vin.ownBlock ≠ some j) : RmS w wo w' sb gB xb n vL vAt vin vOut' L A xk xl vi out' ch' (vs ++ vs2) li := by
  refine ⟨hm, h.maker.keepInts hf h.own, h.inw, fun u hu j e => ?_, h.vat, h.xkeep hf, ?_, h.rowKeep hf, h.maker.low hf h.bel, h.res.same (h.maker.keep hf h.res (by decide) (by decide)), h.net.same (h.maker.keep hf h.net (by decide) (by decide))⟩
  · rcases List.mem_append.1 hu with h1 | h1
    · exact h.sep u h1 j e
    · exact hs u h1 j e
  · rw [← hm.box.row]
    rcases hf.row with e | ⟨r, e, hr⟩
    · rw [e, h.maker.box.row]; exact h.xrow
    · rw [e]; intro e2; injection e2 with e2; have := h.xbx.lt; omega
/-- A row of numbers of its own grows. -/
theorem RmS.grown {w' : World} {yo : Option Nat} (h : RmS w wo wq sb gB xb n vL vAt vin vOut L A xk xl vi out ch vs li) (hg : wq.grownBy w' yo)
    (hy : ∀ j, yo = some j → (∃ cs, wq.heap[j]? = some (.cells cs 3 (0, 0))) ∧ vin.ownBlock ≠ some j ∧ vAt.ownBlock ≠ some j ∧ (∀ u ∈ vs, u.ownBlock ≠ some j) ∧ w.heap.size ≤ j) : RmS w wo w' sb gB xb n vL vAt vin vOut L A xk xl vi out ch vs li := by
  have keepT : ∀ {j : Nat} {cs : Array Value} {T : TypeId} {fr : Nat × Nat}, wq.heap[j]? = some (.cells cs T fr) → T ≠ 3 → w'.heap[j]? = wq.heap[j]? := fun {j cs T fr} hj hT =>
    hg.block j (Array.getElem?_eq_some_iff.1 hj).1 fun e => by
      obtain ⟨⟨cs', hc⟩, _⟩ := hy j e.symm
      rw [hj] at hc
      injection hc with hc
      injection hc with _ e _
      exact hT e
  have keepN : ∀ {j : Nat}, j < wq.heap.size → yo ≠ some j → w'.heap[j]? = wq.heap[j]? := fun hj hn => hg.block _ hj fun e => hn e.symm
  obtain ⟨cur, hcur⟩ := h.maker.box
  refine ⟨h.maker.same (keepT hcur.1 (by decide)) (fun j e => ?_) (fun j e => ?_) (fun u hu j e => ?_), own_same h.own fun j e => ?_, h.inw, h.sep, h.vat, h.xbx.same (keepT h.xbx (by decide)), h.xrow, ?_, h.bel.grown hg h.bel.size (fun j e => (hy j e).2.2.2.2), h.res.same (keepT h.res (by decide)), h.net.same (keepT h.net (by decide))⟩
  · obtain ⟨cs, hc⟩ := own_type h.maker.outs.row e; exact keepT hc (by decide)
  · exact keepN (own_ge h.maker.ats e).2 fun e2 => (hy j e2).2.2.1 e
  · exact keepN (h.maker.outs.in_lt hu e).2.1 fun e2 => (hy j e2).2.2.2.1 u hu e
  · exact keepN (own_ge h.own e).2 fun e2 => (hy j e2).2.1 e
  · obtain ⟨cs, hr⟩ := h.row
    exact (show SetRow wq gB (vsOf L) from ⟨cs, hr⟩).same (keepT hr.1 (by decide))
/-- An input is laid in. -/
theorem RmS.put {gm m c : Nat} (h : RmS w wo wq sb gB xb n vL vAt (.slice (some ⟨gm, 0, none⟩) m c) vOut L A xk xl vi out ch vs li) (hwo : w.heap.size ≤ wo.heap.size) (i : Nat) (hi : i < li.length) (z : Int) : RmS w wo (wq.setCell ⟨gm, i, none⟩ (.int .i64 z)) sb gB xb n vL vAt (.slice (some ⟨gm, 0, none⟩) m c) vOut L A xk xl vi out ch vs (li.set i z) := by
  have hgw : wo.heap.size ≤ gm := h.inw gm rfl
  obtain ⟨cs0, hgt⟩ := own_type h.own (k := gm) rfl
  have hne : ∀ {j : Nat}, j ≠ gm → (wq.setCell ⟨gm, i, none⟩ (.int .i64 z)).heap[j]? = wq.heap[j]? := fun hj => Below.heap_setCell _ _ _ _ hj
  have keepT : ∀ {j : Nat} {cs : Array Value} {T : TypeId} {fr : Nat × Nat}, wq.heap[j]? = some (.cells cs T fr) → T ≠ 3 → (wq.setCell ⟨gm, i, none⟩ (.int .i64 z)).heap[j]? = wq.heap[j]? := fun {j cs T fr} hj hT => hne fun e => by
    subst e
    rw [hj] at hgt
    injection hgt with hgt
    injection hgt with _ e _
    exact hT e
  obtain ⟨cur, hcur⟩ := h.maker.box
  refine ⟨h.maker.same (keepT hcur.1 (by decide)) (fun j e => ?_) (fun j e => hne ?_) (fun u hu j e => hne fun e2 => ?_), h.own.store i hi z, h.inw, h.sep, h.vat, h.xbx.same (keepT h.xbx (by decide)), h.xrow, ?_, h.bel.setCell (p := ⟨gm, i, none⟩) (Nat.le_trans hwo hgw) _, h.res.same (keepT h.res (by decide)), h.net.same (keepT h.net (by decide))⟩
  · obtain ⟨cs, hc⟩ := own_type h.maker.outs.row e; exact keepT hc (by decide)
  · have := h.vat j e; omega
  · subst e2; exact h.sep u hu j e rfl
  · obtain ⟨cs, hr⟩ := h.row
    exact (show SetRow wq gB (vsOf L) from ⟨cs, hr⟩).same (keepT hr.1 (by decide))
end
/-- A new place. -/
theorem RmAt.app_at {W W' : World} {B sb : Nat} {n : Int} {vOut vAt v' : Value} {out : List NodeT} {vs : List Value} {A : List Int} {ch : Int → Option Int} {z : Int}
    (h : RmAt W B sb n vOut vAt out vs A ch) (hown : OwnInts W' B v' (A ++ [z])) (hg : W.grownBy W' vAt.ownBlock) (hloc : v'.ownBlock = none ∨ v'.ownBlock = vAt.ownBlock ∨ v'.ownBlock = some W.heap.size) :
    RmBox W' sb n vOut vAt ch ∧ RmAt (W'.setCell ⟨sb, 2, none⟩ v') B sb n vOut v' out vs (A ++ [z]) ch ∧ (∀ j, j < W.heap.size → j ≠ sb → vAt.ownBlock ≠ some j → (W'.setCell ⟨sb, 2, none⟩ v').heap[j]? = W.heap[j]?) := by
  have h6 : ∀ j, j < W.heap.size → vAt.ownBlock ≠ some j → W'.heap[j]? = W.heap[j]? := fun j hj h1 => hg.block j hj (fun e => h1 e.symm)
  have hne : ∀ {j : Nat} {cs : Array Value} {T : TypeId} {fr : Nat × Nat}, W.heap[j]? = some (.cells cs T fr) → T ≠ 3 → vAt.ownBlock ≠ some j := fun {j cs T fr} hj hT e => by
    obtain ⟨cs', hc⟩ := own_type h.ats e; rw [hj] at hc; injection hc with hc; injection hc with _ e _; exact hT e
  obtain ⟨cur, hcur⟩ := h.box
  have hbx : RmBox W' sb n vOut vAt ch := h.box.same (h6 sb h.box.lt (hne hcur.1 (by decide)))
  have hsame : ∀ j, j < W.heap.size → j ≠ sb → vAt.ownBlock ≠ some j → (W'.setCell ⟨sb, 2, none⟩ v').heap[j]? = W.heap[j]? := fun j hj h1 h2 => (Below.heap_setCell _ _ _ _ h1).trans (h6 j hj h2)
  refine ⟨hbx, ⟨hbx.at_ v', h.outs.same (fun j e => ?_) (fun u hu j e => ?_), ?_, fun u hu j e e2 => ?_, h.hs, h.pos⟩, hsame⟩
  · obtain ⟨cs, hc⟩ := own_type h.outs.row e
    exact hsame j (own_ge h.outs.row e).2 (h.box.type hc (by decide)) (hne hc (by decide))
  · obtain ⟨_, hl, cs, hc⟩ := h.outs.in_lt hu e
    exact hsame j hl (h.box.type hc (by decide)) (h.far u hu j e)
  · refine own_same hown fun j e => Below.heap_setCell _ _ _ _ (fun e2 => ?_)
    obtain ⟨cs, hc⟩ := own_type hown e
    exact hbx.type hc (by decide) e2
  · have hl := (h.outs.in_lt hu e).2.1
    rcases hloc with h1 | h1 | h1
    · rw [h1] at e2; cases e2
    · rw [h1] at e2; exact h.far u hu j e e2
    · rw [h1] at e2; injection e2 with e2; omega
/-- What stays when a node is done. -/
theorem RmS.last {w wo wq w9 wA W' : World} {sb gB xb : Nat} {n : Int} {vL vAt vin vO vO9 v' : Value} {L : List NodeT} {A : List Int} {xk xl : Int} {vi : Value} {out out9 : List NodeT} {ch ch9 : Int → Option Int} {vs vs9 : List Value} {li : List Int}
    (h : RmS w wo wq sb gB xb n vL vAt vin vO L A xk xl vi out ch vs li) (hf : FrR sb wq w9) (h9 : RmAt w9 w.heap.size sb n vO9 vAt out9 vs9 A ch9) (hal : Below w9.heap.size w9 wA) (hg : wA.grownBy W' vAt.ownBlock)
    (e3 : ∀ j, j < wA.heap.size → j ≠ sb → vAt.ownBlock ≠ some j → (W'.setCell ⟨sb, 2, none⟩ v').heap[j]? = wA.heap[j]?) :
    SetRow (W'.setCell ⟨sb, 2, none⟩ v') gB (vsOf L) ∧ Below w.heap.size w (W'.setCell ⟨sb, 2, none⟩ v') ∧ Box2 (W'.setCell ⟨sb, 2, none⟩ v') (w.heap.size + 1) 24 (.int .i64 0) (.slice none 0 0) ∧ Box2 (W'.setCell ⟨sb, 2, none⟩ v') w.heap.size 24 (.int .i64 n) vL := by
  have keep : ∀ {j : Nat} {cs : Array Value} {T : TypeId} {fr : Nat × Nat}, wq.heap[j]? = some (.cells cs T fr) → T ≠ 84 → T ≠ 39 → T ≠ 3 → (W'.setCell ⟨sb, 2, none⟩ v').heap[j]? = wq.heap[j]? := fun {j cs T fr} hj h1 h2 h3 => by
    have k9 := h.maker.keep hf hj h1 h2
    have hj9 := k9.trans hj
    have hl9 := (Array.getElem?_eq_some_iff.1 hj9).1
    refine ((e3 j (Nat.lt_of_lt_of_le hl9 hal.size) (h9.box.type hj9 h1) (fun e => ?_)).trans (hal.block j hl9)).trans k9
    obtain ⟨cs', hc⟩ := own_type h9.ats e
    rw [hj9] at hc; injection hc with hc; injection hc with _ e _; exact h3 e
  have hb9 := h.maker.low hf h.bel
  refine ⟨?_, ((hb9.trans (hal.mono hb9.size)).grown hg (Nat.le_trans hb9.size hal.size) (fun j e => (own_ge h9.ats e).1)).setCell (p := ⟨sb, 2, none⟩) h9.hs _, h.res.same (keep h.res (by decide) (by decide) (by decide)), h.net.same (keep h.net (by decide) (by decide) (by decide))⟩
  obtain ⟨cs, hr⟩ := h.row
  exact (show SetRow wq gB (vsOf L) from ⟨cs, hr⟩).same (keep hr.1 (by decide) (by decide) (by decide))
set_option maxRecDepth 100000 in
set_option maxHeartbeats 8000000 in
theorem smoothed21_bad (n : Int) (L : List NodeT) (v : Value) (w : World) (hN : NodesAt w v L) (hv : validNet ⟨n, L⟩ = false) :
    Calls Tryd.prog 28 #[.agg #[.int .i64 n, v]] w (fun e w' => e = .returned (.tuple #[.agg #[.int .i64 0, .slice none 0 0], .int .i64 1]) ∧ Below w.heap.size w w') := by
  have hB1 : Below w.heap.size w ((w.alloc (.cells #[.int .i64 n, v] 24)).alloc (.cells #[.int .i64 0, .slice none 0 0] 24)) := ((Below.refl _ w).alloc (Nat.le_refl _) _).alloc (by simp) _
  have hCK := valid21_c n L v _ (hN.below hB1)
  rw [hv] at hCK
  have HCK := hid hCK
  obtain ⟨x0, x1⟩ := NetVar.new w n v 24
  have HB1 := hid hB1
  have HRB := hid (show Box2 ((w.alloc (.cells #[.int .i64 n, v] 24)).alloc (.cells #[.int .i64 0, .slice none 0 0] 24)) (w.heap.size + 1) 24 (.int .i64 0) (.slice none 0 0) from by rw [← World.size_alloc w (.cells #[.int .i64 n, v] 24)]; exact Box2.new _ _ _ _)
  clear hCK hB1 hN hv
  go_enter Tryd.func28, Tryd.ntmps28
  go_wp2_with fail
  refine HCK.out.mono ?_
  rintro e w2 ⟨rfl, hb2⟩
  have hbx := HRB.out.below hb2 HRB.out.lt
  obtain ⟨y0, y1, y2, y3⟩ := hbx.cells
  have HBX := hid hbx
  have hB2 := HB1.out.trans (hb2.mono HB1.out.size)
  have HB2 := hid hB2
  clear hbx hB2
  go_wp2_with fail
  exact bodyPost_ret (results_net_e rfl rfl rfl (HBX.out.set01 _ _)) rfl ⟨rfl, below_01 HB2.out (by omega) _ _⟩
theorem own_one (w : World) {B : Nat} (hB : B ≤ w.heap.size) (a : Int) : OwnInts (w.alloc (.cells #[.int .i64 a] 3)) B (.slice (some ⟨w.heap.size, 0, none⟩) 1 1) [a] :=
  ⟨rfl, .inr ⟨w.heap.size, 1, _, rfl, hB, heap_alloc_new w _, Nat.le_refl _, by unfold maxLen; omega, rfl, rfl⟩⟩
/-- What lies in memory while an input is filled. -/
def RmV (w wo W1 wq : World) (sb gB xb : Nat) (n : Int) (vL vAt vin : Value) (L : List NodeT) (A : List Int) (xk xl : Int) (vi : Value) (s : FS) (vs : List Value) (y : Value) (li : List Int) : Prop :=
  ∃ vO vs2, RmS w wo wq sb gB xb n vL vAt vin vO L A xk xl vi s.out s.ch (vs ++ vs2) li ∧ OwnInts wq W1.heap.size y s.inn ∧ (∀ u ∈ vs2, ∀ j, u.ownBlock = some j → W1.heap.size ≤ j ∧ y.ownBlock ≠ some j) ∧ W1.heap.size ≤ wq.heap.size
theorem RmV.below {w wo W1 wq w' : World} {sb gB xb : Nat} {n : Int} {vL vAt vin : Value} {L : List NodeT} {A : List Int} {xk xl : Int} {vi : Value} {s : FS} {vs : List Value} {y : Value} {li : List Int} (h : RmV w wo W1 wq sb gB xb n vL vAt vin L A xk xl vi s vs y li) (hb : Below wq.heap.size wq w') : RmV w wo W1 w' sb gB xb n vL vAt vin L A xk xl vi s vs y li := by
  obtain ⟨a, b, c, d, e, f⟩ := h
  exact ⟨a, b, c.below hb, d.below hb, e, Nat.le_trans f hb.size⟩
theorem RmV.step {w wo W1 w4 w5 w3 : World} {sb gB xb : Nat} {n : Int} {vL vAt vin vO5 y v3 : Value} {L : List NodeT} {A : List Int} {xk xl : Int} {vi : Value} {s0 s1 : FS} {vs vs2 vs3 : List Value} {li : List Int} {o : Obj} {cc : Int}
    (GY : OwnInts w4 W1.heap.size y s0.inn) (GS : ∀ u ∈ vs2, ∀ j, u.ownBlock = some j → W1.heap.size ≤ j ∧ y.ownBlock ≠ some j)
    (hvin : ∀ j, vin.ownBlock = some j → j < W1.heap.size) (hvs : ∀ u ∈ vs, ∀ j, u.ownBlock = some j → j < W1.heap.size) (hat : ∀ j, vAt.ownBlock = some j → j < W1.heap.size) (hW : w.heap.size ≤ W1.heap.size) (hW4 : W1.heap.size ≤ w4.heap.size)
    (G5 : RmS w wo w5 sb gB xb n vL vAt vin vO5 L A xk xl vi s1.out s1.ch (vs ++ vs2 ++ vs3) li) (hnew : ∀ u ∈ vs3, ∀ j, u.ownBlock = some j → w4.heap.size ≤ j)
    (GY6 : OwnInts (w5.alloc o) W1.heap.size y s0.inn) (hg3 : (w5.alloc o).grownBy w3 y.ownBlock) (hv3 : v3.ownBlock = none ∨ v3.ownBlock = y.ownBlock ∨ v3.ownBlock = some (w5.alloc o).heap.size) (hown3 : OwnInts w3 W1.heap.size v3 (s0.inn ++ [cc])) (hs1 : s1.inn = s0.inn ++ [cc]) (hw45 : w4.heap.size ≤ w5.heap.size) :
    RmV w wo W1 w3 sb gB xb n vL vAt vin L A xk xl vi s1 vs v3 li := by
  have hb6 : Below w5.heap.size w5 (w5.alloc o) := (Below.refl _ w5).alloc (Nat.le_refl _) _
  have G6 := G5.below hb6
  have hy : ∀ j, y.ownBlock = some j → W1.heap.size ≤ j ∧ j < w4.heap.size := fun j e => own_ge GY e
  have hsep : ∀ u ∈ vs2 ++ vs3, ∀ j, u.ownBlock = some j → W1.heap.size ≤ j ∧ y.ownBlock ≠ some j := fun u hu j e => by
    rcases List.mem_append.1 hu with h | h
    · exact GS u h j e
    · have h1 := hnew u h j e
      exact ⟨by omega, fun e2 => by have := (hy j e2).2; omega⟩
  have G7 : RmS w wo w3 sb gB xb n vL vAt vin vO5 L A xk xl vi s1.out s1.ch (vs ++ vs2 ++ vs3) li := G6.grown hg3 fun j e => by
    have h1 := hy j e
    refine ⟨own_type GY6 e, fun e2 => by have := hvin j e2; omega, fun e2 => by have := hat j e2; omega, fun u hu e2 => ?_, by omega⟩
    rw [List.append_assoc] at hu
    rcases List.mem_append.1 hu with h | h
    · have := hvs u h j e2; omega
    · exact (hsep u h j e2).2 e
  rw [List.append_assoc] at G7
  refine ⟨vO5, vs2 ++ vs3, G7, by rw [hs1]; exact hown3, fun u hu j e => ⟨(hsep u hu j e).1, fun e2 => ?_⟩, Nat.le_trans hW4 (Nat.le_trans hw45 (Nat.le_trans hb6.size hg3.size))⟩
  rcases hv3 with h | h | h
  · rw [h] at e2; cases e2
  · rw [h] at e2; exact (hsep u hu j e).2 e2
  · rw [h] at e2; injection e2 with e2
    have := (G6.maker.outs.in_lt (u := u) (by rw [List.append_assoc]; exact List.mem_append_right _ hu) e).2.1
    omega
theorem Box3.set0 {w : World} {b : Nat} {T : TypeId} {x y z : Value} (h : Box3 w b T x y z) (z' : Value) : Box3 (w.setCell ⟨b, 0, none⟩ z') b T z' y z := by
  unfold Box3 at *; simp [World.setCell, Array.getElem?_modify, h]
theorem Box3.set1 {w : World} {b : Nat} {T : TypeId} {x y z : Value} (h : Box3 w b T x y z) (z' : Value) : Box3 (w.setCell ⟨b, 1, none⟩ z') b T x z' z := by
  unfold Box3 at *; simp [World.setCell, Array.getElem?_modify, h]
theorem old_box (W : World) (T : TypeId) (a b c : Value) : Box3 ((((W.alloc (.cells #[.int .i64 0, .int .i64 0, .slice none 0 0] T)).setCell ⟨W.heap.size, 0, none⟩ a).setCell ⟨W.heap.size, 1, none⟩ b).setCell ⟨W.heap.size, 2, none⟩ c) W.heap.size T a b c ∧
    Below W.heap.size W ((((W.alloc (.cells #[.int .i64 0, .int .i64 0, .slice none 0 0] T)).setCell ⟨W.heap.size, 0, none⟩ a).setCell ⟨W.heap.size, 1, none⟩ b).setCell ⟨W.heap.size, 2, none⟩ c) := by
  refine ⟨(((Box3.new W T (.int .i64 0) (.int .i64 0) (.slice none 0 0)).set0 a).set1 b).set2 c, ?_⟩
  exact ((((Below.refl _ W).alloc (Nat.le_refl _) _).setCell (p := ⟨W.heap.size, 0, none⟩) (Nat.le_refl _) a).setCell (p := ⟨W.heap.size, 1, none⟩) (Nat.le_refl _) b).setCell (p := ⟨W.heap.size, 2, none⟩) (Nat.le_refl _) c
theorem zc84 : Tryd.zeroCells84 = (([.int .i64 0, .slice none 0 0, .slice none 0 0] ++ List.replicate 129 (.int .i64 0)) : List Value).toArray := by kernel_rfl
set_option maxRecDepth 10000 in
theorem RmBox.new (w : World) (n : Int) : RmBox (w.alloc (.cells ((Tryd.zeroCells84.setIfInBounds 0 (.int .i64 n)).setIfInBounds 1 (.slice none 0 0)) 84)) w.heap.size n (.slice none 0 0) (.slice none 0 0) (fun _ => none) := by
  have hs : Tryd.zeroCells84.size = 132 := by rw [zc84]; rfl
  refine ⟨_, heap_alloc_new w _, by simp [hs], ?_, ?_, ?_, fun i hi => ?_⟩
  · rw [Array.getElem?_setIfInBounds_ne (by decide), Array.getElem?_setIfInBounds_self_of_lt (by omega)]
  · rw [Array.getElem?_setIfInBounds_self_of_lt (by simp [hs])]
  · rw [Array.getElem?_setIfInBounds_ne (by decide), Array.getElem?_setIfInBounds_ne (by decide), zc84]; rfl
  · rw [Array.getElem?_setIfInBounds_ne (by omega), Array.getElem?_setIfInBounds_ne (by omega), zc84, List.getElem?_toArray, List.getElem?_append_right (by simp), List.getElem?_replicate, if_pos (by simp; omega)]
    rfl
theorem RmAt.new (w : World) (B : Nat) (n : Int) (hB : B ≤ w.heap.size) : RmAt (w.alloc (.cells ((Tryd.zeroCells84.setIfInBounds 0 (.int .i64 n)).setIfInBounds 1 (.slice none 0 0)) 84)) B w.heap.size n (.slice none 0 0) (.slice none 0 0) [] [] [] (fun _ => none) :=
  ⟨RmBox.new w n, OwnNodes.nil _ _, OwnInts.nil _ _, fun u hu => by simp at hu, hB, fun v c e => by simp at e⟩
/-- What lies in memory ahead of node k. -/
def RmL (w wr : World) (sb gB : Nat) (n : Int) (vL : Value) (L : List NodeT) (st : SM) : Prop :=
  ∃ vOut vAt vs, RmAt wr w.heap.size sb n vOut vAt st.out vs st.at_ st.ch ∧ SetRow wr gB (vsOf L) ∧ Below w.heap.size w wr ∧ Box2 wr (w.heap.size + 1) 24 (.int .i64 0) (.slice none 0 0) ∧ Box2 wr w.heap.size 24 (.int .i64 n) vL
set_option maxRecDepth 100000 in
set_option maxHeartbeats 16000000 in
theorem smoothed21_c (n : Int) (L : List NodeT) (v : Value) (w : World) (hN : NodesAt w v L) (hv : validNet ⟨n, L⟩ = true) (hlen : (smT L).length ≤ 65536) (hins : ∀ x ∈ L, x.ins.length ≤ 65536) :
    Calls Tryd.prog 28 #[.agg #[.int .i64 n, v]] w (SmdPost n L w) := by
  have hb1 : Below w.heap.size w (w.alloc (.cells #[.int .i64 n, v] 24)) := (Below.refl _ w).alloc (Nat.le_refl _) _
  have hB1 : Below w.heap.size w ((w.alloc (.cells #[.int .i64 n, v] 24)).alloc (.cells #[.int .i64 0, .slice none 0 0] 24)) := hb1.alloc hb1.size _
  have hCK := valid21_c n L v _ (hN.below hB1)
  rw [hv] at hCK
  obtain ⟨⟨r1, r2, r3, r4⟩, hft⟩ := (validNet_iff _).1 hv
  simp only at r1 r2 r3 r4 hft
  have HCK := hid hCK
  obtain ⟨p, c, rfl, h⟩ := hN
  obtain ⟨b, off, rfl, hN⟩ := h.resolve_left (by intro e; rw [e] at r3; simp at r3)
  have HNN := hid (show NodesAt w (.slice (some ⟨b, off, none⟩) L.length c) L from ⟨_, _, rfl, .inr ⟨b, off, rfl, hN⟩⟩)
  have hx := (Box2.new w 24 (.int .i64 n) (.slice (some ⟨b, off, none⟩) L.length c)).alloc (.cells #[.int .i64 0, .slice none 0 0] 24)
  have HX1 := hid hx
  obtain ⟨x0, x1, _, _⟩ := hx.cells
  have HB1 := hid hB1
  have HRB := hid (show Box2 ((w.alloc (.cells #[.int .i64 n, .slice (some ⟨b, off, none⟩) L.length c] 24)).alloc (.cells #[.int .i64 0, .slice none 0 0] 24)) (w.heap.size + 1) 24 (.int .i64 0) (.slice none 0 0) from by rw [← World.size_alloc w (.cells #[.int .i64 n, .slice (some ⟨b, off, none⟩) L.length c] 24)]; exact Box2.new _ _ _ _)
  have HFT := hid hft
  have HV := hid hv
  have HINS := hid hins
  have HLEN := hid hlen
  have HN := hid hN
  clear hb1 hB1 hCK hN hv hft hins hlen h hx
  go_enter Tryd.func28, Tryd.ntmps28
  go_wp2_with fail
  refine HCK.out.mono ?_
  rintro e w2 ⟨rfl, hb2⟩
  have HX2 := hid (HX1.out.below hb2 HX1.out.lt)
  have HR2 := hid (HRB.out.below hb2 HRB.out.lt)
  have HB2 := hid (HB1.out.trans (hb2.mono HB1.out.size))
  clear x0 x1 hb2 HCK HX1 HB1 HRB
  obtain ⟨x0, x1, _, _⟩ := HX2.out.cells
  go_wp2_with fail
  refine (vars21_c n L _ w2 (HNN.out.below HB2.out) HV.out).mono ?_
  rintro e w3 ⟨gB, rfl, hgB, hrow, hb3⟩
  have HX3 := hid (HX2.out.below hb3 HX2.out.lt)
  have HR3 := hid (HR2.out.below hb3 HR2.out.lt)
  have HB3 := hid (HB2.out.trans (hb3.mono HB2.out.size))
  have HRW := hid hrow
  clear x0 x1 hb3 hrow hgB HX2 HR2 HB2
  obtain ⟨x0, x1, _, _⟩ := HX3.out.cells
  go_wp2_with fail
  obtain ⟨wm, hwm⟩ : ∃ wm, wm = w3.alloc (.cells ((Tryd.zeroCells84.setIfInBounds 0 (.int .i64 n)).setIfInBounds 1 (.slice none 0 0)) 84) := ⟨_, rfl⟩
  obtain ⟨sb, hsb⟩ : ∃ sb, sb = w3.heap.size := ⟨_, rfl⟩
  have hM : RmAt wm w.heap.size sb n (.slice none 0 0) (.slice none 0 0) [] [] [] (fun _ => none) := by rw [hwm, hsb]; exact RmAt.new w3 w.heap.size n HB3.out.size
  have hbm : Below w3.heap.size w3 wm := by rw [hwm]; exact (Below.refl _ w3).alloc (Nat.le_refl _) _
  have HL0 := hid (show RmL w wm sb gB n (.slice (some ⟨b, off, none⟩) L.length c) L (smF L (vsOf L) (L.take 0)) from ⟨_, _, [], hM, HRW.out.below hbm HRW.out.lt, HB3.out.trans (hbm.mono HB3.out.size), HR3.out.below hbm HR3.out.lt, HX3.out.below hbm HX3.out.lt⟩)
  rw [← hwm, ← hsb]
  clear x0 x1 HX3 HR3 HB3 HRW hM hbm hwm hsb
  go_loopw [6] (fun z wr => ∃ (k : Nat), k ≤ L.length ∧ z = .int .i64 k ∧ Hid (RmL w wr sb gB n (.slice (some ⟨b, off, none⟩) L.length c) L (smF L (vsOf L) (L.take k)))) (fun z _ => L.length - (intOf z).toNat)
  case atStart => exact ⟨0, Nat.zero_le _, rfl, HL0.out⟩
  case round =>
    clear HL0
    obtain ⟨k, hk, rfl, hsl⟩ := hrel
    by_cases hkl : k < L.length
    · obtain ⟨⟨out, ch, A⟩, hst⟩ : ∃ st, smF L (vsOf L) (L.take k) = st := ⟨_, rfl⟩
      have hAk := smF_at L (vsOf L) k (by omega)
      have hbd := fun j => ins_bound hkl HLEN.out j
      rw [hst] at hsl hAk hbd
      obtain ⟨vOut, vAt, vs0, h1, h3, h4, h5, h6⟩ := hsl.out
      simp only at h1 hAk hbd
      obtain ⟨u, hu⟩ := HN.out k hkl
      have hur := hu.below h4
      have d0 := hur.kind
      have d1 := hur.lit
      have d2 := hur.ins
      have HU := hid hu
      have HIN := hid (ins_lt HFT.out hkl)
      have hle : L[k].ins.length ≤ 65536 := HINS.out _ (List.getElem_mem hkl)
      have zk : (0 : Int) ≤ (k : Int) ∧ (k : Int) < (L.length : Int) := by omega
      have HNX := hid (fun x hx => smF_next hkl hst (x := x) hx)
      have HBD := hid hbd
      clear hu hsl hbd
      generalize hxx : L[k] = x at *
      obtain ⟨xk, xl, xi⟩ := x
      obtain ⟨p2, c2, e2, hdrop⟩ := HU.out.ints
      subst e2
      have hnx := HNX.out ⟨xk, xl, xi⟩ rfl
      have HNXT := hid hnx
      clear hdrop hxx HNX hnx
      simp only at d0 d1 hle
      have HAK := hid hAk
      have hb5 : Below wr.heap.size wr (wr.alloc (.cells #[.int .i64 xk, .int .i64 xl, .slice p2 xi.length c2] 39)) := (Below.refl _ wr).alloc (Nat.le_refl _) _
      have HX5 := hid (Box3.new wr 39 (.int .i64 xk) (.int .i64 xl) (.slice p2 xi.length c2))
      have H1 := hid (h1.below hb5)
      have H3 := hid (h3.below hb5 h3.lt)
      have H4 := hid (h4.trans (hb5.mono h4.size))
      have H5 := hid (h5.below hb5 h5.lt)
      have H6 := hid (h6.below hb5 h6.lt)
      have HXO := hid (show vOut.ownBlock ≠ some wr.heap.size from fun e => by have := (own_ge h1.outs.row e).2; omega)
      have HWS := hid h4.size
      have HV0 := hid (show ∀ u ∈ vs0, ∀ j, u.ownBlock = some j → j < wr.heap.size from fun u hu j e => (h1.outs.in_lt hu e).2.1)
      have HAT0 := hid (show ∀ j, vAt.ownBlock = some j → j < wr.heap.size from fun j e => (own_ge h1.ats e).2)
      have HIW := hid (show IntsAt w (.slice p2 xi.length c2) xi from HU.out.ints)
      obtain ⟨x0, x1, _, _⟩ := h6.cells
      obtain ⟨n0, n1, n2⟩ := HX5.out.cells
      clear hAk h1 h3 h4 h5 h6 hb5 hur
      go_wp2_with fail
      refine (movedR_c _ sb n vOut vAt _ _ A xi H1.out.box H1.out.ats.ints (HIW.out.below H4.out) (fun x hx => by have := HIN.out x hx; have := HAK.out; omega) hle).mono ?_
      rintro e w6 ⟨vin, rfl, hom, hb6⟩
      have HI0 := hid (show RmS w wr w6 sb gB wr.heap.size n (.slice (some ⟨b, off, none⟩) L.length c) vAt vin vOut L A xk xl (.slice p2 xi.length c2) out ch vs0 (xi.map (iOf A)) from
        ⟨H1.out.below hb6, own_lower hom H4.out.size, fun j e => by have := (own_ge hom e).1; rw [World.size_alloc] at this; omega, fun u hu j e e2 => by have := (own_ge hom e2).1; rw [World.size_alloc] at this; have := HV0.out u hu j e; omega, HAT0.out, HX5.out.below hb6 HX5.out.lt, HXO.out, H3.out.below hb6 H3.out.lt, H4.out.trans (hb6.mono H4.out.size), H5.out.below hb6 H5.out.lt, H6.out.below hb6 H6.out.lt⟩)
      obtain ⟨m0, m1, m2⟩ := HI0.out.xbx.cells
      clear hom hb6 n0 n1 n2 d0 d1 d2 x0 x1 HX5 H1 H3 H4 H5 H6 HXO
      go_upto_block 2 with fail
      obtain ⟨S, hS⟩ : ∃ S, S = insO L (vsOf L) A (xk == 4) (sOf (vsOf L) (k : Int)) ⟨out, ch, []⟩ xi := ⟨_, rfl⟩
      have HSS := hid hS
      clear hS
      obtain ⟨wo, hwo⟩ : ∃ wo : World, wo = wr := ⟨_, rfl⟩
      subst hwo
      go_cut [9] from 40 to 123 (fun _ wx => ∃ (vO : Value) (vs : List Value), Hid (RmS w wo wx sb gB wo.heap.size n (.slice (some ⟨b, off, none⟩) L.length c) vAt vin vO L A xk xl (.slice p2 xi.length c2) S.out S.ch vs S.inn))
      case first =>
        go_wp2_with fail
        go_loopw [9] (fun z wq => ∃ (j : Nat) (vO : Value) (vs : List Value), j ≤ xi.length ∧ z = .int .i64 j ∧ Hid (RmS w wo wq sb gB wo.heap.size n (.slice (some ⟨b, off, none⟩) L.length c) vAt vin vO L A xk xl (.slice p2 xi.length c2) (insO L (vsOf L) A (xk == 4) (sOf (vsOf L) (k : Int)) ⟨out, ch, []⟩ (xi.take j)).out (insO L (vsOf L) A (xk == 4) (sOf (vsOf L) (k : Int)) ⟨out, ch, []⟩ (xi.take j)).ch vs ((insO L (vsOf L) A (xk == 4) (sOf (vsOf L) (k : Int)) ⟨out, ch, []⟩ (xi.take j)).inn ++ (xi.drop j).map (iOf A)))) (fun z _ => xi.length - (intOf z).toNat)
        case atStart => exact ⟨0, vOut, vs0, Nat.zero_le _, rfl, HI0.out⟩
        case round =>
          clear HI0 m0 m1 m2
          obtain ⟨j, vO, vs, hj, rfl, hsi⟩ := hrel
          by_cases hg : j < xi.length ∧ xk = 4
          · obtain ⟨hjl, hx4⟩ := hg
            subst hx4
            obtain ⟨s, hs⟩ : ∃ s, s = insO L (vsOf L) A ((4 : Int) == 4) (sOf (vsOf L) (k : Int)) ⟨out, ch, []⟩ (xi.take j) := ⟨_, rfl⟩
            have hsn := insO_snoc L (vsOf L) A ((4 : Int) == 4) (sOf (vsOf L) (k : Int)) ⟨out, ch, []⟩ (xi.take j) xi[j]
            have hil := insO_inn L (vsOf L) A ((4 : Int) == 4) (sOf (vsOf L) (k : Int)) (xi.take j) ⟨out, ch, []⟩
            have hbd1 := HBD.out (j + 1)
            have hbd0 := HBD.out j
            rw [← List.take_succ_eq_append_getElem hjl, ← hs] at hsn
            rw [← hs] at hsi hil hbd0
            rw [hsn] at hbd1
            have HSN := hid hsn
            have hdr : (xi.drop j).map (iOf A) = iOf A xi[j] :: (xi.drop (j + 1)).map (iOf A) := by rw [List.drop_eq_getElem_cons hjl, List.map_cons]
            rw [hdr] at hsi
            have hilj : s.inn.length = j := by rw [hil, List.length_take]; show 0 + _ = _; omega
            have H := hsi.out
            obtain ⟨gm, cm, rfl, hgB, hgl, hgc⟩ := H.own.cells (by simp; omega)
            have hll : (s.inn ++ iOf A xi[j] :: (xi.drop (j + 1)).map (iOf A)).length = xi.length := by simp; omega
            have hgj := hgc j (by rw [hll]; exact hjl)
            have hgv : (s.inn ++ iOf A xi[j] :: (xi.drop (j + 1)).map (iOf A))[j]'(by rw [hll]; exact hjl) = iOf A xi[j] := by rw [List.getElem_append_right (by omega)]; simp [hilj]
            rw [hgv] at hgj
            rw [hll] at H ⊢
            obtain ⟨p3, c3, e3, h33⟩ := HIW.out
            injection e3 with e1 e0 e2
            clear e0
            subst e1; subst e2
            obtain ⟨b2, o2, rfl, hc⟩ := h33.resolve_left (by intro e; rw [e] at hjl; simp at hjl)
            have hcw := hc j hjl
            rw [List.getElem?_eq_getElem hjl, Option.getD_some] at hcw
            have hcj := (H.bel.cell (cell_lt hcw)).trans hcw
            have hin := HIN.out _ (List.getElem_mem hjl)
            obtain ⟨q, hq⟩ : ∃ q : Nat, xi[j] = (q : Int) := ⟨xi[j].toNat, by omega⟩
            rw [hq] at hcj hcw hin HSN H hbd1 hgj
            have HCW := hid hcw
            have zj : (0 : Int) ≤ (j : Int) ∧ (j : Int) < (xi.length : Int) := by omega
            have zq : (0 : Int) ≤ (q : Int) ∧ (q : Int) < (L.length : Int) := by omega
            have hql : q < L.length := by omega
            have hqk : q < k := by omega
            have HS := hid H
            have HBD0 := hid hbd0
            have HBD1 := hid hbd1
            have HIL := hid hilj
            have HGC := hid hgj
            obtain ⟨uq, huq⟩ := HN.out q hql
            have hqr := huq.below H.bel
            have HQI := hid (ins_lt HFT.out hql)
            have hqle : L[q].ins.length ≤ 65536 := HINS.out _ (List.getElem_mem hql)
            have HNO := hid (nOf_nat L q hql)
            generalize hyy : L[q] = y at *
            obtain ⟨yk, yl, yi⟩ := y
            obtain ⟨p6, c6, e6, hdrop⟩ := huq.ints
            subst e6
            have HYI := hid (show IntsAt w (.slice p6 yi.length c6) yi from huq.ints)
            clear hdrop hyy huq
            have CN : Hid (wr.drew.cell? ⟨w.heap.size, 1, none⟩ = some (.slice (some ⟨b, off, none⟩) L.length c)) := H.net.cells.2.1
            have CX : Hid (wr.drew.cell? ⟨wo.heap.size, 2, none⟩ = some (.slice (some ⟨b2, o2, none⟩) xi.length c2)) := H.xbx.cells.2.2
            have CI : Hid (wr.drew.cell? ⟨b2, o2 + j, none⟩ = some (.int .i64 (q : Int))) := hcj
            have C0 : Hid (wr.drew.cell? ⟨b, off + q * 3, none⟩ = some (.int .i64 yk)) := hqr.kind
            have C1 : Hid (wr.drew.cell? ⟨b, off + q * 3 + 1, none⟩ = some (.int .i64 yl)) := hqr.lit
            have C2 : Hid (wr.drew.cell? ⟨b, off + q * 3 + 2, none⟩ = some (.slice p6 yi.length c6)) := hqr.ins
            obtain ⟨m0, m1, m2⟩ := H.xbx.cells
            clear hc hcw h33 hin hq hs hsn hil hdr hsi hilj hbd0 hbd1 hgc hll hgj hgv H hqr
            go_wp2_with fail
            refine Go.Proofs.YtpdbfbjfodckgaaDoor.wp_region_L 11 10 (fun w' => w'.cell? ⟨w.heap.size, 1, none⟩ = some (.slice (some ⟨b, off, none⟩) L.length c) ∧ w'.cell? ⟨wo.heap.size, 2, none⟩ = some (.slice (some ⟨b2, o2, none⟩) xi.length c2) ∧ w'.cell? ⟨b2, o2 + j, none⟩ = some (.int .i64 (q : Int)) ∧ w'.cell? ⟨b, off + q * 3, none⟩ = some (.int .i64 yk) ∧ w'.cell? ⟨b, off + q * 3 + 1, none⟩ = some (.int .i64 yl) ∧ w'.cell? ⟨b, off + q * 3 + 2, none⟩ = some (.slice p6 yi.length c6)) (by kernel_rfl) rfl ⟨CN.out, CX.out, CI.out, C0.out, C1.out, C2.out⟩ (fun _ => ?_)
            refine wpAnyL_pure (i := 0) (v := .pointer (some ⟨w.heap.size, 1, none⟩)) (by simp only [List.getElem?_toArray, List.getElem?_cons_zero] <;> rfl) (by kernel_rfl) (by kernel_rfl) (by kernel_rfl) (by exact fun _ _ _ h => h) (by decide) (.inr ⟨CN.out, CX.out, CI.out, C0.out, C1.out, C2.out⟩) (Or.inl ⟨by rfl, fun w _ => (by simp [execOp, go_sem, Act.eval])⟩) (fun _ => ?_)
            simp only [Act.put, List.setIfInBounds_toArray, List.set_cons_zero, List.set_cons_succ]
            refine wpAnyL_load2 (i := 1) (v := .slice (some ⟨b, off, none⟩) L.length c) (by simp only [List.getElem?_toArray, List.getElem?_cons_zero, List.getElem?_cons_succ] <;> rfl) (by kernel_rfl) (by kernel_rfl) (by kernel_rfl) (by exact fun _ _ _ h => h) (by decide) (Waits.one rfl ⟨⟨1, .phase⟩, by simp, rfl, rfl⟩) (by kernel_rfl) (by kernel_rfl) (.inr ⟨CN.out, CX.out, CI.out, C0.out, C1.out, C2.out⟩) (Or.inl ⟨by rfl, fun w hw => (by obtain ⟨x0, _, _, _, _, _⟩ := hw; simp [execOp, go_sem, Act.eval, x0])⟩) (fun _ => ?_)
            simp only [Act.put, List.setIfInBounds_toArray, List.set_cons_zero, List.set_cons_succ]
            refine wpAnyL_pure (i := 2) (v := .pointer (some ⟨wo.heap.size, 2, none⟩)) (by simp only [List.getElem?_toArray, List.getElem?_cons_zero, List.getElem?_cons_succ] <;> rfl) (by kernel_rfl) (by kernel_rfl) (by kernel_rfl) (by exact fun _ _ _ h => h) (by decide) (.inr ⟨CN.out, CX.out, CI.out, C0.out, C1.out, C2.out⟩) (Or.inl ⟨by rfl, fun w _ => (by simp [execOp, go_sem, Act.eval])⟩) (fun _ => ?_)
            simp only [Act.put, List.setIfInBounds_toArray, List.set_cons_zero, List.set_cons_succ]
            refine wpAnyL_load2 (i := 3) (v := .slice (some ⟨b2, o2, none⟩) xi.length c2) (by simp only [List.getElem?_toArray, List.getElem?_cons_zero, List.getElem?_cons_succ] <;> rfl) (by kernel_rfl) (by kernel_rfl) (by kernel_rfl) (by exact fun _ _ _ h => h) (by decide) (Waits.one rfl ⟨⟨3, .phase⟩, by simp, rfl, rfl⟩) (by kernel_rfl) (by kernel_rfl) (.inr ⟨CN.out, CX.out, CI.out, C0.out, C1.out, C2.out⟩) (Or.inl ⟨by rfl, fun w hw => (by obtain ⟨_, x1, _, _, _, _⟩ := hw; simp [execOp, go_sem, Act.eval, x1])⟩) (fun _ => ?_)
            simp only [Act.put, List.setIfInBounds_toArray, List.set_cons_zero, List.set_cons_succ]
            refine wpAnyL_pure (i := 4) (v := .int .i64 (j : Int)) (by simp only [List.getElem?_toArray, List.getElem?_cons_zero, List.getElem?_cons_succ] <;> rfl) (by kernel_rfl) (by kernel_rfl) (by kernel_rfl) (by exact fun _ _ _ h => h) (by decide) (.inr ⟨CN.out, CX.out, CI.out, C0.out, C1.out, C2.out⟩) (Or.inl ⟨by rfl, fun w _ => (by simp [execOp, go_sem, Act.eval])⟩) (fun _ => ?_)
            simp only [Act.put, List.setIfInBounds_toArray, List.set_cons_zero, List.set_cons_succ]
            refine wpAnyL_pure (i := 5) (v := .pointer (some ⟨b2, o2 + j, none⟩)) (by simp only [List.getElem?_toArray, List.getElem?_cons_zero, List.getElem?_cons_succ] <;> rfl) (by kernel_rfl) (by kernel_rfl) (by kernel_rfl) (by exact fun _ _ _ h => h) (by decide) (.inr ⟨CN.out, CX.out, CI.out, C0.out, C1.out, C2.out⟩) (Or.inl ⟨by rfl, fun w _ => (by simp [execOp, go_sem, Act.eval, zj])⟩) (fun _ => ?_)
            simp only [Act.put, List.setIfInBounds_toArray, List.set_cons_zero, List.set_cons_succ]
            refine wpAnyL_load2 (i := 6) (v := .int .i64 (q : Int)) (by simp only [List.getElem?_toArray, List.getElem?_cons_zero, List.getElem?_cons_succ] <;> rfl) (by kernel_rfl) (by kernel_rfl) (by kernel_rfl) (by exact fun _ _ _ h => h) (by decide) (Waits.one rfl ⟨⟨6, .phase⟩, by simp, rfl, rfl⟩) (by kernel_rfl) (by kernel_rfl) (.inr ⟨CN.out, CX.out, CI.out, C0.out, C1.out, C2.out⟩) (Or.inl ⟨by rfl, fun w hw => (by obtain ⟨_, _, x2, _, _, _⟩ := hw; simp [execOp, go_sem, Act.eval, x2])⟩) (fun _ => ?_)
            simp only [Act.put, List.setIfInBounds_toArray, List.set_cons_zero, List.set_cons_succ]
            refine wpAnyL_pure (i := 7) (v := .pointer (some ⟨b, off + q * 3, none⟩)) (by simp only [List.getElem?_toArray, List.getElem?_cons_zero, List.getElem?_cons_succ] <;> rfl) (by kernel_rfl) (by kernel_rfl) (by kernel_rfl) (by exact fun _ _ _ h => h) (by decide) (.inr ⟨CN.out, CX.out, CI.out, C0.out, C1.out, C2.out⟩) (Or.inl ⟨by rfl, fun w _ => (by simp [execOp, go_sem, Act.eval, zq])⟩) (fun _ => ?_)
            simp only [Act.put, List.setIfInBounds_toArray, List.set_cons_zero, List.set_cons_succ]
            refine wpAnyL_load2 (i := 8) (v := .agg #[.int .i64 yk, .int .i64 yl, .slice p6 yi.length c6]) (by simp only [List.getElem?_toArray, List.getElem?_cons_zero, List.getElem?_cons_succ] <;> rfl) (by kernel_rfl) (by kernel_rfl) (by kernel_rfl) (by exact fun _ _ _ h => h) (by decide) (Waits.one rfl ⟨⟨8, .data⟩, by simp, rfl, rfl⟩) (by kernel_rfl) (by kernel_rfl) (.inr ⟨CN.out, CX.out, CI.out, C0.out, C1.out, C2.out⟩) (Or.inl ⟨by rfl, fun w hw => (by obtain ⟨_, _, _, x3, x4, x5⟩ := hw; simp [execOp, go_sem, Act.eval, x3, x4, x5])⟩) (fun _ => ?_)
            simp only [Act.put, List.setIfInBounds_toArray, List.set_cons_zero, List.set_cons_succ]
            have halp : Below wr.drew.heap.size wr.drew (wr.drew.alloc (.cells #[.int .i64 0, .int .i64 0, .slice none 0 0] 39)) := (Below.refl _ wr.drew).alloc (Nat.le_refl _) _
            have hp_0 := hid ((halp.cell (cell_lt CN.out)).trans CN.out)
            have hp_1 := hid ((halp.cell (cell_lt CX.out)).trans CX.out)
            have hp_2 := hid ((halp.cell (cell_lt CI.out)).trans CI.out)
            have hp_3 := hid ((halp.cell (cell_lt C0.out)).trans C0.out)
            have hp_4 := hid ((halp.cell (cell_lt C1.out)).trans C1.out)
            have hp_5 := hid ((halp.cell (cell_lt C2.out)).trans C2.out)
            have hpf := (Box3.new wr.drew 39 (.int .i64 0) (.int .i64 0) (.slice none 0 0))
            refine wpAnyL_one (i := 9) (by kernel_rfl) (by simp only [List.getElem?_toArray, List.getElem?_cons_zero, List.getElem?_cons_succ] <;> rfl) (by rfl) ?_
            refine opwp_value (v := .pointer (some ⟨wr.heap.size, 0, none⟩)) (w' := (wr.drew.alloc (.cells #[.int .i64 0, .int .i64 0, .slice none 0 0] 39))) (by simp [execOp, go_sem]) ⟨.inr ⟨hp_0.out, hp_1.out, hp_2.out, hp_3.out, hp_4.out, hp_5.out⟩, ?_⟩
            simp only [Act.put, List.setIfInBounds_toArray, List.set_cons_zero, List.set_cons_succ]
            refine wpAnyL_one (i := 10) (by kernel_rfl) (by simp only [List.getElem?_toArray, List.getElem?_cons_zero, List.getElem?_cons_succ] <;> rfl) (by rfl) ?_
            refine opwp_skip (w' := ((((wr.drew.alloc (.cells #[.int .i64 0, .int .i64 0, .slice none 0 0] 39)).setCell ⟨wr.heap.size, 0, none⟩ (.int .i64 yk)).setCell ⟨wr.heap.size, 1, none⟩ (.int .i64 yl)).setCell ⟨wr.heap.size, 2, none⟩ (.slice p6 yi.length c6))) (by simp [execOp, go_sem, Act.eval]) ⟨.inl (by kernel_rfl), ?_⟩
            simp only [Act.put]
            refine wpAnyL_done (by kernel_rfl) ?_ _
            obtain ⟨hob, hbo⟩ := old_box wr.drew 39 (.int .i64 yk) (.int .i64 yl) (.slice p6 yi.length c6)
            have hbo2 : Below wr.heap.size wr ((((wr.drew.alloc (.cells #[.int .i64 0, .int .i64 0, .slice none 0 0] 39)).setCell ⟨wr.heap.size, 0, none⟩ (.int .i64 yk)).setCell ⟨wr.heap.size, 1, none⟩ (.int .i64 yl)).setCell ⟨wr.heap.size, 2, none⟩ (.slice p6 yi.length c6)) := (Below.refl _ wr).drew.trans hbo
            have HS1 := hid (HS.out.below hbo2)
            have HOB := hid (show Box3 ((((wr.drew.alloc (.cells #[.int .i64 0, .int .i64 0, .slice none 0 0] 39)).setCell ⟨wr.heap.size, 0, none⟩ (.int .i64 yk)).setCell ⟨wr.heap.size, 1, none⟩ (.int .i64 yl)).setCell ⟨wr.heap.size, 2, none⟩ (.slice p6 yi.length c6)) wr.heap.size 39 (.int .i64 yk) (.int .i64 yl) (.slice p6 yi.length c6) from hob)
            have HGC1 := hid (show ((((wr.drew.alloc (.cells #[.int .i64 0, .int .i64 0, .slice none 0 0] 39)).setCell ⟨wr.heap.size, 0, none⟩ (.int .i64 yk)).setCell ⟨wr.heap.size, 1, none⟩ (.int .i64 yl)).setCell ⟨wr.heap.size, 2, none⟩ (.slice p6 yi.length c6)).cell? ⟨gm, j, none⟩ = some (.int .i64 (iOf A (q : Int))) from (hbo2.cell (cell_lt HGC.out.1)).trans HGC.out.1)
            have HCI1 := hid (show ((((wr.drew.alloc (.cells #[.int .i64 0, .int .i64 0, .slice none 0 0] 39)).setCell ⟨wr.heap.size, 0, none⟩ (.int .i64 yk)).setCell ⟨wr.heap.size, 1, none⟩ (.int .i64 yl)).setCell ⟨wr.heap.size, 2, none⟩ (.slice p6 yi.length c6)).cell? ⟨b2, o2 + j, none⟩ = some (.int .i64 (q : Int)) from (hbo2.cell (cell_lt (show wr.cell? _ = _ from CI.out))).trans CI.out)
            have HGE := hid hgB
            have HOS := hid HS.out.maker.box.lt
            generalize ((((wr.drew.alloc (.cells #[.int .i64 0, .int .i64 0, .slice none 0 0] 39)).setCell ⟨wr.heap.size, 0, none⟩ (.int .i64 yk)).setCell ⟨wr.heap.size, 1, none⟩ (.int .i64 yl)).setCell ⟨wr.heap.size, 2, none⟩ (.slice p6 yi.length c6)) = w10 at *
            clear hob hbo hbo2 halp hpf hp_0 hp_1 hp_2 hp_3 hp_4 hp_5 CN CX CI C0 C1 C2 m0 m1 m2 HS
            obtain ⟨t, ht, y0, y1, _, _⟩ := HS1.out.row.getS q (by rw [vsOf_length]; exact hql)
            obtain ⟨tk, htk, z0, z1, _, _⟩ := HS1.out.row.getS k (by rw [vsOf_length]; exact hkl)
            have BX : Hid (w10.drew.cell? ⟨wo.heap.size, 2, none⟩ = some (.slice (some ⟨b2, o2, none⟩) xi.length c2)) := HS1.out.xbx.cells.2.2
            have BI : Hid (w10.drew.cell? ⟨b2, o2 + j, none⟩ = some (.int .i64 (q : Int))) := HCI1.out
            have BT : Hid (w10.drew.cell? ⟨gB, q * 2, none⟩ = some (.int .u64 ((lw t).toNat : Int)) ∧ w10.drew.cell? ⟨gB, q * 2 + 1, none⟩ = some (.int .u64 ((hw t).toNat : Int))) := ⟨y0, y1⟩
            have BTK : Hid (w10.drew.cell? ⟨gB, k * 2, none⟩ = some (.int .u64 ((lw tk).toNat : Int)) ∧ w10.drew.cell? ⟨gB, k * 2 + 1, none⟩ = some (.int .u64 ((hw tk).toNat : Int))) := ⟨z0, z1⟩
            have HTT := hid ht
            have HTK := hid htk
            clear ht htk y0 y1
            by_cases hd : t = tk
            · have HST := hid (show insO L (vsOf L) A ((4 : Int) == 4) (sOf (vsOf L) (k : Int)) ⟨out, ch, []⟩ (xi.take (j + 1)) = ⟨s.out, s.ch, s.inn ++ [iOf A (q : Int)]⟩ from by
                rw [HSN.out]; unfold stepO; rw [if_neg (by rw [HTT.out, HTK.out, hd]; simp)])
              have HS2 := hid (HS1.out.below (Below.refl _ w10).drew)
              have HD := hid hd
              clear hd z0 z1
              go_wp2_with fail
              refine Go.Proofs.YtpdbfbjfodckgaaDoor.wp_region_L 13 12 (fun w' => w'.cell? ⟨wo.heap.size, 2, none⟩ = some (.slice (some ⟨b2, o2, none⟩) xi.length c2) ∧ w'.cell? ⟨b2, o2 + j, none⟩ = some (.int .i64 (q : Int)) ∧ (w'.cell? ⟨gB, q * 2, none⟩ = some (.int .u64 ((lw (t)).toNat : Int)) ∧ w'.cell? ⟨gB, q * 2 + 1, none⟩ = some (.int .u64 ((hw (t)).toNat : Int))) ∧ (w'.cell? ⟨gB, k * 2, none⟩ = some (.int .u64 ((lw (tk)).toNat : Int)) ∧ w'.cell? ⟨gB, k * 2 + 1, none⟩ = some (.int .u64 ((hw (tk)).toNat : Int)))) (by kernel_rfl) rfl ⟨BX.out, BI.out, BT.out, BTK.out⟩ (fun _ => ?_)
              refine wpAnyL_pure (i := 0) (v := .slice (some ⟨gB, 0, none⟩) L.length L.length) (by simp only [List.getElem?_toArray, List.getElem?_cons_zero] <;> rfl) (by kernel_rfl) (by kernel_rfl) (by kernel_rfl) (by exact fun _ _ _ h => h) (by decide) (.inr ⟨BX.out, BI.out, BT.out, BTK.out⟩) (Or.inl ⟨by rfl, fun w _ => (by simp [execOp, go_sem, Act.eval])⟩) (fun _ => ?_)
              simp only [Act.put, List.setIfInBounds_toArray, List.set_cons_zero, List.set_cons_succ]
              refine wpAnyL_pure (i := 1) (v := .pointer (some ⟨wo.heap.size, 2, none⟩)) (by simp only [List.getElem?_toArray, List.getElem?_cons_zero, List.getElem?_cons_succ] <;> rfl) (by kernel_rfl) (by kernel_rfl) (by kernel_rfl) (by exact fun _ _ _ h => h) (by decide) (.inr ⟨BX.out, BI.out, BT.out, BTK.out⟩) (Or.inl ⟨by rfl, fun w _ => (by simp [execOp, go_sem, Act.eval])⟩) (fun _ => ?_)
              simp only [Act.put, List.setIfInBounds_toArray, List.set_cons_zero, List.set_cons_succ]
              refine wpAnyL_load2 (i := 2) (v := .slice (some ⟨b2, o2, none⟩) xi.length c2) (by simp only [List.getElem?_toArray, List.getElem?_cons_zero, List.getElem?_cons_succ] <;> rfl) (by kernel_rfl) (by kernel_rfl) (by kernel_rfl) (by exact fun _ _ _ h => h) (by decide) (Waits.more (j := 7) rfl ⟨⟨7, .data⟩, by simp, rfl, rfl⟩ (Waits.more (j := 6) rfl ⟨⟨6, .data⟩, by simp, rfl, rfl⟩ (Waits.more (j := 5) rfl ⟨⟨5, .data⟩, by simp, rfl, rfl⟩ (Waits.more (j := 4) rfl ⟨⟨4, .data⟩, by simp, rfl, rfl⟩ (Waits.one rfl ⟨⟨2, .data⟩, by simp, rfl, rfl⟩))))) (by kernel_rfl) (by kernel_rfl) (.inr ⟨BX.out, BI.out, BT.out, BTK.out⟩) (Or.inl ⟨by rfl, fun w hw => (by obtain ⟨x0, _, _, _⟩ := hw; simp [execOp, go_sem, Act.eval, x0])⟩) (fun _ => ?_)
              simp only [Act.put, List.setIfInBounds_toArray, List.set_cons_zero, List.set_cons_succ]
              refine wpAnyL_pure (i := 3) (v := .int .i64 (j : Int)) (by simp only [List.getElem?_toArray, List.getElem?_cons_zero, List.getElem?_cons_succ] <;> rfl) (by kernel_rfl) (by kernel_rfl) (by kernel_rfl) (by exact fun _ _ _ h => h) (by decide) (.inr ⟨BX.out, BI.out, BT.out, BTK.out⟩) (Or.inl ⟨by rfl, fun w _ => (by simp [execOp, go_sem, Act.eval])⟩) (fun _ => ?_)
              simp only [Act.put, List.setIfInBounds_toArray, List.set_cons_zero, List.set_cons_succ]
              refine wpAnyL_pure (i := 4) (v := .pointer (some ⟨b2, o2 + j, none⟩)) (by simp only [List.getElem?_toArray, List.getElem?_cons_zero, List.getElem?_cons_succ] <;> rfl) (by kernel_rfl) (by kernel_rfl) (by kernel_rfl) (by exact fun _ _ _ h => h) (by decide) (.inr ⟨BX.out, BI.out, BT.out, BTK.out⟩) (Or.inl ⟨by rfl, fun w _ => (by simp [execOp, go_sem, Act.eval, zj])⟩) (fun _ => ?_)
              simp only [Act.put, List.setIfInBounds_toArray, List.set_cons_zero, List.set_cons_succ]
              refine wpAnyL_load2 (i := 5) (v := .int .i64 (q : Int)) (by simp only [List.getElem?_toArray, List.getElem?_cons_zero, List.getElem?_cons_succ] <;> rfl) (by kernel_rfl) (by kernel_rfl) (by kernel_rfl) (by exact fun _ _ _ h => h) (by decide) (Waits.more (j := 7) rfl ⟨⟨7, .data⟩, by simp, rfl, rfl⟩ (Waits.more (j := 6) rfl ⟨⟨6, .data⟩, by simp, rfl, rfl⟩ (Waits.one rfl ⟨⟨5, .data⟩, by simp, rfl, rfl⟩))) (by kernel_rfl) (by kernel_rfl) (.inr ⟨BX.out, BI.out, BT.out, BTK.out⟩) (Or.inl ⟨by rfl, fun w hw => (by obtain ⟨_, x1, _, _⟩ := hw; simp [execOp, go_sem, Act.eval, x1])⟩) (fun _ => ?_)
              simp only [Act.put, List.setIfInBounds_toArray, List.set_cons_zero, List.set_cons_succ]
              refine wpAnyL_pure (i := 6) (v := .pointer (some ⟨gB, q * 2, none⟩)) (by simp only [List.getElem?_toArray, List.getElem?_cons_zero, List.getElem?_cons_succ] <;> rfl) (by kernel_rfl) (by kernel_rfl) (by kernel_rfl) (by exact fun _ _ _ h => h) (by decide) (.inr ⟨BX.out, BI.out, BT.out, BTK.out⟩) (Or.inl ⟨by rfl, fun w _ => (by simp [execOp, go_sem, Act.eval, zq])⟩) (fun _ => ?_)
              simp only [Act.put, List.setIfInBounds_toArray, List.set_cons_zero, List.set_cons_succ]
              refine wpAnyL_load2 (i := 7) (v := encS (t)) (by simp only [List.getElem?_toArray, List.getElem?_cons_zero, List.getElem?_cons_succ] <;> rfl) (by kernel_rfl) (by kernel_rfl) (by kernel_rfl) (by exact fun _ _ _ h => h) (by decide) (Waits.one rfl ⟨⟨7, .data⟩, by simp, rfl, rfl⟩) (by kernel_rfl) (by kernel_rfl) (.inr ⟨BX.out, BI.out, BT.out, BTK.out⟩) (Or.inl ⟨by rfl, fun w hw => (by obtain ⟨_, _, ⟨y2, z2⟩, _⟩ := hw; simp [execOp, go_sem, Act.eval, y2, z2])⟩) (fun _ => ?_)
              simp only [Act.put, List.setIfInBounds_toArray, List.set_cons_zero, List.set_cons_succ]
              refine wpAnyL_pure (i := 8) (v := .slice (some ⟨gB, 0, none⟩) L.length L.length) (by simp only [List.getElem?_toArray, List.getElem?_cons_zero, List.getElem?_cons_succ] <;> rfl) (by kernel_rfl) (by kernel_rfl) (by kernel_rfl) (by exact fun _ _ _ h => h) (by decide) (.inr ⟨BX.out, BI.out, BT.out, BTK.out⟩) (Or.inl ⟨by rfl, fun w _ => (by simp [execOp, go_sem, Act.eval])⟩) (fun _ => ?_)
              simp only [Act.put, List.setIfInBounds_toArray, List.set_cons_zero, List.set_cons_succ]
              refine wpAnyL_pure (i := 9) (v := .int .i64 (k : Int)) (by simp only [List.getElem?_toArray, List.getElem?_cons_zero, List.getElem?_cons_succ] <;> rfl) (by kernel_rfl) (by kernel_rfl) (by kernel_rfl) (by exact fun _ _ _ h => h) (by decide) (.inr ⟨BX.out, BI.out, BT.out, BTK.out⟩) (Or.inl ⟨by rfl, fun w _ => (by simp [execOp, go_sem, Act.eval])⟩) (fun _ => ?_)
              simp only [Act.put, List.setIfInBounds_toArray, List.set_cons_zero, List.set_cons_succ]
              refine wpAnyL_pure (i := 10) (v := .pointer (some ⟨gB, k * 2, none⟩)) (by simp only [List.getElem?_toArray, List.getElem?_cons_zero, List.getElem?_cons_succ] <;> rfl) (by kernel_rfl) (by kernel_rfl) (by kernel_rfl) (by exact fun _ _ _ h => h) (by decide) (.inr ⟨BX.out, BI.out, BT.out, BTK.out⟩) (Or.inl ⟨by rfl, fun w _ => (by simp [execOp, go_sem, Act.eval, zk])⟩) (fun _ => ?_)
              simp only [Act.put, List.setIfInBounds_toArray, List.set_cons_zero, List.set_cons_succ]
              refine wpAnyL_load2 (i := 11) (v := encS (tk)) (by simp only [List.getElem?_toArray, List.getElem?_cons_zero, List.getElem?_cons_succ] <;> rfl) (by kernel_rfl) (by kernel_rfl) (by kernel_rfl) (by exact fun _ _ _ h => h) (by decide) (Waits.one rfl ⟨⟨11, .data⟩, by simp, rfl, rfl⟩) (by kernel_rfl) (by kernel_rfl) (.inr ⟨BX.out, BI.out, BT.out, BTK.out⟩) (Or.inl ⟨by rfl, fun w hw => (by obtain ⟨_, _, _, ⟨y3, z3⟩⟩ := hw; simp [execOp, go_sem, Act.eval, y3, z3])⟩) (fun _ => ?_)
              simp only [Act.put, List.setIfInBounds_toArray, List.set_cons_zero, List.set_cons_succ]
              refine wpAnyL_one (i := 12) (by kernel_rfl) (by simp only [List.getElem?_toArray, List.getElem?_cons_zero, List.getElem?_cons_succ] <;> rfl) (by rfl) ?_
              refine opwp_value (v := .bool true) (w' := w10.drew) (by simp [execOp, go_sem, Act.eval, HD.out]) ⟨.inl (by kernel_rfl), ?_⟩
              simp only [Act.put, List.setIfInBounds_toArray, List.set_cons_zero, List.set_cons_succ]
              refine wpAnyL_done (by kernel_rfl) ?_ _
              go_wp2_with fail
              go_roundw
              case rel => exact ⟨j + 1, vO, vs, by omega, by go_num, by rw [HST.out, List.append_assoc]; exact HS2.out⟩
              case measure => simp [intOf]; omega
            · have hd3 : ¬ (t = tk) := hd
              obtain ⟨rr, hrr⟩ : ∃ rr, rr = fillO L (vsOf L) A s.out s.ch (q : Int) tk := ⟨_, rfl⟩
              have HST := hid (show insO L (vsOf L) A ((4 : Int) == 4) (sOf (vsOf L) (k : Int)) ⟨out, ch, []⟩ (xi.take (j + 1)) = ⟨rr.out ++ [⟨3, 0, rr.inn⟩], rr.ch, s.inn ++ [(rr.out.length : Int)]⟩ from by
                rw [HSN.out]; unfold stepO; rw [if_pos ⟨by decide, by rw [HTT.out, HTK.out]; exact hd⟩, HTK.out, hrr])
              have hrl : rr.out.length + 2 ≤ 65536 := by
                have := HBD1.out
                rw [← HSN.out, HST.out] at this
                simp only [List.length_append, List.length_cons, List.length_nil] at this
                omega
              have HRL := hid hrl
              have HRR := hid hrr
              clear hrr hd hrl
              go_wp2_with fail
              refine Go.Proofs.YtpdbfbjfodckgaaDoor.wp_region_L 13 12 (fun w' => w'.cell? ⟨wo.heap.size, 2, none⟩ = some (.slice (some ⟨b2, o2, none⟩) xi.length c2) ∧ w'.cell? ⟨b2, o2 + j, none⟩ = some (.int .i64 (q : Int)) ∧ (w'.cell? ⟨gB, q * 2, none⟩ = some (.int .u64 ((lw (t)).toNat : Int)) ∧ w'.cell? ⟨gB, q * 2 + 1, none⟩ = some (.int .u64 ((hw (t)).toNat : Int))) ∧ (w'.cell? ⟨gB, k * 2, none⟩ = some (.int .u64 ((lw (tk)).toNat : Int)) ∧ w'.cell? ⟨gB, k * 2 + 1, none⟩ = some (.int .u64 ((hw (tk)).toNat : Int)))) (by kernel_rfl) rfl ⟨BX.out, BI.out, BT.out, BTK.out⟩ (fun _ => ?_)
              refine wpAnyL_pure (i := 0) (v := .slice (some ⟨gB, 0, none⟩) L.length L.length) (by simp only [List.getElem?_toArray, List.getElem?_cons_zero] <;> rfl) (by kernel_rfl) (by kernel_rfl) (by kernel_rfl) (by exact fun _ _ _ h => h) (by decide) (.inr ⟨BX.out, BI.out, BT.out, BTK.out⟩) (Or.inl ⟨by rfl, fun w _ => (by simp [execOp, go_sem, Act.eval])⟩) (fun _ => ?_)
              simp only [Act.put, List.setIfInBounds_toArray, List.set_cons_zero, List.set_cons_succ]
              refine wpAnyL_pure (i := 1) (v := .pointer (some ⟨wo.heap.size, 2, none⟩)) (by simp only [List.getElem?_toArray, List.getElem?_cons_zero, List.getElem?_cons_succ] <;> rfl) (by kernel_rfl) (by kernel_rfl) (by kernel_rfl) (by exact fun _ _ _ h => h) (by decide) (.inr ⟨BX.out, BI.out, BT.out, BTK.out⟩) (Or.inl ⟨by rfl, fun w _ => (by simp [execOp, go_sem, Act.eval])⟩) (fun _ => ?_)
              simp only [Act.put, List.setIfInBounds_toArray, List.set_cons_zero, List.set_cons_succ]
              refine wpAnyL_load2 (i := 2) (v := .slice (some ⟨b2, o2, none⟩) xi.length c2) (by simp only [List.getElem?_toArray, List.getElem?_cons_zero, List.getElem?_cons_succ] <;> rfl) (by kernel_rfl) (by kernel_rfl) (by kernel_rfl) (by exact fun _ _ _ h => h) (by decide) (Waits.more (j := 7) rfl ⟨⟨7, .data⟩, by simp, rfl, rfl⟩ (Waits.more (j := 6) rfl ⟨⟨6, .data⟩, by simp, rfl, rfl⟩ (Waits.more (j := 5) rfl ⟨⟨5, .data⟩, by simp, rfl, rfl⟩ (Waits.more (j := 4) rfl ⟨⟨4, .data⟩, by simp, rfl, rfl⟩ (Waits.one rfl ⟨⟨2, .data⟩, by simp, rfl, rfl⟩))))) (by kernel_rfl) (by kernel_rfl) (.inr ⟨BX.out, BI.out, BT.out, BTK.out⟩) (Or.inl ⟨by rfl, fun w hw => (by obtain ⟨x0, _, _, _⟩ := hw; simp [execOp, go_sem, Act.eval, x0])⟩) (fun _ => ?_)
              simp only [Act.put, List.setIfInBounds_toArray, List.set_cons_zero, List.set_cons_succ]
              refine wpAnyL_pure (i := 3) (v := .int .i64 (j : Int)) (by simp only [List.getElem?_toArray, List.getElem?_cons_zero, List.getElem?_cons_succ] <;> rfl) (by kernel_rfl) (by kernel_rfl) (by kernel_rfl) (by exact fun _ _ _ h => h) (by decide) (.inr ⟨BX.out, BI.out, BT.out, BTK.out⟩) (Or.inl ⟨by rfl, fun w _ => (by simp [execOp, go_sem, Act.eval])⟩) (fun _ => ?_)
              simp only [Act.put, List.setIfInBounds_toArray, List.set_cons_zero, List.set_cons_succ]
              refine wpAnyL_pure (i := 4) (v := .pointer (some ⟨b2, o2 + j, none⟩)) (by simp only [List.getElem?_toArray, List.getElem?_cons_zero, List.getElem?_cons_succ] <;> rfl) (by kernel_rfl) (by kernel_rfl) (by kernel_rfl) (by exact fun _ _ _ h => h) (by decide) (.inr ⟨BX.out, BI.out, BT.out, BTK.out⟩) (Or.inl ⟨by rfl, fun w _ => (by simp [execOp, go_sem, Act.eval, zj])⟩) (fun _ => ?_)
              simp only [Act.put, List.setIfInBounds_toArray, List.set_cons_zero, List.set_cons_succ]
              refine wpAnyL_load2 (i := 5) (v := .int .i64 (q : Int)) (by simp only [List.getElem?_toArray, List.getElem?_cons_zero, List.getElem?_cons_succ] <;> rfl) (by kernel_rfl) (by kernel_rfl) (by kernel_rfl) (by exact fun _ _ _ h => h) (by decide) (Waits.more (j := 7) rfl ⟨⟨7, .data⟩, by simp, rfl, rfl⟩ (Waits.more (j := 6) rfl ⟨⟨6, .data⟩, by simp, rfl, rfl⟩ (Waits.one rfl ⟨⟨5, .data⟩, by simp, rfl, rfl⟩))) (by kernel_rfl) (by kernel_rfl) (.inr ⟨BX.out, BI.out, BT.out, BTK.out⟩) (Or.inl ⟨by rfl, fun w hw => (by obtain ⟨_, x1, _, _⟩ := hw; simp [execOp, go_sem, Act.eval, x1])⟩) (fun _ => ?_)
              simp only [Act.put, List.setIfInBounds_toArray, List.set_cons_zero, List.set_cons_succ]
              refine wpAnyL_pure (i := 6) (v := .pointer (some ⟨gB, q * 2, none⟩)) (by simp only [List.getElem?_toArray, List.getElem?_cons_zero, List.getElem?_cons_succ] <;> rfl) (by kernel_rfl) (by kernel_rfl) (by kernel_rfl) (by exact fun _ _ _ h => h) (by decide) (.inr ⟨BX.out, BI.out, BT.out, BTK.out⟩) (Or.inl ⟨by rfl, fun w _ => (by simp [execOp, go_sem, Act.eval, zq])⟩) (fun _ => ?_)
              simp only [Act.put, List.setIfInBounds_toArray, List.set_cons_zero, List.set_cons_succ]
              refine wpAnyL_load2 (i := 7) (v := encS (t)) (by simp only [List.getElem?_toArray, List.getElem?_cons_zero, List.getElem?_cons_succ] <;> rfl) (by kernel_rfl) (by kernel_rfl) (by kernel_rfl) (by exact fun _ _ _ h => h) (by decide) (Waits.one rfl ⟨⟨7, .data⟩, by simp, rfl, rfl⟩) (by kernel_rfl) (by kernel_rfl) (.inr ⟨BX.out, BI.out, BT.out, BTK.out⟩) (Or.inl ⟨by rfl, fun w hw => (by obtain ⟨_, _, ⟨y2, z2⟩, _⟩ := hw; simp [execOp, go_sem, Act.eval, y2, z2])⟩) (fun _ => ?_)
              simp only [Act.put, List.setIfInBounds_toArray, List.set_cons_zero, List.set_cons_succ]
              refine wpAnyL_pure (i := 8) (v := .slice (some ⟨gB, 0, none⟩) L.length L.length) (by simp only [List.getElem?_toArray, List.getElem?_cons_zero, List.getElem?_cons_succ] <;> rfl) (by kernel_rfl) (by kernel_rfl) (by kernel_rfl) (by exact fun _ _ _ h => h) (by decide) (.inr ⟨BX.out, BI.out, BT.out, BTK.out⟩) (Or.inl ⟨by rfl, fun w _ => (by simp [execOp, go_sem, Act.eval])⟩) (fun _ => ?_)
              simp only [Act.put, List.setIfInBounds_toArray, List.set_cons_zero, List.set_cons_succ]
              refine wpAnyL_pure (i := 9) (v := .int .i64 (k : Int)) (by simp only [List.getElem?_toArray, List.getElem?_cons_zero, List.getElem?_cons_succ] <;> rfl) (by kernel_rfl) (by kernel_rfl) (by kernel_rfl) (by exact fun _ _ _ h => h) (by decide) (.inr ⟨BX.out, BI.out, BT.out, BTK.out⟩) (Or.inl ⟨by rfl, fun w _ => (by simp [execOp, go_sem, Act.eval])⟩) (fun _ => ?_)
              simp only [Act.put, List.setIfInBounds_toArray, List.set_cons_zero, List.set_cons_succ]
              refine wpAnyL_pure (i := 10) (v := .pointer (some ⟨gB, k * 2, none⟩)) (by simp only [List.getElem?_toArray, List.getElem?_cons_zero, List.getElem?_cons_succ] <;> rfl) (by kernel_rfl) (by kernel_rfl) (by kernel_rfl) (by exact fun _ _ _ h => h) (by decide) (.inr ⟨BX.out, BI.out, BT.out, BTK.out⟩) (Or.inl ⟨by rfl, fun w _ => (by simp [execOp, go_sem, Act.eval, zk])⟩) (fun _ => ?_)
              simp only [Act.put, List.setIfInBounds_toArray, List.set_cons_zero, List.set_cons_succ]
              refine wpAnyL_load2 (i := 11) (v := encS (tk)) (by simp only [List.getElem?_toArray, List.getElem?_cons_zero, List.getElem?_cons_succ] <;> rfl) (by kernel_rfl) (by kernel_rfl) (by kernel_rfl) (by exact fun _ _ _ h => h) (by decide) (Waits.one rfl ⟨⟨11, .data⟩, by simp, rfl, rfl⟩) (by kernel_rfl) (by kernel_rfl) (.inr ⟨BX.out, BI.out, BT.out, BTK.out⟩) (Or.inl ⟨by rfl, fun w hw => (by obtain ⟨_, _, _, ⟨y3, z3⟩⟩ := hw; simp [execOp, go_sem, Act.eval, y3, z3])⟩) (fun _ => ?_)
              simp only [Act.put, List.setIfInBounds_toArray, List.set_cons_zero, List.set_cons_succ]
              refine wpAnyL_one (i := 12) (by kernel_rfl) (by simp only [List.getElem?_toArray, List.getElem?_cons_zero, List.getElem?_cons_succ] <;> rfl) (by rfl) ?_
              refine opwp_value (v := .bool false) (w' := w10.drew) (by simp [execOp, go_sem, Act.eval, hd3]) ⟨.inl (by kernel_rfl), ?_⟩
              simp only [Act.put, List.setIfInBounds_toArray, List.set_cons_zero, List.set_cons_succ]
              refine wpAnyL_done (by kernel_rfl) ?_ _
              have HS2 := hid (HS1.out.below (Below.refl _ w10).drew)
              have HGC2 := hid (show w10.drew.cell? ⟨gm, j, none⟩ = some (.int .i64 (iOf A (q : Int))) from HGC1.out)
              have HOB2 := hid (show Box3 w10.drew wr.heap.size 39 (.int .i64 yk) (.int .i64 yl) (.slice p6 yi.length c6) from HOB.out)
              generalize w10.drew = w11 at *
              clear BX BI BT BTK HS1 HGC1 HOB HGC HCI1 HSN z0 z1
              have hb12 : Below w11.heap.size w11 (w11.alloc (.cells #[.int .i64 (iOf A (q : Int))] 3)) := (Below.refl _ w11).alloc (Nat.le_refl _) _
              have HS3 := hid (HS2.out.below hb12)
              have HOB3 := hid (HOB2.out.below hb12 HOB2.out.lt)
              have HB12 := hid hb12
              have m0 := HGC2.out
              have l0 := cell_lt m0
              obtain ⟨ob0, _, ob2⟩ := HOB2.out.cells
              have l1 := HOB2.out.lt
              have HL1 := hid (show w.heap.size ≤ w11.heap.size from HS2.out.bel.size)
              have HONE := hid (own_one w11 (B := w11.heap.size) (Nat.le_refl _) (iOf A (q : Int)))
              clear hb12
              have HVIN := hid (show ∀ j', (Value.slice (some ⟨gm, 0, none⟩) xi.length cm).ownBlock = some j' → j' < w11.heap.size from fun j' e => (own_ge HS2.out.own e).2)
              have HVS := hid (show ∀ u ∈ vs, ∀ j', u.ownBlock = some j' → j' < w11.heap.size from fun u hu j' e => (HS2.out.maker.outs.in_lt hu e).2.1)
              have HVAT := hid (show ∀ j', vAt.ownBlock = some j' → j' < w11.heap.size from fun j' e => (own_ge HS2.out.maker.ats e).2)
              have hinn : (inn0 L A (q : Int)).length ≤ 65536 := by
                unfold inn0
                rw [HNO.out]
                split
                · rw [List.length_map]; exact hqle
                · simp
              have HINN := hid hinn
              clear hinn
              obtain ⟨fs, hfs⟩ : ∃ fs : Nat → FS, fs = fun i => fillV ⟨s.out, s.ch, inn0 L A (q : Int)⟩ (occ (minus tk t) i) := ⟨_, rfl⟩
              have HFS0 := hid (show fs 0 = ⟨s.out, s.ch, inn0 L A (q : Int)⟩ from by rw [hfs]; rfl)
              have HFSN := hid (show fs n.toNat = rr from by
                rw [hfs, HRR.out]; unfold fillO; rw [HTT.out]
                show fillV _ (occ (minus tk t) n.toNat) = _
                rw [occ_mems (fun u hu => by
                  rw [has_minus, Bool.and_eq_true] at hu
                  have := vars_le HFT.out k hkl u (by rw [HTK.out]; exact hu.1)
                  omega) (by omega)])
              have HFSL := hid (show ∀ i : Nat, (fs i).out.length ≤ s.out.length + 3 * i ∧ (fs i).inn.length ≤ 65536 + i from fun (i : Nat) => by
                have h1 := fillV_bound (occ (minus tk t) i) ⟨s.out, s.ch, inn0 L A (q : Int)⟩
                have h2 := fillV_inn (occ (minus tk t) i) ⟨s.out, s.ch, inn0 L A (q : Int)⟩
                have h3 := occ_length (minus tk t) i
                have h4 := HINN.out
                rw [hfs]
                simp only at h1 h2 ⊢
                omega)
              have HYES := hid (show ∀ i : Nat, has tk ((i : Int) + 1) = true → has t ((i : Int) + 1) = false → fs (i + 1) = stepV (fs i) ((i : Int) + 1) from fun (i : Nat) h1 h2 => by
                rw [hfs]
                show fillV _ (occ (minus tk t) (i + 1)) = stepV (fillV _ (occ (minus tk t) i)) _
                rw [occ_yes (by rw [has_minus, h1, h2]; rfl), fillV_snoc])
              have HNOO := hid (show ∀ i : Nat, (has tk ((i : Int) + 1) && !has t ((i : Int) + 1)) = false → fs (i + 1) = fs i from fun (i : Nat) h1 => by
                rw [hfs]
                show fillV _ (occ (minus tk t) (i + 1)) = fillV _ (occ (minus tk t) i)
                rw [occ_no (by rw [has_minus]; exact h1)])
              clear hfs
              go_upto_if 81 with fail
              go_cut [11] from 40 to 123 (fun y wx => Hid (RmV w wo w11 wx sb gB wo.heap.size n (.slice (some ⟨b, off, none⟩) L.length c) vAt (.slice (some ⟨gm, 0, none⟩) xi.length cm) L A 4 xl (.slice (some ⟨b2, o2, none⟩) xi.length c2) (fs 0) vs y (s.inn ++ iOf A (q : Int) :: (xi.drop (j + 1)).map (iOf A))))
              case first =>
                by_cases hk3 : yk = 3
                · subst hk3
                  go_wp2_with fail
                  refine (movedR_c _ sb n vO vAt _ s.ch A yi HS3.out.maker.box HS3.out.maker.ats.ints (HYI.out.below HS3.out.bel) (fun x hx => by have := HQI.out x hx; have := HAK.out; omega) hqle).mono ?_
                  rintro e w13 ⟨vy, rfl, hyo, hb13⟩
                  have HV0 := hid (show RmV w wo w11 w13 sb gB wo.heap.size n (.slice (some ⟨b, off, none⟩) L.length c) vAt (.slice (some ⟨gm, 0, none⟩) xi.length cm) L A 4 xl (.slice (some ⟨b2, o2, none⟩) xi.length c2) (fs 0) vs vy (s.inn ++ iOf A (q : Int) :: (xi.drop (j + 1)).map (iOf A)) from
                    ⟨vO, [], by rw [List.append_nil, HFS0.out]; exact HS3.out.below hb13, by rw [HFS0.out]; unfold inn0; rw [HNO.out, if_pos rfl]; exact own_lower hyo HB12.out.size, fun u hu => by simp at hu, Nat.le_trans HB12.out.size hb13.size⟩)
                  clear m0 l0 ob0 ob2 l1 HS2 HS3 HOB2 HOB3 HB12 HONE hyo hb13
                  go_wp2_with fail
                  go_meet
                  exact HV0
                · have hk3b : (yk == 3) = false := by simp [hk3]
                  have HV0 := hid (show RmV w wo w11 (w11.alloc (.cells #[.int .i64 (iOf A (q : Int))] 3)) sb gB wo.heap.size n (.slice (some ⟨b, off, none⟩) L.length c) vAt (.slice (some ⟨gm, 0, none⟩) xi.length cm) L A 4 xl (.slice (some ⟨b2, o2, none⟩) xi.length c2) (fs 0) vs (.slice (some ⟨w11.heap.size, 0, none⟩) 1 1) (s.inn ++ iOf A (q : Int) :: (xi.drop (j + 1)).map (iOf A)) from
                    ⟨vO, [], by rw [List.append_nil, HFS0.out]; exact HS3.out, by rw [HFS0.out]; unfold inn0; rw [HNO.out, if_neg hk3]; exact HONE.out, fun u hu => by simp at hu, HB12.out.size⟩)
                  go_wp2_with fail
                  go_meet
                  exact HV0
              case rest =>
                have HV0 := hcut
                clear hcut m0 l0 ob0 ob2 l1 HS2 HS3 HOB2 HOB3 HB12 HONE
                go_wp2_with fail

                go_loopw [11, 12] (fun y z wq => ∃ (i : Nat), i ≤ n.toNat ∧ z = .int .i64 ((i : Int) + 1) ∧ Hid (RmV w wo w11 wq sb gB wo.heap.size n (.slice (some ⟨b, off, none⟩) L.length c) vAt (.slice (some ⟨gm, 0, none⟩) xi.length cm) L A 4 xl (.slice (some ⟨b2, o2, none⟩) xi.length c2) (fs i) vs y (s.inn ++ iOf A (q : Int) :: (xi.drop (j + 1)).map (iOf A)))) (fun _ z _ => n.toNat + 1 - (intOf z).toNat)
                case atStart => exact ⟨0, Nat.zero_le _, by first | rfl | go_num, HV0.out⟩
                case round =>
                  clear HV0
                  obtain ⟨i, hi, rfl, hv⟩ := hrel
                  have HV := hid hv.out
                  obtain ⟨vO2, vs2, G, GY, GS, GW⟩ := hv.out
                  have HGW := hid GW
                  clear hv
                  obtain ⟨x0, x1, _, _⟩ := G.net.cells
                  have lnet := G.net.lt
                  by_cases hin : (i : Int) + 1 ≤ n
                  · obtain ⟨t1, ht1, z0, z1, _, _⟩ := G.row.getS k (by rw [vsOf_length]; exact hkl)
                    rw [HTK.out] at ht1
                    subst ht1
                    have HG := hid G
                    have HGY := hid GY
                    have HGS := hid GS
                    have lg := cell_lt z0
                    clear G GY GS GW
                    go_wp2_with fail
                    refine (has5_c tk _ _).mono ?_
                    rintro e w14 ⟨rfl, hb14⟩
                    have G4 := HG.out.below hb14
                    have HV4 := hid (HV.out.below hb14)
                    have HGY4 := hid (HGY.out.below hb14)
                    have HG4 := hid G4
                    clear HG HGY HV x0 x1 z0 z1 lg lnet
                    cases hh : has tk ((i : Int) + 1) with
                    | false =>
                      have HN1 := hid (HNOO.out i (by rw [hh]; rfl))
                      clear hb14 G4
                      go_wp2_with fail
                      go_roundw
                      case rel => exact ⟨i + 1, by omega, by go_num, by rw [HN1.out]; exact HV4.out⟩
                      case measure => simp [intOf]; omega
                    | true =>
                      obtain ⟨t1, ht1, y0, y1, _, _⟩ := G4.row.getS q (by rw [vsOf_length]; exact hql)
                      rw [HTT.out] at ht1
                      subst ht1
                      obtain ⟨_, _, m2⟩ := G4.xbx.cells
                      have c0 := (G4.bel.cell (cell_lt HCW.out)).trans HCW.out
                      have lg := cell_lt y0
                      have lx := G4.xbx.lt
                      have lc := cell_lt c0
                      clear G4
                      go_wp2_with fail
                      refine (has5_c t _ _).mono ?_
                      rintro e w15 ⟨rfl, hb15⟩
                      have G5 := HG4.out.below hb15
                      have HV5 := hid (HV4.out.below hb15)
                      have HSZ5 := hid (Nat.le_trans hb14.size hb15.size)
                      have HGY5 := hid (HGY4.out.below hb15)
                      have HG5 := hid G5
                      clear HG4 HGY4 HV4 y0 y1 m2 c0 lg lx lc hb15 hb14
                      cases hh2 : has t ((i : Int) + 1) with
                      | true =>
                        have HN1 := hid (HNOO.out i (by rw [hh, hh2]; rfl))
                        clear G5
                        go_wp2_with fail
                        go_roundw
                        case rel => exact ⟨i + 1, by omega, by go_num, by rw [HN1.out]; exact HV5.out⟩
                        case measure => simp [intOf]; omega
                      | false =>
                        have HN1 := hid (HYES.out i hh hh2)
                        have hch := chooseR_c w15 w.heap.size sb n vO2 vAt (fs i) (vs ++ vs2) A G5.maker G5.bel.size (i + 1) (by omega) (by omega) (by have := (HFSL.out i).1; have := HBD0.out; omega)
                        rw [show ((i + 1 : Nat) : Int) = (i : Int) + 1 from by omega] at hch
                        have HCH := hid hch
                        clear hch G5
                        go_wp2_with fail
                        refine HCH.out.mono ?_
                        rintro e w16 ⟨cc, vO5, vs3, rfl, hinn5, S5, hnew, F5⟩
                        rw [← HN1.out] at hinn5 S5
                        have G6 := HG5.out.call S5 F5 (fun u hu j' e e2 => by have h1 := hnew u hu j' e; have h2 := (own_ge HG5.out.own e2).2; omega)
                        have hb17 : Below w16.heap.size w16 (w16.alloc (.cells #[.int .i64 cc] 3)) := (Below.refl _ w16).alloc (Nat.le_refl _) _
                        have HOA := hid ((HG5.out.maker.keepInts F5 HGY5.out).below hb17)
                        have HON := hid (one_int w16 cc 3)
                        have HG6 := hid G6
                        have HNEW := hid hnew
                        have HF5 := hid F5.size
                        have HI5 := hid hinn5
                        have h11 : w11.heap.size ≤ w15.heap.size := Nat.le_trans HGW.out HSZ5.out
                        have hsz : w11.heap.size ≤ (w16.alloc (.cells #[.int .i64 cc] 3)).heap.size := Nat.le_trans h11 (Nat.le_trans F5.size hb17.size)
                        have H11 := hid h11
                        clear G6 S5 F5 hb17 hnew hinn5 HCH h11
                        go_wp2_with (at_builtin; go_loud (refine wpList_append_I rfl _ _ rfl w11.heap.size _ _ rfl HOA.out _ [cc] rfl HON.out (by have := (HFSL.out i).2; show _ + 1 ≤ 16777216; omega) hsz ?_; intro v3 w3' hown3 hg3 hv3))
                        have HVN := hid (RmV.step HGY5.out HGS.out HVIN.out HVS.out HVAT.out HL1.out H11.out HG6.out HNEW.out HOA.out hg3 hv3 hown3 HI5.out HF5.out)
                        clear hown3 hg3 hv3 HOA HON
                        go_wp2_with fail
                        go_roundw
                        case rel => exact ⟨i + 1, by omega, by go_num, HVN.out⟩
                        case measure => simp [intOf]; omega
                  · have hie : i = n.toNat := by omega
                    subst hie
                    rw [HFSN.out] at G GY
                    obtain ⟨pv, cv, ev, hdv⟩ := GY.ints
                    subst ev
                    clear hdv
                    have hrn : rr.inn.length ≤ 16777216 := by have := (HFSL.out n.toNat).2; rw [HFSN.out] at this; omega
                    have hfar : ∀ j', (Value.slice pv rr.inn.length cv).ownBlock = some j' → vAt.ownBlock ≠ some j' := fun j' e e2 => by have := (own_ge GY e).1; have := HVAT.out j' e2; omega
                    have HA := hid (addR_c wr w.heap.size sb n vO2 vAt rr.out (vs ++ vs2) A rr.ch G.maker G.bel.size 3 0 rr.inn (.slice pv rr.inn.length cv) (own_lower GY HL1.out) hrn hfar (by have := HRL.out; omega))
                    have HG := hid G
                    have HFY := hid (show ∀ u ∈ [(Value.slice pv rr.inn.length cv)], ∀ j', u.ownBlock = some j' → (Value.slice (some ⟨gm, 0, none⟩) xi.length cm).ownBlock ≠ some j' from fun u hu j' e e2 => by
                      rw [List.mem_singleton] at hu; subst hu
                      have := (own_ge GY e).1; have := HVIN.out j' e2; omega)
                    clear G GY GS GW hrn hfar
                    go_wp2_with fail
                    refine HA.out.mono ?_
                    rintro e w15 ⟨rfl, ⟨vO5, S5⟩, F5⟩
                    have G5 := HG.out.call S5 F5 HFY.out
                    have hlt : j < (s.inn ++ iOf A (q : Int) :: (xi.drop (j + 1)).map (iOf A)).length := by have := HIL.out; simp; omega
                    obtain ⟨g8, c8, e8, _, hgl8, hgc8⟩ := G5.own.cells (by omega)
                    injection e8 with e8 ea eb
                    clear ea eb
                    injection e8 with e8
                    injection e8 with e8
                    subst e8
                    obtain ⟨m0, mf⟩ := hgc8 j hlt
                    have G6 := G5.put HWS.out j hlt (rr.out.length : Int)
                    rw [List.set_append_right _ _ (by have := HIL.out; omega), show j - s.inn.length = 0 from by have := HIL.out; omega, List.set_cons_zero] at G6
                    have HG6 := hid G6
                    clear G5 G6 S5 F5 HG hgc8 HA
                    go_wp2_with fail
                    go_roundw
                    case rel => exact ⟨j + 1, vO5, vs ++ vs2 ++ [(.slice pv rr.inn.length cv)], by omega, by go_num, by rw [HST.out, List.append_assoc s.inn]; exact HG6.out⟩
                    case measure => simp [intOf]; omega
          · have hfin : RmS w wo wr sb gB wo.heap.size n (.slice (some ⟨b, off, none⟩) L.length c) vAt vin vO L A xk xl (.slice p2 xi.length c2) S.out S.ch vs S.inn := by
              rw [HSS.out]
              by_cases hjl : j < xi.length
              · have hx4 : ¬ xk = 4 := fun e => hg ⟨hjl, e⟩
                have hb : (xk == 4) = false := by simp [hx4]
                have h := hsi.out
                rw [hb, insO_no] at h ⊢
                simp only at h ⊢
                rw [List.nil_append, ← List.map_append, List.take_append_drop] at h
                rw [List.nil_append]; exact h
              · obtain rfl : j = xi.length := by omega
                have h := hsi.out
                rw [List.take_length, List.drop_length, List.map_nil, List.append_nil] at h
                exact h
            obtain ⟨m0, m1, m2⟩ := hfin.xbx.cells
            have lx := hfin.xbx.lt
            have HF := hid hfin
            clear hfin hsi
            by_cases hjl : j < xi.length
            · have hx4 : ¬ xk = 4 := fun e => hg ⟨hjl, e⟩
              clear hg
              go_wp2_with fail
              go_meet
              exact ⟨vO, vs, HF⟩
            · clear hg
              go_wp2_with fail
              go_meet
              exact ⟨vO, vs, HF⟩
      case rest =>
        clear HI0 m0 m1 m2
        obtain ⟨vO, vs, HF⟩ := hcut
        have hfin := HF.out
        have hbs := HBD.out xi.length
        rw [List.take_length, ← HSS.out] at hbs
        have HBS := hid hbs
        have HSI := hid (show S.inn.length = xi.length from by rw [HSS.out, insO_inn]; show 0 + _ = _; omega)
        obtain ⟨m0, m1, m2⟩ := hfin.xbx.cells
        have lx := hfin.xbx.lt
        have HFAR := hid (show ∀ j', vin.ownBlock = some j' → vAt.ownBlock ≠ some j' from fun j' e e2 => by have := hfin.inw j' e; have := hfin.vat j' e2; omega)
        obtain ⟨pA, cA, eA, hdA⟩ := hfin.maker.ats.ints
        obtain ⟨pv, cv, ev, hdv⟩ := hfin.own.ints
        subst eA
        subst ev
        have HON1 := hid (show S.inn.length ≤ 16777216 from by have := HSI.out; omega)
        clear hdA hdv hfin hbs
        go_wp2_with fail

        have HFd := hid (HF.out.below (Below.refl _ wc).drew)
        have C2 : Hid (wc.drew.cell? ⟨sb, 2, none⟩ = some (.slice pA A.length cA)) := HF.out.maker.box.get.2.2
        have X0 : Hid (wc.drew.cell? ⟨wo.heap.size, 0, none⟩ = some (.int .i64 xk)) := HF.out.xbx.cells.1
        have X1 : Hid (wc.drew.cell? ⟨wo.heap.size, 1, none⟩ = some (.int .i64 xl)) := HF.out.xbx.cells.2.1
        clear m0 m1 m2 lx
        refine Go.Proofs.YtpdbfbjfodckgaaDoor.wp_region_L 18 14 (fun w' => w'.cell? ⟨sb, 2, none⟩ = some (.slice pA A.length cA) ∧ w'.cell? ⟨wo.heap.size, 0, none⟩ = some (.int .i64 xk) ∧ w'.cell? ⟨wo.heap.size, 1, none⟩ = some (.int .i64 xl)) (by kernel_rfl) rfl ⟨C2.out, X0.out, X1.out⟩ (fun _ => ?_)
        refine wpAnyL_pure (i := 0) (v := .pointer (some ⟨sb, 0, none⟩)) (by simp only [List.getElem?_toArray, List.getElem?_cons_zero] <;> rfl) (by kernel_rfl) (by kernel_rfl) (by kernel_rfl) (by exact fun _ _ _ h => h) (by decide) (.inr ⟨C2.out, X0.out, X1.out⟩) (Or.inl ⟨by rfl, fun w _ => (by simp [execOp, go_sem, Act.eval])⟩) (fun _ => ?_)
        simp only [Act.put, List.setIfInBounds_toArray, List.set_cons_zero, List.set_cons_succ]
        refine wpAnyL_pure (i := 1) (v := .pointer (some ⟨sb, 0, none⟩)) (by simp only [List.getElem?_toArray, List.getElem?_cons_zero, List.getElem?_cons_succ] <;> rfl) (by kernel_rfl) (by kernel_rfl) (by kernel_rfl) (by exact fun _ _ _ h => h) (by decide) (.inr ⟨C2.out, X0.out, X1.out⟩) (Or.inl ⟨by rfl, fun w _ => (by simp [execOp, go_sem, Act.eval])⟩) (fun _ => ?_)
        simp only [Act.put, List.setIfInBounds_toArray, List.set_cons_zero, List.set_cons_succ]
        refine wpAnyL_pure (i := 2) (v := .pointer (some ⟨sb, 0, none⟩)) (by simp only [List.getElem?_toArray, List.getElem?_cons_zero, List.getElem?_cons_succ] <;> rfl) (by kernel_rfl) (by kernel_rfl) (by kernel_rfl) (by exact fun _ _ _ h => h) (by decide) (.inr ⟨C2.out, X0.out, X1.out⟩) (Or.inl ⟨by rfl, fun w _ => (by simp [execOp, go_sem, Act.eval])⟩) (fun _ => ?_)
        simp only [Act.put, List.setIfInBounds_toArray, List.set_cons_zero, List.set_cons_succ]
        refine wpAnyL_pure (i := 3) (v := .pointer (some ⟨sb, 2, none⟩)) (by simp only [List.getElem?_toArray, List.getElem?_cons_zero, List.getElem?_cons_succ] <;> rfl) (by kernel_rfl) (by kernel_rfl) (by kernel_rfl) (by exact fun _ _ _ h => h) (by decide) (.inr ⟨C2.out, X0.out, X1.out⟩) (Or.inl ⟨by rfl, fun w _ => (by simp [execOp, go_sem, Act.eval])⟩) (fun _ => ?_)
        simp only [Act.put, List.setIfInBounds_toArray, List.set_cons_zero, List.set_cons_succ]
        refine wpAnyL_load2 (i := 4) (v := .slice pA A.length cA) (by simp only [List.getElem?_toArray, List.getElem?_cons_zero, List.getElem?_cons_succ] <;> rfl) (by kernel_rfl) (by kernel_rfl) (by kernel_rfl) (by exact fun _ _ _ h => h) (by decide) (Waits.one rfl ⟨⟨4, .data⟩, by simp, rfl, rfl⟩) (by kernel_rfl) (by kernel_rfl) (.inr ⟨C2.out, X0.out, X1.out⟩) (Or.inl ⟨by rfl, fun w hw => (by obtain ⟨x0, _, _⟩ := hw; simp [execOp, go_sem, Act.eval, x0])⟩) (fun _ => ?_)
        simp only [Act.put, List.setIfInBounds_toArray, List.set_cons_zero, List.set_cons_succ]
        refine wpAnyL_pure (i := 5) (v := .pointer (some ⟨sb, 0, none⟩)) (by simp only [List.getElem?_toArray, List.getElem?_cons_zero, List.getElem?_cons_succ] <;> rfl) (by kernel_rfl) (by kernel_rfl) (by kernel_rfl) (by exact fun _ _ _ h => h) (by decide) (.inr ⟨C2.out, X0.out, X1.out⟩) (Or.inl ⟨by rfl, fun w _ => (by simp [execOp, go_sem, Act.eval])⟩) (fun _ => ?_)
        simp only [Act.put, List.setIfInBounds_toArray, List.set_cons_zero, List.set_cons_succ]
        refine wpAnyL_pure (i := 6) (v := .pointer (some ⟨wo.heap.size, 0, none⟩)) (by simp only [List.getElem?_toArray, List.getElem?_cons_zero, List.getElem?_cons_succ] <;> rfl) (by kernel_rfl) (by kernel_rfl) (by kernel_rfl) (by exact fun _ _ _ h => h) (by decide) (.inr ⟨C2.out, X0.out, X1.out⟩) (Or.inl ⟨by rfl, fun w _ => (by simp [execOp, go_sem, Act.eval])⟩) (fun _ => ?_)
        simp only [Act.put, List.setIfInBounds_toArray, List.set_cons_zero, List.set_cons_succ]
        refine wpAnyL_load2 (i := 7) (v := .int .i64 xk) (by simp only [List.getElem?_toArray, List.getElem?_cons_zero, List.getElem?_cons_succ] <;> rfl) (by kernel_rfl) (by kernel_rfl) (by kernel_rfl) (by exact fun _ _ _ h => h) (by decide) (Waits.more (j := 12) rfl ⟨⟨12, .chain⟩, by simp, rfl, rfl⟩ (Waits.more (j := 11) rfl ⟨⟨11, .data⟩, by simp, rfl, rfl⟩ (Waits.one rfl ⟨⟨7, .data⟩, by simp, rfl, rfl⟩))) (by kernel_rfl) (by kernel_rfl) (.inr ⟨C2.out, X0.out, X1.out⟩) (Or.inl ⟨by rfl, fun w hw => (by obtain ⟨_, x1, _⟩ := hw; simp [execOp, go_sem, Act.eval, x1])⟩) (fun _ => ?_)
        simp only [Act.put, List.setIfInBounds_toArray, List.set_cons_zero, List.set_cons_succ]
        refine wpAnyL_pure (i := 8) (v := .pointer (some ⟨wo.heap.size, 1, none⟩)) (by simp only [List.getElem?_toArray, List.getElem?_cons_zero, List.getElem?_cons_succ] <;> rfl) (by kernel_rfl) (by kernel_rfl) (by kernel_rfl) (by exact fun _ _ _ h => h) (by decide) (.inr ⟨C2.out, X0.out, X1.out⟩) (Or.inl ⟨by rfl, fun w _ => (by simp [execOp, go_sem, Act.eval])⟩) (fun _ => ?_)
        simp only [Act.put, List.setIfInBounds_toArray, List.set_cons_zero, List.set_cons_succ]
        refine wpAnyL_load2 (i := 9) (v := .int .i64 xl) (by simp only [List.getElem?_toArray, List.getElem?_cons_zero, List.getElem?_cons_succ] <;> rfl) (by kernel_rfl) (by kernel_rfl) (by kernel_rfl) (by exact fun _ _ _ h => h) (by decide) (Waits.more (j := 12) rfl ⟨⟨12, .chain⟩, by simp, rfl, rfl⟩ (Waits.more (j := 11) rfl ⟨⟨11, .data⟩, by simp, rfl, rfl⟩ (Waits.one rfl ⟨⟨9, .data⟩, by simp, rfl, rfl⟩))) (by kernel_rfl) (by kernel_rfl) (.inr ⟨C2.out, X0.out, X1.out⟩) (Or.inl ⟨by rfl, fun w hw => (by obtain ⟨_, _, x2⟩ := hw; simp [execOp, go_sem, Act.eval, x2])⟩) (fun _ => ?_)
        simp only [Act.put, List.setIfInBounds_toArray, List.set_cons_zero, List.set_cons_succ]
        refine wpAnyL_pure (i := 10) (v := .slice pv S.inn.length cv) (by simp only [List.getElem?_toArray, List.getElem?_cons_zero, List.getElem?_cons_succ] <;> rfl) (by kernel_rfl) (by kernel_rfl) (by kernel_rfl) (by exact fun _ _ _ h => h) (by decide) (.inr ⟨C2.out, X0.out, X1.out⟩) (Or.inl ⟨by rfl, fun w _ => (by simp [execOp, go_sem, Act.eval])⟩) (fun _ => ?_)
        simp only [Act.put, List.setIfInBounds_toArray, List.set_cons_zero, List.set_cons_succ]
        refine wpAnyL_pure (i := 11) (v := .agg #[.int .i64 xk, .int .i64 xl, .slice pv S.inn.length cv]) (by simp only [List.getElem?_toArray, List.getElem?_cons_zero, List.getElem?_cons_succ] <;> rfl) (by kernel_rfl) (by kernel_rfl) (by kernel_rfl) (by exact fun _ _ _ h => h) (by decide) (.inr ⟨C2.out, X0.out, X1.out⟩) (Or.inl ⟨by rfl, fun w _ => (by simp [execOp, go_sem, Act.eval])⟩) (fun _ => ?_)
        simp only [Act.put, List.setIfInBounds_toArray, List.set_cons_zero, List.set_cons_succ]
        refine wpAnyL_one (i := 12) (by kernel_rfl) (by simp only [List.getElem?_toArray, List.getElem?_cons_zero, List.getElem?_cons_succ] <;> rfl) (by rfl) ?_
        refine opwp_call (f := 63) (args := #[.pointer (some ⟨sb, 0, none⟩), .agg #[.int .i64 xk, .int .i64 xl, .slice pv S.inn.length cv]]) (w' := wc.drew) (by simp [go_sem, Act.eval]) ?_
        refine ((addR_c _ w.heap.size sb n vO (.slice pA A.length cA) S.out vs A S.ch HFd.out.maker HFd.out.bel.size xk xl S.inn _ HFd.out.own HON1.out HFAR.out (by have := HBS.out; omega))).mono ?_
        rintro e w9 ⟨rfl, ⟨vO9, S9⟩, F9⟩
        have hcg1_0 := hid (S9.box.get.2.2)
        have hcg1_1 := hid ((HFd.out.xkeep F9).cells.1)
        have hcg1_2 := hid ((HFd.out.xkeep F9).cells.2.1)
        refine .inl ⟨_, rfl, .inr ⟨hcg1_0.out, hcg1_1.out, hcg1_2.out⟩, ?_⟩
        simp only [Act.put, List.setIfInBounds_toArray, List.set_cons_zero, List.set_cons_succ]
        have hbA : Below w9.heap.size w9 (w9.alloc (.cells #[.int .i64 (S.out.length : Int)] 3)) := (Below.refl _ w9).alloc (Nat.le_refl _) _
        have ha_0 := hid ((hbA.cell (cell_lt hcg1_0.out)).trans hcg1_0.out)
        have ha_1 := hid ((hbA.cell (cell_lt hcg1_1.out)).trans hcg1_1.out)
        have ha_2 := hid ((hbA.cell (cell_lt hcg1_2.out)).trans hcg1_2.out)
        refine wpAnyL_one (i := 13) (by kernel_rfl) (by simp only [List.getElem?_toArray, List.getElem?_cons_zero, List.getElem?_cons_succ] <;> rfl) (by rfl) ?_
        refine opwp_value (v := .slice (some ⟨w9.heap.size, 0, none⟩) 1 1) (w' := w9.alloc (.cells #[.int .i64 (S.out.length : Int)] 3)) (by simp [execOp, go_sem, Act.eval]) ⟨.inr ⟨ha_0.out, ha_1.out, ha_2.out⟩, ?_⟩
        simp only [Act.put, List.setIfInBounds_toArray, List.set_cons_zero, List.set_cons_succ]
        refine wpAnyL_one (i := 14) (by kernel_rfl) (by simp only [List.getElem?_toArray, List.getElem?_cons_zero, List.getElem?_cons_succ] <;> rfl) (by rfl) ?_
        have HS9 := hid (S9.below hbA)
        have HON := hid (one_int w9 (S.out.length : Int) 3)
        refine opwp_append_I _ _ rfl w.heap.size _ _ rfl HS9.out.ats _ [(S.out.length : Int)] rfl HON.out (by have := HAK.out; show A.length + 1 ≤ _; omega) (Nat.le_trans (HFd.out.maker.low F9 HFd.out.bel).size hbA.size) ?_
        intro v10 w10 hown hgrow hloc
        obtain ⟨p10, c10, e10, hd10⟩ := hown.ints
        rw [show (A ++ [(S.out.length : Int)]).length = A.length + 1 from by simp] at e10
        subst e10
        clear hd10
        obtain ⟨e1, e2, e3⟩ := HS9.out.app_at hown hgrow hloc
        have y5 := e1.get.2.2
        have f5 := e1.free 2
        refine ⟨.inl (by kernel_rfl), ?_⟩
        simp only [Act.put, List.setIfInBounds_toArray, List.set_cons_zero, List.set_cons_succ]
        refine wpAnyL_pure (i := 15) (v := .pointer (some ⟨sb, 0, none⟩)) (by simp only [List.getElem?_toArray, List.getElem?_cons_zero, List.getElem?_cons_succ] <;> rfl) (by kernel_rfl) (by kernel_rfl) (by kernel_rfl) (by exact fun _ _ _ h => h) (by decide) (.inl (by kernel_rfl)) (Or.inl ⟨by rfl, fun w _ => (by simp [execOp, go_sem, Act.eval])⟩) (fun _ => ?_)
        simp only [Act.put, List.setIfInBounds_toArray, List.set_cons_zero, List.set_cons_succ]
        refine wpAnyL_pure (i := 16) (v := .pointer (some ⟨sb, 2, none⟩)) (by simp only [List.getElem?_toArray, List.getElem?_cons_zero, List.getElem?_cons_succ] <;> rfl) (by kernel_rfl) (by kernel_rfl) (by kernel_rfl) (by exact fun _ _ _ h => h) (by decide) (.inl (by kernel_rfl)) (Or.inl ⟨by rfl, fun w _ => (by simp [execOp, go_sem, Act.eval])⟩) (fun _ => ?_)
        simp only [Act.put, List.setIfInBounds_toArray, List.set_cons_zero, List.set_cons_succ]
        refine wpAnyL_one (i := 17) (by kernel_rfl) (by simp only [List.getElem?_toArray, List.getElem?_cons_zero, List.getElem?_cons_succ] <;> rfl) (by rfl) ?_
        refine opwp_skip (w' := (w10.setCell ⟨sb, 2, none⟩ (.slice p10 (A.length + 1) c10))) (by simp [execOp, go_sem, Act.eval, y5, f5]) ⟨.inl (by kernel_rfl), ?_⟩
        simp only [Act.put]
        refine wpAnyL_done (by kernel_rfl) ?_ _
        obtain ⟨r1', r2', r3', r4'⟩ := HFd.out.last F9 S9 hbA hgrow e3
        have HFIN := hid (show RmL w (w10.setCell ⟨sb, 2, none⟩ (.slice p10 (A.length + 1) c10)) sb gB n (.slice (some ⟨b, off, none⟩) L.length c) L (smF L (vsOf L) (L.take (k + 1))) from by
          rw [HNXT.out]
          simp only [← HSS.out]
          exact ⟨vO9, _, _, e2, r1', r2', r3', r4'⟩)
        have z0 := e2.box.get.2.1
        have hsl9 := e2.box.lt
        obtain ⟨p11, c11, e11, hd11⟩ := e2.outs.nodes
        rw [show (S.out ++ [(⟨xk, xl, S.inn⟩ : NodeT)]).length = S.out.length + 1 from by simp] at e11
        subst e11
        have zl11 : ¬ 65536 < ((S.out.length + 1 : Nat) : Int) := by have := HBS.out; omega
        generalize S.out.length + 1 = m11 at zl11 z0
        clear hd11 e1 e2 e3 y5 f5 hown hgrow S9 F9 hbA HS9 HON r1' r2' r3' r4'
        go_wp2_with fail
        go_roundw
        case rel => exact ⟨k + 1, by omega, by go_num, HFIN.out⟩
        case measure => simp [intOf]; omega
    · obtain rfl : k = L.length := by omega
      rw [List.take_length] at hsl
      obtain ⟨vOut, vAt, vs0, h1, h3, h4, h5, h6⟩ := hsl.out
      have HO := hid (show OwnNodes wr w.heap.size vOut (smT L) vs0 from h1.outs)
      obtain ⟨s0, s1, _⟩ := h1.box.get
      have hsl2 := h1.box.lt
      obtain ⟨x0, x1, _, _⟩ := h6.cells
      obtain ⟨y0, y1, y2, y3⟩ := h5.cells
      have HR5 := hid h5
      have HB5 := hid h4
      have hrl := h5.lt
      have hnl := h6.lt
      obtain ⟨pO, cO, eO, hdrop⟩ := h1.outs.nodes
      obtain ⟨m, hm⟩ : ∃ m, m = (smF L (vsOf L) L).out.length := ⟨_, rfl⟩
      rw [← hm] at eO
      subst eO
      clear hsl h1 h3 h4 h5 h6 hdrop hm
      have hne : ∀ (j : Nat) (cs : Array Value) (T : TypeId), wr.heap[j]? = some (.cells cs T (0, 0)) → T ≠ 24 → ((wr.setCell ⟨w.heap.size + 1, 0, none⟩ (.int .i64 n)).setCell ⟨w.heap.size + 1, 1, none⟩ (.slice pO m cO)).heap[j]? = wr.heap[j]? := fun j cs T hj hT => by
        have hjr : j ≠ w.heap.size + 1 := fun e => by
          subst e
          have := HR5.out
          unfold Box2 at this
          rw [hj] at this; injection this with this; injection this with _ e _; exact hT e
        rw [Below.heap_setCell _ _ _ _ hjr, Below.heap_setCell _ _ _ _ hjr]
      have hfin : SmdPost n L w (.returned (.tuple #[.agg #[.int .i64 n, .slice pO m cO], .int .i64 0])) ((wr.setCell ⟨w.heap.size + 1, 0, none⟩ (.int .i64 n)).setCell ⟨w.heap.size + 1, 1, none⟩ (.slice pO m cO)) := by
        refine ⟨_, vs0, rfl, ?_, below_01 HB5.out (Nat.le_succ _) _ _⟩
        refine HO.out.same (fun j e => ?_) (fun u hu j e => ?_)
        · obtain ⟨cs, hc⟩ := own_type HO.out.row e; exact hne j cs _ hc (by decide)
        · obtain ⟨_, _, cs, hc⟩ := HO.out.in_lt hu e; exact hne j cs _ hc (by decide)
      have HFIN := hid hfin
      clear hfin hne
      go_wp2_with (with_reducible refine bodyPost_ret (v := .tuple #[.agg #[.int .i64 n, .slice pO m cO], .int .i64 0]) ?_ ?_ ?_; exact results_net_e rfl rfl rfl (HR5.out.set01 _ _); rfl; exact HFIN.out)
end Go.Proofs.YtpdbfbjfodckgaaDoor
