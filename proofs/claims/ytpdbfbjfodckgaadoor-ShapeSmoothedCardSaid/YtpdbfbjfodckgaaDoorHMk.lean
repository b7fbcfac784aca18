/- The maker of the reference censusref21 in its variable; walks of its functions add, choose and moved. -/
import Derived.Test.YtpdbfbjfodckgaaDoorHSmd
import Derived.Test.YtpdbfbjfodckgaaDoorHPush
namespace Go.Proofs.YtpdbfbjfodckgaaDoor
open Go.RowKit

/-- The number of a choice, or 0. -/
def chN (ch : Int → Option Int) (i : Nat) : Int := (ch (i : Int)).getD 0
def RmBox (w : World) (sb : Nat) (n : Int) (vOut vAt : Value) (ch : Int → Option Int) : Prop := ∃ cur, w.heap[sb]? = some (.cells cur 84 (0, 0)) ∧ cur.size = 132 ∧ cur[0]? = some (.int .i64 n) ∧ cur[1]? = some vOut ∧ cur[2]? = some vAt ∧ ∀ i, i < 129 → cur[3 + i]? = some (.int .i64 (chN ch i))
section
variable {w : World} {sb : Nat} {n : Int} {vOut vAt : Value} {ch : Int → Option Int}
theorem RmBox.lt (h : RmBox w sb n vOut vAt ch) : sb < w.heap.size := by
  obtain ⟨cur, h, _⟩ := h; exact (Array.getElem?_eq_some_iff.1 h).1
theorem RmBox.get (h : RmBox w sb n vOut vAt ch) : w.cell? ⟨sb, 0, none⟩ = some (.int .i64 n) ∧ w.cell? ⟨sb, 1, none⟩ = some vOut ∧ w.cell? ⟨sb, 2, none⟩ = some vAt := by
  obtain ⟨cur, h, _, h0, h1, h2, _⟩ := h
  simp [World.cell?, h, h0, h1, h2]
theorem RmBox.getc (h : RmBox w sb n vOut vAt ch) (i : Nat) (hi : i < 129) : w.cell? ⟨sb, 3 + i, none⟩ = some (.int .i64 (chN ch i)) := by
  obtain ⟨cur, h, _, _, _, _, h3⟩ := h
  simp [World.cell?, h, h3 i hi]
theorem RmBox.free (h : RmBox w sb n vOut vAt ch) (i : Nat) : w.frozen? ⟨sb, i, none⟩ = false := by
  obtain ⟨cur, h, _⟩ := h
  simp [World.frozen?, h]
theorem RmBox.same {w' : World} (h : RmBox w sb n vOut vAt ch) (e : w'.heap[sb]? = w.heap[sb]?) : RmBox w' sb n vOut vAt ch := by
  obtain ⟨cur, h, r⟩ := h
  exact ⟨cur, e.trans h, r⟩
theorem RmBox.type (h : RmBox w sb n vOut vAt ch) {cs : Array Value} {T : TypeId} {fr : Nat × Nat} {j : Nat} (hj : w.heap[j]? = some (.cells cs T fr)) (hT : T ≠ 84) : j ≠ sb := fun e => by
  subst e
  obtain ⟨cur, h, _⟩ := h
  rw [hj] at h
  injection h with h
  injection h with _ e _
  exact hT e
theorem RmBox.set {v : Value} (h : RmBox w sb n vOut vAt ch) (i : Nat) : ∃ cur, w.heap[sb]? = some (.cells cur 84 (0, 0)) ∧ (w.setCell ⟨sb, i, none⟩ v).heap[sb]? = some (.cells (cur.setIfInBounds i v) 84 (0, 0)) ∧ cur.size = 132 ∧ cur[0]? = some (.int .i64 n) ∧ cur[1]? = some vOut ∧ cur[2]? = some vAt ∧ ∀ i, i < 129 → cur[3 + i]? = some (.int .i64 (chN ch i)) := by
  obtain ⟨cur, h, r⟩ := h
  exact ⟨cur, h, by simp [World.setCell, Array.getElem?_modify, h], r⟩
theorem RmBox.out (h : RmBox w sb n vOut vAt ch) (v : Value) : RmBox (w.setCell ⟨sb, 1, none⟩ v) sb n v vAt ch := by
  obtain ⟨cur, _, h1, h2, h3, h4, h5, h6⟩ := h.set (v := v) 1
  refine ⟨_, h1, by simpa using h2, ?_, ?_, ?_, fun i hi => ?_⟩
  · rw [Array.getElem?_setIfInBounds_ne (by decide)]; exact h3
  · rw [Array.getElem?_setIfInBounds_self_of_lt (by omega)]
  · rw [Array.getElem?_setIfInBounds_ne (by decide)]; exact h5
  · rw [Array.getElem?_setIfInBounds_ne (by omega)]; exact h6 i hi
theorem RmBox.at_ (h : RmBox w sb n vOut vAt ch) (v : Value) : RmBox (w.setCell ⟨sb, 2, none⟩ v) sb n vOut v ch := by
  obtain ⟨cur, _, h1, h2, h3, h4, h5, h6⟩ := h.set (v := v) 2
  refine ⟨_, h1, by simpa using h2, ?_, ?_, ?_, fun i hi => ?_⟩
  · rw [Array.getElem?_setIfInBounds_ne (by decide)]; exact h3
  · rw [Array.getElem?_setIfInBounds_ne (by decide)]; exact h4
  · rw [Array.getElem?_setIfInBounds_self_of_lt (by omega)]
  · rw [Array.getElem?_setIfInBounds_ne (by omega)]; exact h6 i hi
theorem RmBox.choice (h : RmBox w sb n vOut vAt ch) (v : Nat) (hv : v < 129) (c : Int) : RmBox (w.setCell ⟨sb, 3 + v, none⟩ (.int .i64 c)) sb n vOut vAt (fun u => if u = (v : Int) then some c else ch u) := by
  obtain ⟨cur, _, h1, h2, h3, h4, h5, h6⟩ := h.set (v := .int .i64 c) (3 + v)
  refine ⟨_, h1, by simpa using h2, ?_, ?_, ?_, fun i hi => ?_⟩
  · rw [Array.getElem?_setIfInBounds_ne (by omega)]; exact h3
  · rw [Array.getElem?_setIfInBounds_ne (by omega)]; exact h4
  · rw [Array.getElem?_setIfInBounds_ne (by omega)]; exact h5
  · unfold chN
    by_cases e : i = v
    · subst e
      rw [Array.getElem?_setIfInBounds_self_of_lt (by omega)]; simp
    · have e2 : ¬ (i : Int) = (v : Int) := by omega
      rw [Array.getElem?_setIfInBounds_ne (by omega)]
      simp only [if_neg e2]
      exact h6 i hi
end
/-- The row of the nodes so far. -/
def rowR (w : World) (sb : Nat) : Option Nat := match w.cell? ⟨sb, 1, none⟩ with | some v => v.ownBlock | none => none
theorem RmBox.row {w : World} {sb : Nat} {n : Int} {vOut vAt : Value} {ch : Int → Option Int} (h : RmBox w sb n vOut vAt ch) : rowR w sb = vOut.ownBlock := by
  unfold rowR; rw [h.get.2.1]
/-- What the maker's functions leave as it was: all but its variable and the row of the nodes. -/
structure FrR (sb : Nat) (w w' : World) : Prop where
  os : w'.os = w.os
  tape : w'.tape = w.tape
  output : w'.output = w.output
  size : w.heap.size ≤ w'.heap.size
  block : ∀ k, k < w.heap.size → k ≠ sb → rowR w sb ≠ some k → w'.heap[k]? = w.heap[k]?
  row : rowR w' sb = rowR w sb ∨ ∃ r, rowR w' sb = some r ∧ w.heap.size ≤ r
theorem FrR.refl (sb : Nat) (w : World) : FrR sb w w := ⟨rfl, rfl, rfl, Nat.le_refl _, fun _ _ _ _ => rfl, .inl rfl⟩
theorem FrR.trans {sb : Nat} {a b c : World} (h : FrR sb a b) (k : FrR sb b c) : FrR sb a c := by
  refine ⟨k.os.trans h.os, k.tape.trans h.tape, k.output.trans h.output, Nat.le_trans h.size k.size, fun i hi h1 h3 => ?_, ?_⟩
  · refine (k.block i (Nat.lt_of_lt_of_le hi h.size) h1 ?_).trans (h.block i hi h1 h3)
    rcases h.row with e | ⟨r, e, hr⟩
    · rw [e]; exact h3
    · rw [e]; intro e2; cases e2; omega
  · rcases k.row with e | ⟨r, e, hr⟩
    · rw [e]; exact h.row
    · exact .inr ⟨r, e, Nat.le_trans h.size hr⟩
theorem FrR.of_below {sb : Nat} {w w' : World} (hb : Below w.heap.size w w') (hs : sb < w.heap.size) : FrR sb w w' :=
  ⟨hb.os, hb.tape, hb.output, hb.size, fun k hk _ _ => hb.block k hk, .inl (by unfold rowR; rw [World.cell?_of_block (a := ⟨sb, 1, none⟩) (hb.block sb hs)])⟩
theorem FrR.drew {sb : Nat} {a b : World} (h : FrR sb a b) : FrR sb a b.drew := ⟨h.os, h.tape, h.output, h.size, h.block, h.row⟩
/-- The reference's maker, in memory. -/
structure RmAt (w : World) (B sb : Nat) (n : Int) (vOut vAt : Value) (out : List NodeT) (vs : List Value) (A : List Int) (ch : Int → Option Int) : Prop where
  box : RmBox w sb n vOut vAt ch
  outs : OwnNodes w B vOut out vs
  ats : OwnInts w B vAt A
  far : ∀ u ∈ vs, ∀ j, u.ownBlock = some j → vAt.ownBlock ≠ some j
  hs : B ≤ sb
  pos : ∀ v c, ch v = some c → 0 < c
section
variable {w : World} {B sb : Nat} {n : Int} {vOut vAt : Value} {out : List NodeT} {vs : List Value} {A : List Int} {ch : Int → Option Int}
theorem RmAt.keep {w' : World} (h : RmAt w B sb n vOut vAt out vs A ch) (hf : FrR sb w w') {j : Nat} {cs : Array Value} {T : TypeId} {fr : Nat × Nat} (hj : w.heap[j]? = some (.cells cs T fr)) (h1 : T ≠ 84) (h2 : T ≠ 39) : w'.heap[j]? = w.heap[j]? := by
  refine hf.block j (Array.getElem?_eq_some_iff.1 hj).1 (h.box.type hj h1) (fun e => ?_)
  rw [h.box.row] at e
  obtain ⟨cs', hc⟩ := own_type h.outs.row e
  rw [hj] at hc
  injection hc with hc
  injection hc with _ e _
  exact h2 e
theorem RmAt.same {w' : World} (h : RmAt w B sb n vOut vAt out vs A ch) (hs : w'.heap[sb]? = w.heap[sb]?) (ho : ∀ j, vOut.ownBlock = some j → w'.heap[j]? = w.heap[j]?) (ha : ∀ j, vAt.ownBlock = some j → w'.heap[j]? = w.heap[j]?)
    (hv : ∀ u ∈ vs, ∀ j, u.ownBlock = some j → w'.heap[j]? = w.heap[j]?) : RmAt w' B sb n vOut vAt out vs A ch :=
  ⟨h.box.same hs, h.outs.same ho hv, own_same h.ats ha, h.far, h.hs, h.pos⟩
theorem RmAt.below {w' : World} (h : RmAt w B sb n vOut vAt out vs A ch) (hb : Below w.heap.size w w') : RmAt w' B sb n vOut vAt out vs A ch :=
  ⟨h.box.same (hb.block _ h.box.lt), h.outs.below hb, h.ats.below hb, h.far, h.hs, h.pos⟩
theorem RmAt.fr {w' : World} (h : RmAt w B sb n vOut vAt out vs A ch) (hb : Below w.heap.size w w') : FrR sb w w' := FrR.of_below hb h.box.lt
theorem RmAt.low {w0 w' : World} (h : RmAt w w0.heap.size sb n vOut vAt out vs A ch) (hf : FrR sb w w') (hb : Below w0.heap.size w0 w) : Below w0.heap.size w0 w' :=
  ⟨hf.os.trans hb.os, hf.tape.trans hb.tape, hf.output.trans hb.output, Nat.le_trans hb.size hf.size, fun k hk => (hf.block k (Nat.lt_of_lt_of_le hk hb.size) (by have := h.hs; omega) (fun e => by
    rw [h.box.row] at e
    have := (own_ge h.outs.row e).1
    omega)).trans (hb.block k hk)⟩
theorem RmAt.keepInts {w' : World} {B1 : Nat} {v : Value} {l : List Int} (h : RmAt w B sb n vOut vAt out vs A ch) (hf : FrR sb w w') (hi : OwnInts w B1 v l) : OwnInts w' B1 v l :=
  own_same hi fun j e => by
    obtain ⟨cs, hc⟩ := own_type hi e
    exact h.keep hf hc (by decide) (by decide)
/-- A node more: the row is appended to, and the variable takes the new value. -/
theorem RmAt.push {w9 : World} {v9 u : Value} {x : NodeT} (h : RmAt w B sb n vOut vAt out vs A ch) (hown : OwnNodes w9 B v9 (out ++ [x]) (vs ++ [u])) (hg : w.grownBy w9 vOut.ownBlock) (hv : v9.ownBlock = vOut.ownBlock ∨ v9.ownBlock = some w.heap.size) (hfar : ∀ j, u.ownBlock = some j → vAt.ownBlock ≠ some j) :
    RmBox w9 sb n vOut vAt ch ∧ RmAt (w9.setCell ⟨sb, 1, none⟩ v9) B sb n v9 vAt (out ++ [x]) (vs ++ [u]) A ch ∧ FrR sb w (w9.setCell ⟨sb, 1, none⟩ v9) := by
  have keep : ∀ {j : Nat} {cs : Array Value} {T : TypeId} {fr : Nat × Nat}, w.heap[j]? = some (.cells cs T fr) → T ≠ 39 → w9.heap[j]? = some (.cells cs T fr) := fun {j cs T fr} hj hT =>
    push_keeps h.outs hg hj fun _ _ _ e => by injection e with _ e _; rw [← e]; exact hT
  have hbx : RmBox w9 sb n vOut vAt ch := by
    obtain ⟨cur, h1, h2⟩ := h.box
    exact ⟨cur, keep h1 (by decide), h2⟩
  have hset : ∀ {j : Nat}, j ≠ sb → (w9.setCell ⟨sb, 1, none⟩ v9).heap[j]? = w9.heap[j]? := fun hj => Below.heap_setCell _ _ _ _ hj
  refine ⟨hbx, ⟨hbx.out v9, hown.same (fun j e => ?_) (fun y hy j e => ?_), own_same h.ats fun j e => ?_, fun y hy j e => ?_, h.hs, h.pos⟩, hg.os, hg.tape, hg.output, by simpa [World.setCell] using hg.size, fun k hk h1 h3 => ?_, ?_⟩
  · obtain ⟨cs, hc⟩ := own_type hown.row e
    exact hset (hbx.type hc (by decide))
  · obtain ⟨_, _, cs, hc⟩ := hown.in_lt hy e
    exact hset (hbx.type hc (by decide))
  · obtain ⟨cs, hc⟩ := own_type h.ats e
    have h9 := keep hc (by decide)
    exact (hset (hbx.type h9 (by decide))).trans (h9.trans hc.symm)
  · rcases List.mem_append.1 hy with h1 | h1
    · exact h.far y h1 j e
    · rw [List.mem_singleton] at h1
      subst h1
      exact hfar j e
  · rw [h.box.row] at h3
    exact (hset h1).trans (hg.block k hk fun e => h3 e.symm)
  · rw [(hbx.out v9).row, h.box.row]
    rcases hv with e | e
    · exact .inl e
    · exact .inr ⟨_, e, Nat.le_refl _⟩
end
set_option maxRecDepth 100000 in
set_option maxHeartbeats 4000000 in
theorem addR_c (w : World) (B sb : Nat) (n : Int) (vOut vAt : Value) (out : List NodeT) (vs : List Value) (A : List Int) (ch : Int → Option Int) (h : RmAt w B sb n vOut vAt out vs A ch) (hB : B ≤ w.heap.size)
    (xk xl : Int) (xi : List Int) (u : Value) (hu : OwnInts w B u xi) (hx : xi.length ≤ 16777216) (hfar : ∀ j, u.ownBlock = some j → vAt.ownBlock ≠ some j) (hlen : out.length ≤ 1000000) :
    Calls Tryd.prog 63 #[.pointer (some ⟨sb, 0, none⟩), .agg #[.int .i64 xk, .int .i64 xl, u]] w
      (fun e w' => e = .returned (.int .i64 (out.length : Int)) ∧ (∃ vOut', RmAt w' B sb n vOut' vAt (out ++ [⟨xk, xl, xi⟩]) (vs ++ [u]) A ch) ∧ FrR sb w w') := by
  have hb1 : Below w.heap.size w (w.alloc (.cells #[.int .i64 xk, .int .i64 xl, u] 39)) := (Below.refl _ w).alloc (Nat.le_refl _) _
  have HS1 := hid (h.below hb1)
  have HF1 := hid (h.fr hb1)
  have HU1 := hid (hu.below hb1)
  have hxb := Box3.new w 39 (.int .i64 xk) (.int .i64 xl) u
  have HFAR := hid hfar
  have hsb : sb < w.heap.size := h.box.lt
  obtain ⟨pu, cu, rfl, hdrop⟩ := hu.ints
  have C4 : Hid ((w.alloc (.cells #[.int .i64 xk, .int .i64 xl, .slice pu xi.length cu] 39)).drew.cell? ⟨sb, 1, none⟩ = some vOut) := HS1.out.box.get.2.1
  have X0 : Hid ((w.alloc (.cells #[.int .i64 xk, .int .i64 xl, .slice pu xi.length cu] 39)).drew.cell? ⟨w.heap.size, 0, none⟩ = some (.int .i64 xk)) := hxb.cells.1
  have X1 : Hid ((w.alloc (.cells #[.int .i64 xk, .int .i64 xl, .slice pu xi.length cu] 39)).drew.cell? ⟨w.heap.size, 1, none⟩ = some (.int .i64 xl)) := hxb.cells.2.1
  have X2 : Hid ((w.alloc (.cells #[.int .i64 xk, .int .i64 xl, .slice pu xi.length cu] 39)).drew.cell? ⟨w.heap.size, 2, none⟩ = some (.slice pu xi.length cu)) := hxb.cells.2.2
  have HSZ := hid (show B ≤ (w.alloc (.cells #[.int .i64 xk, .int .i64 xl, .slice pu xi.length cu] 39)).heap.size from by rw [World.size_alloc]; omega)
  clear hdrop hu hfar hb1 hxb h
  go_enter Tryd.func63, Tryd.ntmps63
  go_wp2_with fail
  generalize w.alloc (.cells #[.int .i64 xk, .int .i64 xl, .slice pu xi.length cu] 39) = w1 at *
  refine Go.Proofs.YtpdbfbjfodckgaaDoor.wp_region_L 13 8 (fun w' => w'.cell? ⟨sb, 1, none⟩ = some (vOut) ∧ w'.cell? ⟨w.heap.size, 0, none⟩ = some (.int .i64 xk) ∧ w'.cell? ⟨w.heap.size, 1, none⟩ = some (.int .i64 xl) ∧ w'.cell? ⟨w.heap.size, 2, none⟩ = some (.slice pu xi.length cu)) (by kernel_rfl) rfl ⟨C4.out, X0.out, X1.out, X2.out⟩ (fun _ => ?_)
  refine wpAnyL_pure (i := 0) (v := .pointer (some ⟨sb, 0, none⟩)) (by simp only [List.getElem?_toArray, List.getElem?_cons_zero] <;> rfl) (by kernel_rfl) (by kernel_rfl) (by kernel_rfl) (by exact fun _ _ _ h => h) (by decide) (.inr ⟨C4.out, X0.out, X1.out, X2.out⟩) (Or.inl ⟨by rfl, fun w _ => (by simp [execOp, go_sem, Act.eval])⟩) (fun _ => ?_)
  simp only [Act.put, List.setIfInBounds_toArray, List.set_cons_zero, List.set_cons_succ]
  refine wpAnyL_pure (i := 1) (v := .pointer (some ⟨sb, 0, none⟩)) (by simp only [List.getElem?_toArray, List.getElem?_cons_zero, List.getElem?_cons_succ] <;> rfl) (by kernel_rfl) (by kernel_rfl) (by kernel_rfl) (by exact fun _ _ _ h => h) (by decide) (.inr ⟨C4.out, X0.out, X1.out, X2.out⟩) (Or.inl ⟨by rfl, fun w _ => (by simp [execOp, go_sem, Act.eval])⟩) (fun _ => ?_)
  simp only [Act.put, List.setIfInBounds_toArray, List.set_cons_zero, List.set_cons_succ]
  refine wpAnyL_pure (i := 2) (v := .pointer (some ⟨sb, 0, none⟩)) (by simp only [List.getElem?_toArray, List.getElem?_cons_zero, List.getElem?_cons_succ] <;> rfl) (by kernel_rfl) (by kernel_rfl) (by kernel_rfl) (by exact fun _ _ _ h => h) (by decide) (.inr ⟨C4.out, X0.out, X1.out, X2.out⟩) (Or.inl ⟨by rfl, fun w _ => (by simp [execOp, go_sem, Act.eval])⟩) (fun _ => ?_)
  simp only [Act.put, List.setIfInBounds_toArray, List.set_cons_zero, List.set_cons_succ]
  refine wpAnyL_pure (i := 3) (v := .pointer (some ⟨sb, 0, none⟩)) (by simp only [List.getElem?_toArray, List.getElem?_cons_zero, List.getElem?_cons_succ] <;> rfl) (by kernel_rfl) (by kernel_rfl) (by kernel_rfl) (by exact fun _ _ _ h => h) (by decide) (.inr ⟨C4.out, X0.out, X1.out, X2.out⟩) (Or.inl ⟨by rfl, fun w _ => (by simp [execOp, go_sem, Act.eval])⟩) (fun _ => ?_)
  simp only [Act.put, List.setIfInBounds_toArray, List.set_cons_zero, List.set_cons_succ]
  refine wpAnyL_pure (i := 4) (v := .pointer (some ⟨sb, 1, none⟩)) (by simp only [List.getElem?_toArray, List.getElem?_cons_zero, List.getElem?_cons_succ] <;> rfl) (by kernel_rfl) (by kernel_rfl) (by kernel_rfl) (by exact fun _ _ _ h => h) (by decide) (.inr ⟨C4.out, X0.out, X1.out, X2.out⟩) (Or.inl ⟨by rfl, fun w _ => (by simp [execOp, go_sem, Act.eval])⟩) (fun _ => ?_)
  simp only [Act.put, List.setIfInBounds_toArray, List.set_cons_zero, List.set_cons_succ]
  refine wpAnyL_load2 (i := 5) (v := vOut) (by simp only [List.getElem?_toArray, List.getElem?_cons_zero, List.getElem?_cons_succ] <;> rfl) (by kernel_rfl) (by kernel_rfl) (by kernel_rfl) (by exact fun _ _ _ h => h) (by decide) (Waits.one rfl ⟨⟨5, .data⟩, by simp, rfl, rfl⟩) (by kernel_rfl) (by kernel_rfl) (.inr ⟨C4.out, X0.out, X1.out, X2.out⟩) (Or.inl ⟨by rfl, fun w hw => (by obtain ⟨x0, _, _, _⟩ := hw; simp [execOp, go_sem, Act.eval, x0])⟩) (fun _ => ?_)
  simp only [Act.put, List.setIfInBounds_toArray, List.set_cons_zero, List.set_cons_succ]
  refine wpAnyL_load2 (i := 6) (v := .agg #[.int .i64 xk, .int .i64 xl, .slice pu xi.length cu]) (by simp only [List.getElem?_toArray, List.getElem?_cons_zero, List.getElem?_cons_succ] <;> rfl) (by kernel_rfl) (by kernel_rfl) (by kernel_rfl) (by exact fun _ _ _ h => h) (by decide) (Waits.more (j := 7) rfl ⟨⟨7, .data⟩, by simp, rfl, rfl⟩ (Waits.one rfl ⟨⟨6, .data⟩, by simp, rfl, rfl⟩)) (by kernel_rfl) (by kernel_rfl) (.inr ⟨C4.out, X0.out, X1.out, X2.out⟩) (Or.inl ⟨by rfl, fun w hw => (by obtain ⟨_, x1, x2, x3⟩ := hw; simp [execOp, go_sem, Act.eval, x1, x2, x3])⟩) (fun _ => ?_)
  simp only [Act.put, List.setIfInBounds_toArray, List.set_cons_zero, List.set_cons_succ]
  have hbA : Below w1.drew.heap.size w1.drew (w1.drew.alloc (.cells #[.int .i64 xk, .int .i64 xl, .slice pu xi.length cu] 39)) := (Below.refl _ w1.drew).alloc (Nat.le_refl _) _
  have ha_0 := hid ((hbA.cell (cell_lt C4.out)).trans C4.out)
  have ha_1 := hid ((hbA.cell (cell_lt X0.out)).trans X0.out)
  have ha_2 := hid ((hbA.cell (cell_lt X1.out)).trans X1.out)
  have ha_3 := hid ((hbA.cell (cell_lt X2.out)).trans X2.out)
  refine wpAnyL_one (i := 7) (by kernel_rfl) (by simp only [List.getElem?_toArray, List.getElem?_cons_zero, List.getElem?_cons_succ] <;> rfl) (by rfl) ?_
  refine opwp_value (v := .slice (some ⟨w1.heap.size, 0, none⟩) 1 1) (w' := w1.drew.alloc (.cells #[.int .i64 xk, .int .i64 xl, .slice pu xi.length cu] 39)) (by simp [execOp, go_sem, Act.eval]) ⟨.inr ⟨ha_0.out, ha_1.out, ha_2.out, ha_3.out⟩, ?_⟩
  simp only [Act.put, List.setIfInBounds_toArray, List.set_cons_zero, List.set_cons_succ]
  have HS2 := hid (HS1.out.below (w' := w1.drew.alloc (.cells #[.int .i64 xk, .int .i64 xl, .slice pu xi.length cu] 39)) ((Below.refl _ w1).drew.trans hbA))
  have HU2 := hid (HU1.out.below (w' := w1.drew.alloc (.cells #[.int .i64 xk, .int .i64 xl, .slice pu xi.length cu] 39)) ((Below.refl _ w1).drew.trans hbA))
  refine wpAnyL_one (i := 8) (by kernel_rfl) (by simp only [List.getElem?_toArray, List.getElem?_cons_zero, List.getElem?_cons_succ] <;> rfl) (by rfl) ?_
  refine opwp_append_N _ _ rfl B vOut out vs rfl HS2.out.outs ⟨xk, xl, xi⟩ (.slice pu xi.length cu) HU2.out hx w1.heap.size 1 39 rfl (heap_alloc_new w1.drew _) hlen (Nat.le_trans HSZ.out hbA.size) ?_
  intro v9 w9 hown9 hg9 hv9
  refine ⟨.inl (by kernel_rfl), ?_⟩
  simp only [Act.put, List.setIfInBounds_toArray, List.set_cons_zero, List.set_cons_succ]
  obtain ⟨hbx9, HS9, HF9⟩ := HS2.out.push hown9 hg9 (by obtain ⟨g, c, e, h | h⟩ := hv9; (· subst e; exact .inl h.symm); (· subst e; subst h; exact .inr rfl)) HFAR.out
  have y4 := hbx9.get.2.1
  have f4 := hbx9.free 1
  obtain ⟨g9, c9, rfl, _⟩ := hv9
  refine wpAnyL_pure (i := 9) (v := .pointer (some ⟨sb, 0, none⟩)) (by simp only [List.getElem?_toArray, List.getElem?_cons_zero, List.getElem?_cons_succ] <;> rfl) (by kernel_rfl) (by kernel_rfl) (by kernel_rfl) (by exact fun _ _ _ h => h) (by decide) (.inl (by kernel_rfl)) (Or.inl ⟨by rfl, fun w _ => (by simp [execOp, go_sem, Act.eval])⟩) (fun _ => ?_)
  simp only [Act.put, List.setIfInBounds_toArray, List.set_cons_zero, List.set_cons_succ]
  refine wpAnyL_pure (i := 10) (v := .pointer (some ⟨sb, 0, none⟩)) (by simp only [List.getElem?_toArray, List.getElem?_cons_zero, List.getElem?_cons_succ] <;> rfl) (by kernel_rfl) (by kernel_rfl) (by kernel_rfl) (by exact fun _ _ _ h => h) (by decide) (.inl (by kernel_rfl)) (Or.inl ⟨by rfl, fun w _ => (by simp [execOp, go_sem, Act.eval])⟩) (fun _ => ?_)
  simp only [Act.put, List.setIfInBounds_toArray, List.set_cons_zero, List.set_cons_succ]
  refine wpAnyL_pure (i := 11) (v := .pointer (some ⟨sb, 1, none⟩)) (by simp only [List.getElem?_toArray, List.getElem?_cons_zero, List.getElem?_cons_succ] <;> rfl) (by kernel_rfl) (by kernel_rfl) (by kernel_rfl) (by exact fun _ _ _ h => h) (by decide) (.inl (by kernel_rfl)) (Or.inl ⟨by rfl, fun w _ => (by simp [execOp, go_sem, Act.eval])⟩) (fun _ => ?_)
  simp only [Act.put, List.setIfInBounds_toArray, List.set_cons_zero, List.set_cons_succ]
  refine wpAnyL_one (i := 12) (by kernel_rfl) (by simp only [List.getElem?_toArray, List.getElem?_cons_zero, List.getElem?_cons_succ] <;> rfl) (by rfl) ?_
  refine opwp_skip (w' := (w9.setCell ⟨sb, 1, none⟩ (.slice (some ⟨g9, 0, none⟩) (out.length + 1) c9))) (by simp [execOp, go_sem, Act.eval, y4, f4]) ⟨.inl (by kernel_rfl), ?_⟩
  simp only [Act.put]
  refine wpAnyL_done (by kernel_rfl) ?_ _
  have HFF := hid (HF1.out.trans ((FrR.of_below ((Below.refl _ w1).drew.trans hbA) HS1.out.box.lt).trans HF9))
  have HSS := hid HS9
  obtain ⟨_, z4, _⟩ := HS9.box.get
  generalize w9.setCell ⟨sb, 1, none⟩ (.slice (some ⟨g9, 0, none⟩) (out.length + 1) c9) = w10 at *
  clear hbx9 hown9 hg9 y4 f4 HS2 HS1 HS9 HF9 hbA HU1 HU2 HF1 C4 X0 X1 X2
  go_wp2_with fail
  go_ret
  exact ⟨by go_num, ⟨_, HSS.out⟩, HFF.out⟩
theorem RmAt.setc {w : World} {B sb : Nat} {n : Int} {vOut vAt : Value} {out : List NodeT} {vs : List Value} {A : List Int} {ch : Int → Option Int} (h : RmAt w B sb n vOut vAt out vs A ch) (v : Nat) (hv : v < 129) (c : Int) (hc : 0 < c) :
    RmAt (w.setCell ⟨sb, 3 + v, none⟩ (.int .i64 c)) B sb n vOut vAt out vs A (fun u => if u = (v : Int) then some c else ch u) ∧ FrR sb w (w.setCell ⟨sb, 3 + v, none⟩ (.int .i64 c)) := by
  have hset : ∀ {j : Nat}, j ≠ sb → (w.setCell ⟨sb, 3 + v, none⟩ (.int .i64 c)).heap[j]? = w.heap[j]? := fun hj => Below.heap_setCell _ _ _ _ hj
  have hb := h.box.choice v hv c
  refine ⟨⟨hb, h.outs.same (fun j e => ?_) (fun u hu j e => ?_), own_same h.ats (fun j e => ?_), h.far, h.hs, fun u c' e => ?_⟩, rfl, rfl, rfl, by simp [World.setCell], fun k _ h1 _ => hset h1, .inl ?_⟩
  · obtain ⟨cs, hc⟩ := own_type h.outs.row e; exact hset (h.box.type hc (by decide))
  · obtain ⟨_, _, cs, hc⟩ := h.outs.in_lt hu e; exact hset (h.box.type hc (by decide))
  · obtain ⟨cs, hc⟩ := own_type h.ats e; exact hset (h.box.type hc (by decide))
  · have e : (if u = (v : Int) then some c else ch u) = some c' := e
    by_cases e2 : u = (v : Int)
    · rw [if_pos e2] at e; injection e with e; omega
    · rw [if_neg e2] at e; exact h.pos u c' e
  · rw [hb.row, h.box.row]
/-- What choose returns. -/
def ChoosePost (w : World) (B sb : Nat) (n : Int) (vAt : Value) (s : FS) (vs : List Value) (A : List Int) (v : Int) (e : Ending) (w' : World) : Prop :=
  ∃ c vOut' vs2, e = .returned (.int .i64 c) ∧ (stepV s v).inn = s.inn ++ [c] ∧ RmAt w' B sb n vOut' vAt (stepV s v).out (vs ++ vs2) A (stepV s v).ch ∧ (∀ u ∈ vs2, ∀ j, u.ownBlock = some j → w.heap.size ≤ j) ∧ FrR sb w w'
set_option maxRecDepth 100000 in
set_option maxHeartbeats 4000000 in
theorem chooseR_c (w : World) (B sb : Nat) (n : Int) (vOut vAt : Value) (s : FS) (vs : List Value) (A : List Int) (h : RmAt w B sb n vOut vAt s.out vs A s.ch) (hB : B ≤ w.heap.size) (v : Nat) (hv1 : 1 ≤ v) (hv : v ≤ 128) (hlen : s.out.length ≤ 999990) :
    Calls Tryd.prog 62 #[.pointer (some ⟨sb, 0, none⟩), .int .i64 (v : Int)] w (ChoosePost w B sb n vAt s vs A v) := by
  have zv : (0 : Int) ≤ (v : Int) ∧ (v : Int) < 129 := by omega
  have y0 := h.box.getc v (by omega)
  cases hc : s.ch (v : Int) with
  | some c =>
    have hp := h.pos _ _ hc
    have hcn : chN s.ch v = c := by unfold chN; rw [hc]; rfl
    rw [hcn] at y0
    have c0 : (c == 0) = false := by simp; omega
    have HS := hid h
    have HSV := hid (show stepV s (v : Int) = ⟨s.out, s.ch, s.inn ++ [c]⟩ from by unfold stepV; rw [hc])
    clear h hc hcn
    go_enter Tryd.func62, Tryd.ntmps62
    go_wp2_with fail
    go_ret
    exact ⟨c, vOut, [], rfl, by rw [HSV.out], by rw [HSV.out, List.append_nil]; exact HS.out, by simp, FrR.refl _ _⟩
  | none =>
    have hcn : chN s.ch v = 0 := by unfold chN; rw [hc]; rfl
    rw [hcn] at y0
    have HS := hid h
    have HSV := hid (show stepV s (v : Int) = ⟨s.out ++ choice v s.out.length, fun u => if u = (v : Int) then some ((s.out.length : Int) + 2) else s.ch u, s.inn ++ [(s.out.length : Int) + 2]⟩ from by unfold stepV; rw [hc])
    have HAT := hid (fun j (e : vAt.ownBlock = some j) => (own_ge h.ats e).2)
    have hA1 := addR_c w B sb n vOut vAt s.out vs A s.ch h hB 2 (-(v : Int)) [] (.slice none 0 0) (OwnInts.nil _ _) (by simp) (fun j e => by cases e) (by omega)
    have HA1 := hid hA1
    clear h hc hcn hA1
    go_enter Tryd.func62, Tryd.ntmps62
    go_wp2_with fail
    refine HA1.out.mono ?_
    rintro e w1 ⟨rfl, ⟨vO1, S1⟩, F1⟩
    have HA2 := hid (addR_c w1 B sb n vO1 vAt _ _ A s.ch S1 (Nat.le_trans hB F1.size) 2 (v : Int) [] (.slice none 0 0) (OwnInts.nil _ _) (by simp) (fun j e => by cases e) (by rw [List.length_append]; show s.out.length + 1 ≤ _; omega))
    have HF1 := hid F1
    rw [show ((s.out ++ [(⟨2, -(v : Int), []⟩ : NodeT)]).length : Int) = (s.out.length : Int) + 1 from by simp] at HA2
    clear S1 F1 HA1 y0
    go_wp2_with fail
    refine HA2.out.mono ?_
    rintro e w2 ⟨rfl, ⟨vO2, S2⟩, F2⟩
    have HF2 := hid (HF1.out.trans F2)
    have HS2 := hid S2
    clear S2 F2 HA2 HF1
    go_wp2_with fail
    refine Go.Proofs.YtpdbfbjfodckgaaDoor.wp_region_L 12 7 (fun w' => True) (by kernel_rfl) rfl trivial (fun _ => ?_)
    refine wpAnyL_pure (i := 0) (v := .pointer (some ⟨sb, 0, none⟩)) (by simp only [List.getElem?_toArray, List.getElem?_cons_zero] <;> rfl) (by kernel_rfl) (by kernel_rfl) (by kernel_rfl) (by exact fun _ _ _ h => h) (by decide) (.inr trivial) (Or.inl ⟨by rfl, fun w _ => (by simp [execOp, go_sem, Act.eval])⟩) (fun _ => ?_)
    simp only [Act.put, List.setIfInBounds_toArray, List.set_cons_zero, List.set_cons_succ]
    refine wpAnyL_pure (i := 1) (v := .int .i64 (v : Int)) (by simp only [List.getElem?_toArray, List.getElem?_cons_zero, List.getElem?_cons_succ] <;> rfl) (by kernel_rfl) (by kernel_rfl) (by kernel_rfl) (by exact fun _ _ _ h => h) (by decide) (.inr trivial) (Or.inl ⟨by rfl, fun w _ => (by simp [execOp, go_sem, Act.eval])⟩) (fun _ => ?_)
    simp only [Act.put, List.setIfInBounds_toArray, List.set_cons_zero, List.set_cons_succ]
    refine wpAnyL_pure (i := 2) (v := .pointer (some ⟨sb, 0, none⟩)) (by simp only [List.getElem?_toArray, List.getElem?_cons_zero, List.getElem?_cons_succ] <;> rfl) (by kernel_rfl) (by kernel_rfl) (by kernel_rfl) (by exact fun _ _ _ h => h) (by decide) (.inr trivial) (Or.inl ⟨by rfl, fun w _ => (by simp [execOp, go_sem, Act.eval])⟩) (fun _ => ?_)
    simp only [Act.put, List.setIfInBounds_toArray, List.set_cons_zero, List.set_cons_succ]
    refine wpAnyL_pure (i := 3) (v := .int .i64 (s.out.length : Int)) (by simp only [List.getElem?_toArray, List.getElem?_cons_zero, List.getElem?_cons_succ] <;> rfl) (by kernel_rfl) (by kernel_rfl) (by kernel_rfl) (by exact fun _ _ _ h => h) (by decide) (.inr trivial) (Or.inl ⟨by rfl, fun w _ => (by simp [execOp, go_sem, Act.eval])⟩) (fun _ => ?_)
    simp only [Act.put, List.setIfInBounds_toArray, List.set_cons_zero, List.set_cons_succ]
    refine wpAnyL_pure (i := 4) (v := .int .i64 ((s.out.length : Int) + 1)) (by simp only [List.getElem?_toArray, List.getElem?_cons_zero, List.getElem?_cons_succ] <;> rfl) (by kernel_rfl) (by kernel_rfl) (by kernel_rfl) (by exact fun _ _ _ h => h) (by decide) (.inr trivial) (Or.inl ⟨by rfl, fun w _ => (by simp [execOp, go_sem, Act.eval])⟩) (fun _ => ?_)
    simp only [Act.put, List.setIfInBounds_toArray, List.set_cons_zero, List.set_cons_succ]
    refine wpAnyL_pure (i := 8) (v := .pointer (some ⟨sb, 0, none⟩)) (by simp only [List.getElem?_toArray, List.getElem?_cons_zero, List.getElem?_cons_succ] <;> rfl) (by kernel_rfl) (by kernel_rfl) (by kernel_rfl) (by exact fun _ _ _ h => h) (by decide) (.inr trivial) (Or.inl ⟨by rfl, fun w _ => (by simp [execOp, go_sem, Act.eval])⟩) (fun _ => ?_)
    simp only [Act.put, List.setIfInBounds_toArray, List.set_cons_zero, List.set_cons_succ]
    refine wpAnyL_pure (i := 9) (v := .pointer (some ⟨sb, 3, none⟩)) (by simp only [List.getElem?_toArray, List.getElem?_cons_zero, List.getElem?_cons_succ] <;> rfl) (by kernel_rfl) (by kernel_rfl) (by kernel_rfl) (by exact fun _ _ _ h => h) (by decide) (.inr trivial) (Or.inl ⟨by rfl, fun w _ => (by simp [execOp, go_sem, Act.eval])⟩) (fun _ => ?_)
    simp only [Act.put, List.setIfInBounds_toArray, List.set_cons_zero, List.set_cons_succ]
    have hbA : Below w2.heap.size w2 (w2.drew.alloc (.cells #[.int .i64 (s.out.length : Int), .int .i64 ((s.out.length : Int) + 1)] 3)) := (Below.refl _ w2).drew.trans ((Below.refl _ w2.drew).alloc (Nat.le_refl _) _)
    have HS3 := hid (HS2.out.below hbA)
    have HF3 := hid (HF2.out.trans (HS2.out.fr hbA))
    have HBW := hid (Nat.le_trans HF2.out.size hbA.size)
    have HW2 := hid HF2.out.size
    have HPR := hid (own_pair w2.drew (B := B) (Nat.le_trans hB HF2.out.size) (s.out.length : Int) ((s.out.length : Int) + 1))
    refine wpAnyL_one (i := 5) (by kernel_rfl) (by simp only [List.getElem?_toArray, List.getElem?_cons_zero, List.getElem?_cons_succ] <;> rfl) (by rfl) ?_
    refine opwp_value (v := .slice (some ⟨w2.heap.size, 0, none⟩) 2 2) (w' := (w2.drew.alloc (.cells #[.int .i64 (s.out.length : Int), .int .i64 ((s.out.length : Int) + 1)] 3))) (by simp [execOp, go_sem, Act.eval]) ⟨.inr trivial, ?_⟩
    simp only [Act.put, List.setIfInBounds_toArray, List.set_cons_zero, List.set_cons_succ]
    refine wpAnyL_pure (i := 6) (v := .agg #[.int .i64 4, .int .i64 0, .slice (some ⟨w2.heap.size, 0, none⟩) 2 2]) (by simp only [List.getElem?_toArray, List.getElem?_cons_zero, List.getElem?_cons_succ] <;> rfl) (by kernel_rfl) (by kernel_rfl) (by kernel_rfl) (by exact fun _ _ _ h => h) (by decide) (.inr trivial) (Or.inl ⟨by rfl, fun w _ => (by simp [execOp, go_sem, Act.eval])⟩) (fun _ => ?_)
    simp only [Act.put, List.setIfInBounds_toArray, List.set_cons_zero, List.set_cons_succ]
    refine wpAnyL_one (i := 7) (by kernel_rfl) (by simp only [List.getElem?_toArray, List.getElem?_cons_zero, List.getElem?_cons_succ] <;> rfl) (by rfl) ?_
    refine opwp_call (f := 63) (args := #[.pointer (some ⟨sb, 0, none⟩), .agg #[.int .i64 4, .int .i64 0, .slice (some ⟨w2.heap.size, 0, none⟩) 2 2]]) (w' := (w2.drew.alloc (.cells #[.int .i64 (s.out.length : Int), .int .i64 ((s.out.length : Int) + 1)] 3))) (by simp [go_sem, Act.eval]) ?_
    refine (((addR_c _ B sb n vO2 vAt _ _ A s.ch HS3.out (Nat.le_trans hB HBW.out) 4 0 [(s.out.length : Int), (s.out.length : Int) + 1] _ HPR.out (by simp) (fun j e e2 => by injection e with e; have := HAT.out j e2; have e3 : w2.drew.heap.size = j := e; have e4 : w2.heap.size = j := e3; have := HW2.out; omega) (by simp; omega)).mono (fun e w' hp => (show e = .returned (.int .i64 ((s.out.length : Int) + 2)) ∧ _ from ⟨by rw [hp.1]; congr 2; simp <;> omega, hp.2⟩)))).mono ?_
    rintro e w4 ⟨rfl, ⟨vO4, S4⟩, F4⟩
    refine .inl ⟨_, rfl, .inl (by kernel_rfl), ?_⟩
    simp only [Act.put, List.setIfInBounds_toArray, List.set_cons_zero, List.set_cons_succ]
    refine wpAnyL_pure (i := 10) (v := .pointer (some ⟨sb, 3 + v, none⟩)) (by simp only [List.getElem?_toArray, List.getElem?_cons_zero, List.getElem?_cons_succ] <;> rfl) (by kernel_rfl) (by kernel_rfl) (by kernel_rfl) (by exact fun _ _ _ h => h) (by decide) (.inl (by kernel_rfl)) (Or.inl ⟨by rfl, fun w _ => (by simp [execOp, go_sem, Act.eval, zv])⟩) (fun _ => ?_)
    simp only [Act.put, List.setIfInBounds_toArray, List.set_cons_zero, List.set_cons_succ]
    obtain ⟨S5, F5⟩ := S4.setc v (by omega) ((s.out.length : Int) + 2) (by omega)
    have y4 := S4.box.getc v (by omega)
    have f4 := S4.box.free (3 + v)
    refine wpAnyL_one (i := 11) (by kernel_rfl) (by simp only [List.getElem?_toArray, List.getElem?_cons_zero, List.getElem?_cons_succ] <;> rfl) (by rfl) ?_
    refine opwp_skip (w' := (w4.setCell ⟨sb, 3 + v, none⟩ (.int .i64 ((s.out.length : Int) + 2)))) (by simp [execOp, go_sem, Act.eval, y4, f4]) ⟨.inl (by kernel_rfl), ?_⟩
    simp only [Act.put]
    refine wpAnyL_done (by kernel_rfl) ?_ _
    have HS5 := hid S5
    have HF5 := hid (HF3.out.trans (F4.trans F5))
    have y5 := S5.box.getc v (by omega)
    rw [show chN (fun u => if u = (v : Int) then some ((s.out.length : Int) + 2) else s.ch u) v = (s.out.length : Int) + 2 from by unfold chN; simp] at y5
    clear S4 S5 F4 F5 y4 f4 HS3 HF3 hbA
    go_wp2_with fail
    go_ret
    refine ⟨(s.out.length : Int) + 2, vO4, [.slice none 0 0, .slice none 0 0, .slice (some ⟨w2.heap.size, 0, none⟩) 2 2], rfl, by rw [HSV.out], ?_, fun u hu j e => ?_, HF5.out⟩
    · rw [HSV.out]
      have := HS5.out
      rw [List.append_assoc, List.append_assoc, List.append_assoc, List.append_assoc] at this
      exact this
    · simp only [List.mem_cons, List.not_mem_nil, or_false] at hu
      rcases hu with rfl | rfl | rfl
      · cases e
      · cases e
      · injection e with e
        have e3 : w2.heap.size = j := e
        have := HW2.out
        omega
set_option maxRecDepth 100000 in
set_option maxHeartbeats 4000000 in
theorem movedR_c (w : World) (sb : Nat) (n : Int) (vOut vAt vi : Value) (ch : Int → Option Int) (A ins : List Int) (hb : RmBox w sb n vOut vAt ch) (hA : IntsAt w vAt A) (hI : IntsAt w vi ins) (hin : ∀ x ∈ ins, 0 ≤ x ∧ x < (A.length : Int)) (hl : ins.length ≤ 65536) :
    Calls Tryd.prog 61 #[.pointer (some ⟨sb, 0, none⟩), vi] w (fun e w' => ∃ v, e = .returned v ∧ OwnInts w' w.heap.size v (ins.map (iOf A)) ∧ Below w.heap.size w w') := by
  obtain ⟨p, c, rfl, hI⟩ := hI
  obtain ⟨pa, ca, rfl, hA⟩ := hA
  have HI := hid hI
  have HA := hid hA
  have HIN := hid hin
  have HBX := hid hb
  have hsl := hb.lt
  clear hI hA hin hb
  go_enter Tryd.func61, Tryd.ntmps61
  go_wp2_with fail
  go_loopw [5, 6] (fun y z wr => ∃ (k : Nat), k ≤ ins.length ∧ z = .int .i64 k ∧ Hid (OwnInts wr w.heap.size y ((ins.take k).map (iOf A))) ∧ Hid (Below w.heap.size w wr)) (fun _ z _ => ins.length - (intOf z).toNat)
  case atStart => exact ⟨0, Nat.zero_le _, rfl, OwnInts.nil _ _, Below.refl _ _⟩
  case round =>
    obtain ⟨k, hk, rfl, hrow, hbr⟩ := hrel
    by_cases hkl : k < ins.length
    · obtain ⟨p3, c3, e3, h3⟩ := show IntsAt wr (.slice p ins.length c) ins from (show IntsAt w (.slice p ins.length c) ins from ⟨_, _, rfl, HI.out⟩).below hbr.out
      injection e3 with e1 e0 e2
      clear e0
      subst e1; subst e2
      obtain ⟨b2, o2, rfl, hc⟩ := h3.resolve_left (by intro e; rw [e] at hkl; simp at hkl)
      have hcj := hc k hkl
      rw [List.getElem?_eq_getElem hkl, Option.getD_some] at hcj
      have hin := HIN.out _ (List.getElem_mem hkl)
      have hts : (ins.take (k + 1)).map (iOf A) = (ins.take k).map (iOf A) ++ [iOf A ins[k]] := by rw [List.take_succ_eq_append_getElem hkl, List.map_append]; rfl
      obtain ⟨q, hq⟩ : ∃ q : Nat, ins[k] = (q : Int) := ⟨ins[k].toNat, by omega⟩
      rw [hq] at hcj hin hts
      have hql : q < A.length := by omega
      rw [iOf_nat A q hql] at hts
      have HTS := hid hts
      obtain ⟨p4, c4, e4, h4⟩ := show IntsAt wr (.slice pa A.length ca) A from (show IntsAt w (.slice pa A.length ca) A from ⟨_, _, rfl, HA.out⟩).below hbr.out
      injection e4 with e1 e0 e2
      clear e0
      subst e1; subst e2
      obtain ⟨b5, o5, rfl, hc5⟩ := h4.resolve_left (by intro e; rw [e] at hql; simp at hql)
      have hca := hc5 q hql
      rw [List.getElem?_eq_getElem hql, Option.getD_some] at hca
      have hcs := (HBX.out.same (hbr.out.block _ hsl)).get.2.2
      have zk : (0 : Int) ≤ (k : Int) ∧ (k : Int) < (ins.length : Int) := by omega
      have zq : (0 : Int) ≤ (q : Int) ∧ (q : Int) < (A.length : Int) := by omega
      generalize A[q] = z at *
      have CA : Hid (wr.drew.cell? ⟨sb, 2, none⟩ = some (.slice (some ⟨b5, o5, none⟩) A.length ca)) := hcs
      have CI : Hid (wr.drew.cell? ⟨b2, o2 + k, none⟩ = some (.int .i64 (q : Int))) := hcj
      have CZ : Hid (wr.drew.cell? ⟨b5, o5 + q, none⟩ = some (.int .i64 z)) := hca
      have HRW := hid hrow.out
      have HBR := hid hbr.out
      obtain ⟨pv, cv, ev, hd⟩ := hrow.out.ints
      rw [show ((ins.take k).map (iOf A)).length = k from by simp; omega] at ev
      subst ev
      clear hc hin hts hq h3 h4 hc5 hcs hca hcj hrow hbr hd
      go_wp2_with fail
      refine Go.Proofs.YtpdbfbjfodckgaaDoor.wp_region_L 14 12 (fun w' => w'.cell? ⟨sb, 2, none⟩ = some (.slice (some ⟨b5, o5, none⟩) A.length ca) ∧ w'.cell? ⟨b2, o2 + k, none⟩ = some (.int .i64 (q : Int)) ∧ w'.cell? ⟨b5, o5 + q, none⟩ = some (.int .i64 z)) (by kernel_rfl) rfl ⟨CA.out, CI.out, CZ.out⟩ (fun _ => ?_)
      refine wpAnyL_pure (i := 0) (v := .slice pv k cv) (by simp only [List.getElem?_toArray, List.getElem?_cons_zero] <;> rfl) (by kernel_rfl) (by kernel_rfl) (by kernel_rfl) (by exact fun _ _ _ h => h) (by decide) (.inr ⟨CA.out, CI.out, CZ.out⟩) (Or.inl ⟨by rfl, fun w _ => (by simp [execOp, go_sem, Act.eval])⟩) (fun _ => ?_)
      simp only [Act.put, List.setIfInBounds_toArray, List.set_cons_zero, List.set_cons_succ]
      refine wpAnyL_pure (i := 1) (v := .pointer (some ⟨sb, 0, none⟩)) (by simp only [List.getElem?_toArray, List.getElem?_cons_zero, List.getElem?_cons_succ] <;> rfl) (by kernel_rfl) (by kernel_rfl) (by kernel_rfl) (by exact fun _ _ _ h => h) (by decide) (.inr ⟨CA.out, CI.out, CZ.out⟩) (Or.inl ⟨by rfl, fun w _ => (by simp [execOp, go_sem, Act.eval])⟩) (fun _ => ?_)
      simp only [Act.put, List.setIfInBounds_toArray, List.set_cons_zero, List.set_cons_succ]
      refine wpAnyL_pure (i := 2) (v := .pointer (some ⟨sb, 0, none⟩)) (by simp only [List.getElem?_toArray, List.getElem?_cons_zero, List.getElem?_cons_succ] <;> rfl) (by kernel_rfl) (by kernel_rfl) (by kernel_rfl) (by exact fun _ _ _ h => h) (by decide) (.inr ⟨CA.out, CI.out, CZ.out⟩) (Or.inl ⟨by rfl, fun w _ => (by simp [execOp, go_sem, Act.eval])⟩) (fun _ => ?_)
      simp only [Act.put, List.setIfInBounds_toArray, List.set_cons_zero, List.set_cons_succ]
      refine wpAnyL_pure (i := 3) (v := .pointer (some ⟨sb, 2, none⟩)) (by simp only [List.getElem?_toArray, List.getElem?_cons_zero, List.getElem?_cons_succ] <;> rfl) (by kernel_rfl) (by kernel_rfl) (by kernel_rfl) (by exact fun _ _ _ h => h) (by decide) (.inr ⟨CA.out, CI.out, CZ.out⟩) (Or.inl ⟨by rfl, fun w _ => (by simp [execOp, go_sem, Act.eval])⟩) (fun _ => ?_)
      simp only [Act.put, List.setIfInBounds_toArray, List.set_cons_zero, List.set_cons_succ]
      refine wpAnyL_load2 (i := 4) (v := .slice (some ⟨b5, o5, none⟩) A.length ca) (by simp only [List.getElem?_toArray, List.getElem?_cons_zero, List.getElem?_cons_succ] <;> rfl) (by kernel_rfl) (by kernel_rfl) (by kernel_rfl) (by exact fun _ _ _ h => h) (by decide) (Waits.more (j := 11) rfl ⟨⟨11, .data⟩, by simp, rfl, rfl⟩ (Waits.more (j := 10) rfl ⟨⟨10, .data⟩, by simp, rfl, rfl⟩ (Waits.more (j := 9) rfl ⟨⟨9, .data⟩, by simp, rfl, rfl⟩ (Waits.one rfl ⟨⟨4, .data⟩, by simp, rfl, rfl⟩)))) (by kernel_rfl) (by kernel_rfl) (.inr ⟨CA.out, CI.out, CZ.out⟩) (Or.inl ⟨by rfl, fun w hw => (by obtain ⟨x0, _, _⟩ := hw; simp [execOp, go_sem, Act.eval, x0])⟩) (fun _ => ?_)
      simp only [Act.put, List.setIfInBounds_toArray, List.set_cons_zero, List.set_cons_succ]
      refine wpAnyL_pure (i := 5) (v := .slice (some ⟨b2, o2, none⟩) ins.length c) (by simp only [List.getElem?_toArray, List.getElem?_cons_zero, List.getElem?_cons_succ] <;> rfl) (by kernel_rfl) (by kernel_rfl) (by kernel_rfl) (by exact fun _ _ _ h => h) (by decide) (.inr ⟨CA.out, CI.out, CZ.out⟩) (Or.inl ⟨by rfl, fun w _ => (by simp [execOp, go_sem, Act.eval])⟩) (fun _ => ?_)
      simp only [Act.put, List.setIfInBounds_toArray, List.set_cons_zero, List.set_cons_succ]
      refine wpAnyL_pure (i := 6) (v := .int .i64 (k : Int)) (by simp only [List.getElem?_toArray, List.getElem?_cons_zero, List.getElem?_cons_succ] <;> rfl) (by kernel_rfl) (by kernel_rfl) (by kernel_rfl) (by exact fun _ _ _ h => h) (by decide) (.inr ⟨CA.out, CI.out, CZ.out⟩) (Or.inl ⟨by rfl, fun w _ => (by simp [execOp, go_sem, Act.eval])⟩) (fun _ => ?_)
      simp only [Act.put, List.setIfInBounds_toArray, List.set_cons_zero, List.set_cons_succ]
      refine wpAnyL_pure (i := 7) (v := .pointer (some ⟨b2, o2 + k, none⟩)) (by simp only [List.getElem?_toArray, List.getElem?_cons_zero, List.getElem?_cons_succ] <;> rfl) (by kernel_rfl) (by kernel_rfl) (by kernel_rfl) (by exact fun _ _ _ h => h) (by decide) (.inr ⟨CA.out, CI.out, CZ.out⟩) (Or.inl ⟨by rfl, fun w _ => (by simp [execOp, go_sem, Act.eval, zk])⟩) (fun _ => ?_)
      simp only [Act.put, List.setIfInBounds_toArray, List.set_cons_zero, List.set_cons_succ]
      refine wpAnyL_load2 (i := 8) (v := .int .i64 (q : Int)) (by simp only [List.getElem?_toArray, List.getElem?_cons_zero, List.getElem?_cons_succ] <;> rfl) (by kernel_rfl) (by kernel_rfl) (by kernel_rfl) (by exact fun _ _ _ h => h) (by decide) (Waits.more (j := 11) rfl ⟨⟨11, .data⟩, by simp, rfl, rfl⟩ (Waits.more (j := 10) rfl ⟨⟨10, .data⟩, by simp, rfl, rfl⟩ (Waits.more (j := 9) rfl ⟨⟨9, .data⟩, by simp, rfl, rfl⟩ (Waits.one rfl ⟨⟨8, .data⟩, by simp, rfl, rfl⟩)))) (by kernel_rfl) (by kernel_rfl) (.inr ⟨CA.out, CI.out, CZ.out⟩) (Or.inl ⟨by rfl, fun w hw => (by obtain ⟨_, x1, _⟩ := hw; simp [execOp, go_sem, Act.eval, x1])⟩) (fun _ => ?_)
      simp only [Act.put, List.setIfInBounds_toArray, List.set_cons_zero, List.set_cons_succ]
      refine wpAnyL_pure (i := 9) (v := .pointer (some ⟨b5, o5 + q, none⟩)) (by simp only [List.getElem?_toArray, List.getElem?_cons_zero, List.getElem?_cons_succ] <;> rfl) (by kernel_rfl) (by kernel_rfl) (by kernel_rfl) (by exact fun _ _ _ h => h) (by decide) (.inr ⟨CA.out, CI.out, CZ.out⟩) (Or.inl ⟨by rfl, fun w _ => (by simp [execOp, go_sem, Act.eval, zq])⟩) (fun _ => ?_)
      simp only [Act.put, List.setIfInBounds_toArray, List.set_cons_zero, List.set_cons_succ]
      refine wpAnyL_load2 (i := 10) (v := .int .i64 z) (by simp only [List.getElem?_toArray, List.getElem?_cons_zero, List.getElem?_cons_succ] <;> rfl) (by kernel_rfl) (by kernel_rfl) (by kernel_rfl) (by exact fun _ _ _ h => h) (by decide) (Waits.more (j := 11) rfl ⟨⟨11, .data⟩, by simp, rfl, rfl⟩ (Waits.one rfl ⟨⟨10, .data⟩, by simp, rfl, rfl⟩)) (by kernel_rfl) (by kernel_rfl) (.inr ⟨CA.out, CI.out, CZ.out⟩) (Or.inl ⟨by rfl, fun w hw => (by obtain ⟨_, _, x2⟩ := hw; simp [execOp, go_sem, Act.eval, x2])⟩) (fun _ => ?_)
      simp only [Act.put, List.setIfInBounds_toArray, List.set_cons_zero, List.set_cons_succ]
      have hbA : Below wr.heap.size wr (wr.drew.alloc (.cells #[.int .i64 z] 3)) := (Below.refl _ wr).drew.trans ((Below.refl _ wr.drew).alloc (Nat.le_refl _) _)
      have ha_0 := hid (((Below.refl _ wr.drew).alloc (Nat.le_refl _) (.cells #[.int .i64 z] 3)).cell (cell_lt CA.out) |>.trans CA.out)
      have ha_1 := hid (((Below.refl _ wr.drew).alloc (Nat.le_refl _) (.cells #[.int .i64 z] 3)).cell (cell_lt CI.out) |>.trans CI.out)
      have ha_2 := hid (((Below.refl _ wr.drew).alloc (Nat.le_refl _) (.cells #[.int .i64 z] 3)).cell (cell_lt CZ.out) |>.trans CZ.out)
      refine wpAnyL_one (i := 11) (by kernel_rfl) (by simp only [List.getElem?_toArray, List.getElem?_cons_zero, List.getElem?_cons_succ] <;> rfl) (by rfl) ?_
      refine opwp_value (v := .slice (some ⟨wr.heap.size, 0, none⟩) 1 1) (w' := (wr.drew.alloc (.cells #[.int .i64 z] 3))) (by simp [execOp, go_sem, Act.eval]) ⟨.inr ⟨ha_0.out, ha_1.out, ha_2.out⟩, ?_⟩
      simp only [Act.put, List.setIfInBounds_toArray, List.set_cons_zero, List.set_cons_succ]
      have HRA := hid (HRW.out.below hbA)
      have HON := hid (one_int wr.drew z 3)
      have HBA := hid (HBR.out.trans (hbA.mono HBR.out.size))
      have HLK := hid (show ((ins.take k).map (iOf A)).length = k from by simp; omega)
      refine wpAnyL_one (i := 12) (by kernel_rfl) (by simp only [List.getElem?_toArray, List.getElem?_cons_zero, List.getElem?_cons_succ] <;> rfl) (by rfl) ?_
      refine opwp_append_I _ _ rfl w.heap.size _ _ rfl HRA.out _ [z] rfl HON.out (by rw [HLK.out]; show k + 1 ≤ _; omega) HBA.out.size ?_
      intro v9 w9 hown9 hg9 _
      refine ⟨.inl (by kernel_rfl), ?_⟩
      simp only [Act.put, List.setIfInBounds_toArray, List.set_cons_zero, List.set_cons_succ]
      refine wpAnyL_pure (i := 13) (v := v9) (by simp only [List.getElem?_toArray, List.getElem?_cons_zero, List.getElem?_cons_succ] <;> rfl) (by kernel_rfl) (by kernel_rfl) (by kernel_rfl) (by exact fun _ _ _ h => h) (by decide) (.inl (by kernel_rfl)) (Or.inl ⟨by rfl, fun w _ => (by simp [execOp, go_sem, Act.eval])⟩) (fun _ => ?_)
      simp only [Act.put, List.setIfInBounds_toArray, List.set_cons_zero, List.set_cons_succ]
      refine wpAnyL_done (by kernel_rfl) ?_ _
      have HO9 := hid hown9
      have HB9 := hid (below_app HBA.out (Nat.le_refl _) HRA.out hg9)
      clear hown9 hg9 HRA HBA HON HLK hbA ha_0 ha_1 ha_2
      go_wp2_with fail
      go_roundw
      case rel => exact ⟨k + 1, by omega, by go_num, (by rw [HTS.out]; exact HO9.out), HB9.out⟩
      case measure => simp [intOf]; omega
    · obtain rfl : k = ins.length := by omega
      rw [List.take_length] at hrow
      have HR := hid hrow.out
      have HBR := hid hbr.out
      clear hrow hbr
      go_wp2_with fail
      go_ret
      exact ⟨_, rfl, HR.out, HBR.out⟩
end Go.Proofs.YtpdbfbjfodckgaaDoor
