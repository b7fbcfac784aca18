/- Words for memory: a conjunction that is filled with choices, round by round. -/
import Derived.Test.YtpdbfbjfodckgaaDoorHLack
import Derived.Test.YtpdbfbjfodckgaaDoorHRound
namespace Go.Proofs.YtpdbfbjfodckgaaDoor
open Go.RowKit Go.Maps

section
variable {w : World} {B sb mb : Nat} {n : Int} {vL vB vOut vAt : Value} {out : List NodeT} {vs : List Value} {A : List Int} {ch : Int → Option Int} {k : Nat}
theorem SmAt.same {w' : World} (h : SmAt w B sb mb n vL vB vOut vAt out vs A ch k) (hs : w'.heap[sb]? = w.heap[sb]?) (hm : w'.heap[mb]? = w.heap[mb]?) (ho : ∀ j, vOut.ownBlock = some j → w'.heap[j]? = w.heap[j]?) (ha : ∀ j, vAt.ownBlock = some j → w'.heap[j]? = w.heap[j]?)
    (hv : ∀ u ∈ vs, ∀ j, u.ownBlock = some j → w'.heap[j]? = w.heap[j]?) : SmAt w' B sb mb n vL vB vOut vAt out vs A ch k :=
  ⟨h.box.same hs, h.outs.same ho hv, own_same h.ats ha, h.map.same hm, h.far, h.hs, h.hm⟩
/-- Cells stay, and the map. -/
theorem SmAt.cells {w' : World} (h : SmAt w B sb mb n vL vB vOut vAt out vs A ch k) (hc : ∀ (j : Nat) (cs : Array Value) (T : TypeId) (fr : Nat × Nat), w.heap[j]? = some (.cells cs T fr) → w'.heap[j]? = w.heap[j]?) (hm : w'.heap[mb]? = w.heap[mb]?) : SmAt w' B sb mb n vL vB vOut vAt out vs A ch k := by
  refine h.same (hc _ _ _ _ h.box) hm (fun j e => ?_) (fun j e => ?_) (fun u hu j e => ?_)
  · obtain ⟨cs, c⟩ := own_type h.outs.row e; exact hc _ _ _ _ c
  · obtain ⟨cs, c⟩ := own_type h.ats e; exact hc _ _ _ _ c
  · obtain ⟨_, _, cs, c⟩ := h.outs.in_lt hu e; exact hc _ _ _ _ c
theorem SmAt.mono {k' : Nat} (h : SmAt w B sb mb n vL vB vOut vAt out vs A ch k) (hk : k ≤ k') : SmAt w B sb mb n vL vB vOut vAt out vs A ch k' :=
  ⟨h.box, h.outs, h.ats, h.map.mono hk, h.far, h.hs, h.hm⟩
theorem SmAt.put {w' : World} {ch' : Int → Option Int} {k' : Nat} (h : SmAt w B sb mb n vL vB vOut vAt out vs A ch k) (hm : MapAt w' mb k' ch') (hg : w.grownBy w' (some mb)) : SmAt w' B sb mb n vL vB vOut vAt out vs A ch' k' ∧ Fr sb mb w w' := by
  have hc : ∀ (j : Nat) (cs : Array Value) (T : TypeId) (fr : Nat × Nat), w.heap[j]? = some (.cells cs T fr) → w'.heap[j]? = w.heap[j]? := fun j cs T fr hj =>
    hg.block j (Array.getElem?_eq_some_iff.1 hj).1 (fun e => h.map.ne_cells hj (Option.some.inj e))
  have hbx := h.box.same (hc _ _ _ _ h.box)
  refine ⟨⟨hbx, h.outs.same (fun j e => ?_) (fun u hu j e => ?_), own_same h.ats (fun j e => ?_), hm, h.far, h.hs, h.hm⟩, ⟨hg.os, hg.tape, hg.output, hg.size, fun j hj _ h2 _ => hg.block j hj (fun e => h2 (Option.some.inj e)), .inl (by rw [hbx.row, h.box.row])⟩⟩
  · obtain ⟨cs, c⟩ := own_type h.outs.row e; exact hc _ _ _ _ c
  · obtain ⟨_, _, cs, c⟩ := h.outs.in_lt hu e; exact hc _ _ _ _ c
  · obtain ⟨cs, c⟩ := own_type h.ats e; exact hc _ _ _ _ c
theorem SmAt.kept_ptr {w' : World} {pb : Nat} {v : Value} (h : SmAt w B sb mb n vL vB vOut vAt out vs A ch k) (hp : w.heap[pb]? = some (.cells #[v] 54 (0, 0))) (hf : Fr sb mb w w') : w'.heap[pb]? = some (.cells #[v] 54 (0, 0)) := (h.keep hf hp (by decide) (by decide)).trans hp
theorem ptr_cell {pb : Nat} {v : Value} {T : TypeId} (hp : w.heap[pb]? = some (.cells #[v] T (0, 0))) : w.cell? ⟨pb, 0, none⟩ = some v ∧ w.frozen? ⟨pb, 0, none⟩ = false := by simp [World.cell?, World.frozen?, hp]
theorem SmAt.ptr {w' : World} {pb : Nat} {v : Value} (h : SmAt w B sb mb n vL vB vOut vAt out vs A ch k) (hp : w.heap[pb]? = some (.cells #[v] 54 (0, 0))) (hf : Fr sb mb w w') : w'.cell? ⟨pb, 0, none⟩ = some v := (ptr_cell (h.kept_ptr hp hf)).1
theorem SmAt.keepInts {w' : World} {B1 : Nat} {v : Value} {l : List Int} (h : SmAt w B sb mb n vL vB vOut vAt out vs A ch k) (hf : Fr sb mb w w') (hi : OwnInts w B1 v l) : OwnInts w' B1 v l :=
  own_same hi fun j e => by obtain ⟨cs, c⟩ := own_type hi e; exact h.keep hf c (by decide) (by decide)
theorem SmAt.kept_var {w' : World} {ib : Nat} {v : Value} (h : SmAt w B sb mb n vL vB vOut vAt out vs A ch k) (hp : w.heap[ib]? = some (.cells #[v] 33 (0, 0))) (hf : Fr sb mb w w') : w'.heap[ib]? = some (.cells #[v] 33 (0, 0)) := (h.keep hf hp (by decide) (by decide)).trans hp
theorem SmAt.add {xk xl m : Int} {xi : List Int} {u : Value} (h : SmAt w B sb mb n vL vB vOut vAt out vs A ch k) (hB : B ≤ w.heap.size)
    (hu : OwnInts w B u xi) (hx : xi.length ≤ 16777216) (hfar : ∀ j, u.ownBlock = some j → vAt.ownBlock ≠ some j) (hlen : out.length ≤ 16777215) (hm : (out.length : Int) = m) :
    Calls Tryd.prog 40 #[.pointer (some ⟨sb, 0, none⟩), .agg #[.int .i64 xk, .int .i64 xl, u]] w
      (fun e w' => e = .returned (.int .i64 m) ∧ (∃ vOut', SmAt w' B sb mb n vL vB vOut' vAt (out ++ [⟨xk, xl, xi⟩]) (vs ++ [u]) A ch k) ∧ Fr sb mb w w') := by
  rw [← hm]; exact add_c w B sb mb n vL vB vOut vAt out vs A ch k h hB xk xl xi u hu hx hfar hlen
theorem SmAt.putObj {D : Nat} {o o' : Obj} (h : SmAt w B sb mb n vL vB vOut vAt out vs A ch k) (hK : w.heap[D]? = some o) (hc : o.isCells = false) (hm : D ≠ mb) : SmAt (w.putObj D o') B sb mb n vL vB vOut vAt out vs A ch k :=
  h.cells (fun j cs T fr hj => World.putObj_heap_other (by intro e; subst e; rw [hK] at hj; injection hj with hj; subst hj; cases hc)) (World.putObj_heap_other (fun e => hm e.symm))
theorem Fr.putObj {w' : World} {D : Nat} {o : Obj} (hf : Fr sb mb w w') (hD : w.heap.size ≤ D) (hs : D ≠ sb) : Fr sb mb w (w'.putObj D o) := by
  refine ⟨hf.os, hf.tape, hf.output, by simpa [World.putObj] using hf.size, fun j hj a b c => (World.putObj_heap_other (by omega)).trans (hf.block j hj a b c), ?_⟩
  have : rowOf (w'.putObj D o) sb = rowOf w' sb := by unfold rowOf; rw [World.cell?_of_block (a := ⟨sb, 4, none⟩) (World.putObj_heap_other (fun e => hs e.symm))]
  rw [this]; exact hf.row
/-- What lies in memory ahead of a round: the maker, the inputs so far in the variable ib, the maker's pointer in the variable pb. -/
def FillI (w W : World) (B sb mb pb ib : Nat) (n : Int) (vL vB vAt : Value) (vs : List Value) (A : List Int) (s : FS) : Prop :=
  ∃ vOut vs' vi k, SmAt W B sb mb n vL vB vOut vAt s.out (vs ++ vs') A s.ch k ∧ k ≤ s.out.length ∧ (∀ u ∈ vs', ∀ j, u.ownBlock = some j → w.heap.size ≤ j) ∧ (∀ u ∈ vs', ∀ j, u.ownBlock = some j → vi.ownBlock ≠ some j) ∧
    W.heap[ib]? = some (.cells #[vi] 33 (0, 0)) ∧ OwnInts W w.heap.size vi s.inn ∧ W.heap[pb]? = some (.cells #[.pointer (some ⟨sb, 0, none⟩)] 54 (0, 0)) ∧ Fr sb mb w W
theorem FillI.own {α : Type} {B4 pb ib : Nat} {s : List α → FS} (hm : mb < B4) (hw : w.heap.size ≤ B4) : OwnFrom B4 (fun pre W => FillI w W B sb mb pb ib n vL vB vAt vs A (s pre)) := by
  rintro pre W W' row ⟨vOut, vs', vi, k, h1, h2, h3, h4, h5, h6, h7, h8⟩ hg hr
  have hc : ∀ (j : Nat) (cs : Array Value) (T : TypeId) (fr : Nat × Nat), W.heap[j]? = some (.cells cs T fr) → W'.heap[j]? = W.heap[j]? := fun j cs T fr hj =>
    hg.block j (Array.getElem?_eq_some_iff.1 hj).1 (fun e => by
      obtain ⟨_, o, ho, hn⟩ := hr j e.symm
      rw [hj] at ho
      injection ho with ho
      subst ho
      cases hn)
  have hmm : W'.heap[mb]? = W.heap[mb]? := hg.block mb h1.map.lt (fun e => by have := (hr mb e.symm).1; omega)
  have h1' := h1.cells hc hmm
  refine ⟨vOut, vs', vi, k, h1', h2, h3, h4, (hc _ _ _ _ h5).trans h5, own_same h6 (fun j e => by obtain ⟨cs, c⟩ := own_type h6 e; exact hc _ _ _ _ c), (hc _ _ _ _ h7).trans h7, ?_⟩
  refine ⟨hg.os.trans h8.os, hg.tape.trans h8.tape, hg.output.trans h8.output, Nat.le_trans h8.size hg.size, fun j hj a b c => ?_, ?_⟩
  · exact (hg.block j (Nat.lt_of_lt_of_le hj h8.size) (fun e => by have := (hr j e.symm).1; omega)).trans (h8.block j hj a b c)
  · rw [h1'.box.row, ← h1.box.row]; exact h8.row
end
/-- How a round may be left. -/
def FillRnd (B4 : Nat) (w W : World) (B sb mb pb ib : Nat) (n : Int) (vL vB vAt : Value) (vs : List Value) (A : List Int) (s : FS) : Exit → Act → World → Prop
  | .normal, _, W' => KeepsFrom B4 W W' ∧ KeepI ib W W' ∧ FillI w W' B sb mb pb ib n vL vB vAt vs A s
  | _, _, _ => False
theorem FillRnd.post {α : Type} {B4 : Nat} {w W : World} {B sb mb pb ib : Nat} {n : Int} {vL vB vAt : Value} {vs : List Value} {A : List Int} {f : List α → FS} {Ix : Code → List α → World → Prop} {xs : List α} {s : FS} (hs : f xs = s) :
    ∀ (e : Exit) (a : Act) (W' : World), FillRnd B4 w W B sb mb pb ib n vL vB vAt vs A s e a W' → ownPostG B4 (KeepI ib) (fun pre W => FillI w W B sb mb pb ib n vL vB vAt vs A (f pre)) Ix xs W e a W'
  | .normal, _, _, h => ⟨h.1, h.2.1, by show FillI w _ B sb mb pb ib n vL vB vAt vs A (f xs); rw [hs]; exact h.2.2⟩
  | .ret, _, _, h => h.elim
  | .exit _, _, _, h => h.elim
  | .goto _, _, _, h => h.elim
  | .panic _, _, _, h => h.elim
  | .outgrown, _, _, h => h.elim
theorem fill_cell {W w6 : World} {o : Obj} {vi : Value} {ib B1 : Nat} {l : List Int} (hv : W.heap[ib]? = some (.cells #[vi] 33 (0, 0))) (hi : OwnInts W B1 vi l) (hg : (W.alloc o).grownBy w6 vi.ownBlock) : w6.cell? ⟨ib, 0, none⟩ = some vi ∧ w6.frozen? ⟨ib, 0, none⟩ = false := by
  have hlt := (Array.getElem?_eq_some_iff.1 hv).1
  have hibo : vi.ownBlock ≠ some ib := fun e => by obtain ⟨cs, h⟩ := own_type hi e; rw [hv] at h; injection h with h; injection h with _ e _; cases e
  exact ptr_cell (((hg.block ib (by rw [World.size_alloc]; omega) (fun e => hibo e.symm)).trans (Below.heap_alloc _ _ _ hlt)).trans hv)
/-- The step that ends a round: a choice goes to the inputs. -/
theorem fill_put {w W5 w6 : World} {B sb mb pb ib : Nat} {n : Int} {vL vB vOut vAt vi v' : Value} {out : List NodeT} {vs vs5 : List Value} {A : List Int} {ch : Int → Option Int} {k : Nat} {inn : List Int} {c : Int} {o : Obj}
    (hS : SmAt W5 B sb mb n vL vB vOut vAt out (vs ++ vs5) A ch k) (hk : k ≤ out.length) (hge : ∀ u ∈ vs5, ∀ j, u.ownBlock = some j → w.heap.size ≤ j) (hav : ∀ u ∈ vs5, ∀ j, u.ownBlock = some j → vi.ownBlock ≠ some j)
    (hv : W5.heap[ib]? = some (.cells #[vi] 33 (0, 0))) (hi : OwnInts W5 w.heap.size vi inn) (hp : W5.heap[pb]? = some (.cells #[.pointer (some ⟨sb, 0, none⟩)] 54 (0, 0))) (hf : Fr sb mb w W5)
    (hold : ∀ u ∈ vs, ∀ j, u.ownBlock = some j → j < w.heap.size) (hat : ∀ j, vAt.ownBlock = some j → j < w.heap.size) (hib : w.heap.size ≤ ib)
    (hown : OwnInts w6 w.heap.size v' (inn ++ [c])) (hg : (W5.alloc o).grownBy w6 vi.ownBlock) (hloc : v'.ownBlock = none ∨ v'.ownBlock = vi.ownBlock ∨ v'.ownBlock = some (W5.alloc o).heap.size) :
    FillI w (w6.setCell ⟨ib, 0, none⟩ v') B sb mb pb ib n vL vB vAt vs A ⟨out, ch, inn ++ [c]⟩ ∧
    (∀ (j : Nat), j < W5.heap.size → j ≠ ib → vi.ownBlock ≠ some j → (w6.setCell ⟨ib, 0, none⟩ v').heap[j]? = W5.heap[j]?) ∧ rowI (w6.setCell ⟨ib, 0, none⟩ v') ib = v'.ownBlock ∧ W5.heap.size ≤ (w6.setCell ⟨ib, 0, none⟩ v').heap.size := by
  have hal : Below W5.heap.size W5 (W5.alloc o) := (Below.refl _ W5).alloc (Nat.le_refl _) _
  have hsame : ∀ (j : Nat), j < W5.heap.size → j ≠ ib → vi.ownBlock ≠ some j → (w6.setCell ⟨ib, 0, none⟩ v').heap[j]? = W5.heap[j]? := fun j hj h1 h2 => by
    rw [Below.heap_setCell _ _ _ _ (by exact h1)]
    exact (hg.block j (by rw [World.size_alloc]; omega) (fun e => h2 e.symm)).trans (hal.block j hj)
  have hibl : ib < W5.heap.size := (Array.getElem?_eq_some_iff.1 hv).1
  have hibo : vi.ownBlock ≠ some ib := fun e => by obtain ⟨cs, h⟩ := own_type hi e; rw [hv] at h; injection h with h; injection h with _ e _; cases e
  have hv6 : w6.heap[ib]? = some (.cells #[vi] 33 (0, 0)) := ((hg.block ib (by rw [World.size_alloc]; omega) (fun e => hibo e.symm)).trans (hal.block ib hibl)).trans hv
  have hv7 : (w6.setCell ⟨ib, 0, none⟩ v').heap[ib]? = some (.cells #[v'] 33 (0, 0)) := by simp [World.setCell, Array.getElem?_modify, hv6]
  have ht : ∀ (j : Nat) (cs : Array Value) (T : TypeId), W5.heap[j]? = some (.cells cs T (0, 0)) → T ≠ 33 → T ≠ 3 → (w6.setCell ⟨ib, 0, none⟩ v').heap[j]? = W5.heap[j]? := fun j cs T hj h1 h2 =>
    hsame j (Array.getElem?_eq_some_iff.1 hj).1 (fun e => by subst e; rw [hv] at hj; injection hj with hj; injection hj with _ e _; exact h1 e.symm) (fun e => by obtain ⟨cs', h⟩ := own_type hi e; rw [hj] at h; injection h with h; injection h with _ e _; exact h2 e)
  have hint : ∀ (j : Nat) (cs : Array Value), W5.heap[j]? = some (.cells cs 3 (0, 0)) → vi.ownBlock ≠ some j → (w6.setCell ⟨ib, 0, none⟩ v').heap[j]? = W5.heap[j]? := fun j cs hj h1 =>
    hsame j (Array.getElem?_eq_some_iff.1 hj).1 (fun e => by subst e; rw [hv] at hj; injection hj with hj; injection hj with _ e _; cases e) h1
  have hS7 : SmAt (w6.setCell ⟨ib, 0, none⟩ v') B sb mb n vL vB vOut vAt out (vs ++ vs5) A ch k := by
    refine hS.same (ht _ _ _ hS.box (by decide) (by decide)) (hsame mb hS.map.lt (fun e => hS.map.ne_cells hv e.symm) (fun e => by obtain ⟨cs, h⟩ := own_type hi e; exact hS.map.ne_cells h rfl)) (fun j e => ?_) (fun j e => ?_) (fun u hu j e => ?_)
    · obtain ⟨cs, h⟩ := own_type hS.outs.row e; exact ht j cs _ h (by decide) (by decide)
    · obtain ⟨cs, h⟩ := own_type hS.ats e
      exact hint j cs h (fun e2 => by have := hat j e; have := (own_ge hi e2).1; omega)
    · obtain ⟨_, _, cs, h⟩ := hS.outs.in_lt hu e
      refine hint j cs h (fun e2 => ?_)
      rcases List.mem_append.1 hu with h1 | h1
      · have := hold u h1 j e; have := (own_ge hi e2).1; omega
      · exact hav u h1 j e e2
  refine ⟨⟨vOut, vs5, v', k, hS7, hk, hge, fun u hu j e e2 => ?_, hv7, ?_, (ht pb _ _ hp (by decide) (by decide)).trans hp, ?_⟩, hsame, ?_, ?_⟩
  · rcases hloc with h | h | h
    · rw [h] at e2; cases e2
    · rw [h] at e2; exact hav u hu j e e2
    · rw [h] at e2
      injection e2 with e2
      have := (hS.outs.in_lt (List.mem_append_right _ hu) e).2.1
      rw [World.size_alloc] at e2
      omega
  · refine own_same hown fun j e => Below.heap_setCell _ _ _ _ (fun e2 => ?_)
    subst e2
    obtain ⟨cs, h⟩ := own_type hown e
    rw [hv6] at h; injection h with h; injection h with _ e _; cases e
  · refine ⟨hg.os.trans hf.os, hg.tape.trans hf.tape, hg.output.trans hf.output, ?_, fun j hj a b c => ?_, ?_⟩
    · have := hg.size; rw [World.size_alloc] at this; have := hf.size; simp [World.setCell]; omega
    · exact (hsame j (Nat.lt_of_lt_of_le hj hf.size) (by omega) (fun e => by have := (own_ge hi e).1; omega)).trans (hf.block j hj a b c)
    · rw [hS7.box.row, ← hS.box.row]; exact hf.row
  · unfold rowI; simp [World.cell?, hv7]
  · have := hg.size; rw [World.size_alloc] at this; simp [World.setCell]; omega
theorem own_pair (w : World) {B : Nat} (hB : B ≤ w.heap.size) (a b : Int) : OwnInts (w.alloc (.cells #[.int .i64 a, .int .i64 b] 3)) B (.slice (some ⟨w.heap.size, 0, none⟩) 2 2) [a, b] :=
  ⟨rfl, .inr ⟨w.heap.size, 2, _, rfl, hB, heap_alloc_new w _, Nat.le_refl _, by unfold maxLen; omega, rfl, rfl⟩⟩
theorem own_snoc {w : World} {B : Nat} {v : Value} {l : List Int} {x : Int} (h : w.ownsRow B 3 1 v (l.length + 1) (l.map (Value.int .i64) ++ [.int .i64 x])) : OwnInts w B v (l ++ [x]) := by
  unfold OwnInts; rw [List.map_append, List.length_append]; exact h
theorem loc_of {W : World} {o : Obj} {v' vi : Value} {g n c : Nat} (hv : v' = .slice (some ⟨g, 0, none⟩) n c) (h : v'.ownBlock = none ∨ v'.ownBlock = vi.ownBlock ∨ v'.ownBlock = some (W.alloc o).heap.size) : v'.ownBlock = vi.ownBlock ∨ ∃ r, v'.ownBlock = some r ∧ W.heap.size ≤ r := by
  rcases h with h | h | h
  · subst hv; cases h
  · exact .inl h
  · exact .inr ⟨_, h, by rw [World.size_alloc]; omega⟩
/-- What a round leaves. -/
theorem fill_keeps {W W5 w7 : World} {B B4 sb mb ib : Nat} {n : Int} {vL vB vOut vAt vi v' : Value} {out : List NodeT} {vs : List Value} {A : List Int} {ch : Int → Option Int} {k : Nat} {l : List Int} {B1 : Nat}
    (hS : SmAt W B sb mb n vL vB vOut vAt out vs A ch k) (hf : Fr sb mb W W5) (hv : W.heap[ib]? = some (.cells #[vi] 33 (0, 0))) (hi : OwnInts W B1 vi l) (hmb : mb < B4)
    (hsame : ∀ (j : Nat), j < W5.heap.size → j ≠ ib → vi.ownBlock ≠ some j → w7.heap[j]? = W5.heap[j]?) (hrow : rowI w7 ib = v'.ownBlock) (hsz : W5.heap.size ≤ w7.heap.size)
    (hloc : v'.ownBlock = vi.ownBlock ∨ ∃ r, v'.ownBlock = some r ∧ W5.heap.size ≤ r) : KeepsFrom B4 W w7 ∧ KeepI ib W w7 := by
  have hri : rowI W ib = vi.ownBlock := by unfold rowI; simp [World.cell?, hv]
  refine ⟨⟨Nat.le_trans hf.size hsz, fun j o hB ho hc => ?_⟩, ⟨Nat.le_trans hf.size hsz, fun j cs hj hne => ?_, ?_⟩⟩
  · have hlt := (Array.getElem?_eq_some_iff.1 ho).1
    have e1 : W5.heap[j]? = W.heap[j]? := hf.block j hlt (fun e => by subst e; have := hS.box; unfold SmBox at this; rw [ho] at this; injection this with this; subst this; cases hc) (by omega) (fun e => by
      rw [hS.box.row] at e
      obtain ⟨cs, h⟩ := own_type hS.outs.row e
      rw [ho] at h; injection h with h; subst h; cases hc)
    have e2 := hsame j (Nat.lt_of_lt_of_le hlt hf.size) (fun e => by subst e; rw [ho] at hv; injection hv with hv; subst hv; cases hc) (fun e => by obtain ⟨cs, h⟩ := own_type hi e; rw [ho] at h; injection h with h; subst h; cases hc)
    exact (e2.trans e1).trans ho
  · have e1 := hS.keep hf hj (by decide) (by decide)
    exact (hsame j (Nat.lt_of_lt_of_le (Array.getElem?_eq_some_iff.1 hj).1 hf.size) (fun e => by subst e; rw [hv] at hj; injection hj with hj; injection hj with _ e _; cases e) (by rw [← hri]; exact hne)).trans e1
  · rw [hrow, hri]
    rcases hloc with e | ⟨r, e, h⟩
    · exact .inl e
    · exact .inr ⟨r, e, Nat.le_trans hf.size h⟩
end Go.Proofs.YtpdbfbjfodckgaaDoor
