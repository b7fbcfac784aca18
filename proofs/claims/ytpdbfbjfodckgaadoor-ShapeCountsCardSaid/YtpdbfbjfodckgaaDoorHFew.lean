/- Walk of censuslaw21.few: the nodes of a net, brought into their range. -/
import Derived.Test.YtpdbfbjfodckgaaDoorHEval
import Derived.Test.YtpdbfbjfodckgaaDoorHSmd
import Derived.Deep.DeepCutAuto
namespace Go.Proofs.YtpdbfbjfodckgaaDoor
open Go.RowKit

def FewPost (n : Int) (w : World) (e : Ending) (w' : World) : Prop := ∃ v L vs, e = .returned (.agg #[.int .i64 n, v]) ∧ validNet ⟨n, L⟩ = true ∧ L.length ≤ 24 ∧ (∀ x ∈ L, x.ins.length ≤ 4) ∧ OwnNodes w' w.heap.size v L vs ∧ Below w.heap.size w w'
theorem few_kind (x : Int) : ∃ r : Int, wrap64 ((IntKind.u64.wrap x).tmod 5) = r ∧ 0 ≤ r ∧ r ≤ 4 := by
  have h0 : 0 ≤ IntKind.u64.wrap x := by rw [IntKind.wrap_u64]; omega
  refine ⟨_, rfl, ?_⟩
  rw [Int.tmod_eq_emod_of_nonneg h0]
  have h1 : 0 ≤ IntKind.u64.wrap x % 5 ∧ IntKind.u64.wrap x % 5 < 5 := by omega
  rw [IntWalk.wrap64_in _ (by omega)]
  omega
theorem few_lit (x n : Int) (h1 : 1 ≤ n) (h8 : n ≤ 8) : ∃ q : Int, wrap64 (1 + wrap64 ((IntKind.u64.wrap x).tmod n)) = q ∧ 1 ≤ q ∧ q ≤ n := by
  have h0 : 0 ≤ IntKind.u64.wrap x := by rw [IntKind.wrap_u64]; omega
  refine ⟨_, rfl, ?_⟩
  rw [Int.tmod_eq_emod_of_nonneg h0]
  have h2 := Int.emod_nonneg (IntKind.u64.wrap x) (show n ≠ 0 by omega)
  have h3 := Int.emod_lt_of_pos (IntKind.u64.wrap x) (show 0 < n by omega)
  have e := IntWalk.wrap64_in (IntKind.u64.wrap x % n) (by omega)
  rw [e, IntWalk.wrap64_in _ (by omega)]
  omega
theorem few_max (x n : Int) (h1 : 1 ≤ n) (h8 : n ≤ 8) : (∃ q : Int, x < wrap64 (-wrap64 (x + 1)) ∧ wrap64 (1 + wrap64 ((IntKind.u64.wrap (wrap64 (-wrap64 (x + 1)))).tmod n)) = q ∧ 1 ≤ q ∧ q ≤ n) ∨ ∃ q : Int, ¬ x < wrap64 (-wrap64 (x + 1)) ∧ wrap64 (1 + wrap64 ((IntKind.u64.wrap x).tmod n)) = q ∧ 1 ≤ q ∧ q ≤ n := by
  by_cases h : x < wrap64 (-wrap64 (x + 1))
  · obtain ⟨q, hq⟩ := few_lit (wrap64 (-wrap64 (x + 1))) n h1 h8
    exact .inl ⟨q, h, hq⟩
  · obtain ⟨q, hq⟩ := few_lit x n h1 h8
    exact .inr ⟨q, h, hq⟩
theorem few_in (x : Int) (k : Nat) (h1 : 0 < k) (h8 : k ≤ 24) : ∃ q : Int, IntKind.i64.wrap ((IntKind.u64.wrap x).tmod (k : Int)) = q ∧ wrap64 ((IntKind.u64.wrap x).tmod (k : Int)) = q ∧ 0 ≤ q ∧ q < (k : Int) := by
  have h0 : 0 ≤ IntKind.u64.wrap x := by rw [IntKind.wrap_u64]; omega
  have h2 := Int.emod_nonneg (IntKind.u64.wrap x) (show (k : Int) ≠ 0 by omega)
  have h3 := Int.emod_lt_of_pos (IntKind.u64.wrap x) (show 0 < (k : Int) by omega)
  refine ⟨IntKind.u64.wrap x % (k : Int), ?_, ?_, h2, h3⟩
  · rw [Int.tmod_eq_emod_of_nonneg h0, IntKind.wrap_i64]; omega
  · rw [Int.tmod_eq_emod_of_nonneg h0, IntWalk.wrap64_in _ (by omega)]
theorem results_netN {fn : Func} {tmps : Array Value} {w : World} {t b : Nat} {x y : Value} (hr : fn.results = #[.cell t 24]) (ht : tmps.getD t undef = .pointer (some ⟨b, 0, none⟩)) (h : Box2 w b 24 x y) :
    (results fn tmps).run Tryd.prog w = .ok (.agg #[x, y]) w := by
  obtain ⟨s0, s1, _, _⟩ := h.cells
  simp only [Array.getD_eq_getD_getElem?] at ht
  simp [results, hr, ht, go_sem, s0, s1]
/-- One node in new memory. -/
theorem own_oneN (w : World) {B : Nat} (hB : B ≤ w.heap.size) (k l : Int) : OwnNodes (w.alloc (.cells #[.int .i64 k, .int .i64 l, .slice none 0 0] 39)) B (.slice (some ⟨w.heap.size, 0, none⟩) 1 1) [⟨k, l, []⟩] [.slice none 0 0] :=
  ⟨⟨rfl, .inr ⟨w.heap.size, 1, _, rfl, hB, heap_alloc_new w _, Nat.le_refl _, by unfold maxLen; omega, rfl, rfl⟩⟩, rfl, fun i hi => by
    obtain rfl : i = 0 := by simpa using hi
    exact ⟨_, rfl, OwnInts.nil _ _, by simp⟩⟩
theorem few_valid {n : Int} (h1 : 1 ≤ n) (h8 : n ≤ 8) {out : List NodeT} (h0 : 1 ≤ out.length) (h24 : out.length ≤ 24) (hf : formedTo n out out.length) : validNet ⟨n, out⟩ = true := by
  rw [validNet_iff]
  exact ⟨⟨by show 0 ≤ n; omega, by show n ≤ 128; omega, h0, by show out.length ≤ 65536; omega⟩, hf⟩
theorem one_form (n : Int) : formedTo n [⟨1, 0, []⟩] ([⟨1, 0, []⟩] : List NodeT).length := by
  intro i hi _
  obtain rfl : i = 0 := by simpa using hi
  rfl
/-- The result's variable is set. -/
theorem few_own {w : World} {B rb : Nat} {v x y x' y' : Value} {out : List NodeT} {vs : List Value} (h : OwnNodes w B v out vs) (hb : Box2 w rb 24 x y) : OwnNodes ((w.setCell ⟨rb, 0, none⟩ x').setCell ⟨rb, 1, none⟩ y') B v out vs := by
  have hty : ∀ {j : Nat} {cs : Array Value} {T : TypeId}, w.heap[j]? = some (.cells cs T (0, 0)) → T ≠ 24 → j ≠ rb := fun {j cs T} hj hT e => by
    subst e
    unfold Box2 at hb
    rw [hj] at hb
    injection hb with hb
    injection hb with _ e _
    exact hT e
  have hset : ∀ {j : Nat}, j ≠ rb → ((w.setCell ⟨rb, 0, none⟩ x').setCell ⟨rb, 1, none⟩ y').heap[j]? = w.heap[j]? := fun hj => (Below.heap_setCell _ _ _ _ hj).trans (Below.heap_setCell _ _ _ _ hj)
  refine h.same (fun j e => ?_) (fun u hu j e => ?_)
  · obtain ⟨cs, hc⟩ := own_type h.row e
    exact hset (hty hc (by decide))
  · obtain ⟨_, _, cs, hc⟩ := h.in_lt hu e
    exact hset (hty hc (by decide))
theorem Box3.free2 {w : World} {b : Nat} {T : TypeId} {x y z : Value} (h : Box3 w b T x y z) : w.frozen? ⟨b, 2, none⟩ = false := by
  unfold Box3 at h; simp [World.frozen?, h]
/-- What lies in memory ahead of node k. -/
def FewO (w wr : World) (rb nb : Nat) (n : Int) (k : Nat) : Prop := ∃ vO out vs, Box2 wr nb 24 (.int .i64 n) vO ∧ OwnNodes wr w.heap.size vO out vs ∧ out.length = k ∧ formedTo n out out.length ∧ (∀ x ∈ out, x.ins.length ≤ 4) ∧ Box2 wr rb 24 (.int .i64 0) (.slice none 0 0) ∧ Below w.heap.size w wr
/-- What lies in memory while a node's inputs are made. -/
structure FewZ (w wq : World) (S0 nb rb yb zb : Nat) (n : Int) (vO : Value) (out : List NodeT) (vs : List Value) (r lt xk xl : Int) (yv v : Value) (l : List Int) : Prop where
  z : Box3 wq zb 39 (.int .i64 r) (.int .i64 lt) v
  y : Box3 wq yb 39 (.int .i64 xk) (.int .i64 xl) yv
  own : OwnInts wq w.heap.size v l
  new : ∀ i, v.ownBlock = some i → S0 ≤ i
  old : ∀ u ∈ vs, ∀ i, u.ownBlock = some i → i < S0
  bx : Box2 wq nb 24 (.int .i64 n) vO
  nodes : OwnNodes wq w.heap.size vO out vs
  row : ∀ i, vO.ownBlock = some i → i < S0
  res : Box2 wq rb 24 (.int .i64 0) (.slice none 0 0)
  bel : Below w.heap.size w wq
  zS : S0 ≤ zb
  zy : zb ≠ yb
  wS : w.heap.size ≤ S0
  sS : S0 ≤ wq.heap.size
section
variable {w wq : World} {S0 nb rb yb zb : Nat} {n : Int} {vO : Value} {out : List NodeT} {vs : List Value} {r lt xk xl : Int} {yv v : Value} {l : List Int}
theorem FewZ.below {w' : World} (h : FewZ w wq S0 nb rb yb zb n vO out vs r lt xk xl yv v l) (hb : Below wq.heap.size wq w') : FewZ w w' S0 nb rb yb zb n vO out vs r lt xk xl yv v l :=
  ⟨h.z.below hb h.z.lt, h.y.below hb h.y.lt, h.own.below hb, h.new, h.old, h.bx.below hb h.bx.lt, h.nodes.below hb, h.row, h.res.below hb h.res.lt, h.bel.trans (hb.mono h.bel.size), h.zS, h.zy, h.wS, Nat.le_trans h.sS hb.size⟩
/-- An input more. -/
theorem FewZ.push {w9 : World} {v' : Value} {x : Int} (h : FewZ w wq S0 nb rb yb zb n vO out vs r lt xk xl yv v l) (hown : OwnInts w9 w.heap.size v' (l ++ [x])) (hg : wq.grownBy w9 v.ownBlock) (hloc : v'.ownBlock = none ∨ v'.ownBlock = v.ownBlock ∨ v'.ownBlock = some wq.heap.size) :
    Box3 w9 zb 39 (.int .i64 r) (.int .i64 lt) v ∧ FewZ w (w9.setCell ⟨zb, 2, none⟩ v') S0 nb rb yb zb n vO out vs r lt xk xl yv v' (l ++ [x]) := by
  have keep : ∀ {j : Nat} {cs : Array Value} {T : TypeId}, wq.heap[j]? = some (.cells cs T (0, 0)) → T ≠ 3 → w9.heap[j]? = some (.cells cs T (0, 0)) := fun {j cs T} hj hT =>
    (hg.block j (Array.getElem?_eq_some_iff.1 hj).1 (fun e => by
      obtain ⟨cs', hc⟩ := own_type h.own e.symm
      rw [hj] at hc
      injection hc with hc
      injection hc with _ e _
      exact hT e)).trans hj
  have z9 : Box3 w9 zb 39 (.int .i64 r) (.int .i64 lt) v := keep h.z (by decide)
  have hty : ∀ {j : Nat} {cs : Array Value} {T : TypeId}, w9.heap[j]? = some (.cells cs T (0, 0)) → T ≠ 39 → j ≠ zb := fun {j cs T} hj hT e => by
    subst e
    unfold Box3 at z9
    rw [hj] at z9
    injection z9 with z9
    injection z9 with _ e _
    exact hT e
  have hset : ∀ {j : Nat}, j ≠ zb → (w9.setCell ⟨zb, 2, none⟩ v').heap[j]? = w9.heap[j]? := fun hj => Below.heap_setCell _ _ _ _ hj
  have hbw := below_app h.bel (Nat.le_refl _) h.own hg
  refine ⟨z9, z9.set2 v', ?_, own_same hown fun j e => ?_, fun i e => ?_, h.old, ?_, h.nodes.same (fun j e => ?_) (fun u hu j e => ?_), h.row, ?_, hbw.setCell (p := ⟨zb, 2, none⟩) (Nat.le_trans h.wS h.zS) _, h.zS, h.zy, h.wS, ?_⟩
  · have y9 : Box3 w9 yb 39 (.int .i64 xk) (.int .i64 xl) yv := keep h.y (by decide)
    exact y9.same (hset (Ne.symm h.zy))
  · obtain ⟨cs, hc⟩ := own_type hown e
    exact hset (hty hc (by decide))
  · rcases hloc with e2 | e2 | e2
    · rw [e2] at e; cases e
    · rw [e2] at e; exact h.new i e
    · rw [e2] at e; injection e with e; have := h.sS; omega
  · have b9 : Box2 w9 nb 24 (.int .i64 n) vO := keep h.bx (by decide)
    exact b9.same (hset (hty b9 (by decide)))
  · obtain ⟨cs, hc⟩ := own_type h.nodes.row e
    exact (hset (by have := h.row j e; have := h.zS; omega)).trans ((keep hc (by decide)).trans hc.symm)
  · have hjS := h.old u hu j e
    refine (hset (by have := h.zS; omega)).trans (hg.block j (Nat.lt_of_lt_of_le hjS h.sS) (fun e2 => ?_))
    have := h.new j e2.symm
    omega
  · have b9 : Box2 w9 rb 24 (.int .i64 0) (.slice none 0 0) := keep h.res (by decide)
    exact b9.same (hset (hty b9 (by decide)))
  · have := hg.size; have := h.sS; simp [World.setCell]; omega
end
/-- The literal fits the kind. -/
def LitOk (n r lt : Int) : Prop := (r = 2 ∧ 1 ≤ litVar lt ∧ litVar lt ≤ n) ∨ (r ≠ 2 ∧ lt = 0)
theorem few_form {n : Int} (_h8 : n ≤ 8) {out : List NodeT} {r lt : Int} {l : List Int} (hf : formedTo n out out.length) (h0 : 0 ≤ r) (h4 : r ≤ 4) (h2 : LitOk n r lt) (hl : ∀ x ∈ l, 0 ≤ x ∧ x < (out.length : Int)) (h3 : 0 < l.length → 3 ≤ r) : formedTo n (out ++ [(⟨r, lt, l⟩ : NodeT)]) (out ++ [(⟨r, lt, l⟩ : NodeT)]).length := by
  intro i hi _
  by_cases h : i < out.length
  · rw [List.getElem_append_left h]; exact hf i h h
  · obtain rfl : i = out.length := by simp at hi; omega
    simp only [List.getElem_concat_length]
    unfold formed
    have hb : badIn l (out.length : Int) = false := by
      unfold badIn
      rw [List.any_eq_false]
      intro x hx
      have := hl x hx
      simp; omega
    have hnil : r < 3 → l = [] := fun hr => by
      apply Classical.byContradiction; intro e
      have := h3 (List.length_pos_iff.2 e); omega
    rw [hb, if_neg (by simp)]
    rcases h2 with ⟨rfl, q1, q2⟩ | ⟨q1, rfl⟩
    · rw [hnil (by omega)]
      simp [litValid]; omega
    · by_cases h01 : r = 0 ∨ r = 1
      · rw [if_pos h01, hnil (by omega)]; rfl
      · rw [if_neg h01, if_neg q1, if_pos (show r = 3 ∨ r = 4 by omega)]; rfl
theorem few_out {w W w9 : World} {S0 nb rb yb zb : Nat} {n : Int} {vO v9 : Value} {out : List NodeT} {vs : List Value} {r lt xk xl : Int} {yv v : Value} {l : List Int} {k : Nat} (h : FewZ w W S0 nb rb yb zb n vO out vs r lt xk xl yv v l) (hB : w.heap.size ≤ nb) (hrn : rb ≠ nb) (hg : W.grownBy w9 vO.ownBlock) (h9 : OwnNodes w9 w.heap.size v9 (out ++ [⟨r, lt, l⟩]) (vs ++ [v]))
    (hk : out.length = k) (hf : formedTo n (out ++ [(⟨r, lt, l⟩ : NodeT)]) (out ++ [(⟨r, lt, l⟩ : NodeT)]).length) (h4 : ∀ x ∈ out, x.ins.length ≤ 4) (hl : l.length ≤ 4) : Box2 w9 nb 24 (.int .i64 n) vO ∧ FewO w (w9.setCell ⟨nb, 1, none⟩ v9) rb nb n (k + 1) := by
  obtain ⟨a1, ⟨v', b1, b2, _⟩, a3⟩ := made_store h.bx hB h.nodes hg h9
  refine ⟨a1, v', _, _, b1, b2, by simp [hk], hf, fun x hx => ?_, a3 h.res (fun _ _ _ e => by injection e with _ e _; rw [← e]; decide) hrn, (below_app h.bel (Nat.le_refl _) h.nodes.row hg).setCell (p := ⟨nb, 1, none⟩) hB _⟩
  rcases List.mem_append.1 hx with h1 | h1
  · exact h4 x h1
  · rw [List.mem_singleton] at h1; subst h1; exact hl
theorem few_ways (j k : Nat) (m : Nat) (r : Int) : ((j : Int) < (m : Int) ∧ (j : Int) < 4 ∧ 0 < (k : Int) ∧ 3 ≤ r) ∨ (decide ((j : Int) < (m : Int)) = false ∧ ¬ (j : Int) < (m : Int)) ∨ ((j : Int) < (m : Int) ∧ decide ((j : Int) < 4) = false) ∨ ((j : Int) < (m : Int) ∧ (j : Int) < 4 ∧ decide (0 < k) = false ∧ ¬ 0 < k) ∨ ((j : Int) < (m : Int) ∧ (j : Int) < 4 ∧ 0 < (k : Int) ∧ decide (3 ≤ r) = false) := by
  by_cases a : (j : Int) < (m : Int)
  · by_cases b : (j : Int) < 4
    · by_cases c : 0 < (k : Int)
      · by_cases d : 3 ≤ r
        · exact .inl ⟨a, b, c, d⟩
        · exact .inr (.inr (.inr (.inr ⟨a, b, c, decide_eq_false d⟩)))
      · exact .inr (.inr (.inr (.inl ⟨a, b, decide_eq_false (by omega), by omega⟩)))
    · exact .inr (.inr (.inl ⟨a, decide_eq_false b⟩))
  · exact .inr (.inl ⟨decide_eq_false a, a⟩)
set_option maxRecDepth 100000 in
set_option maxHeartbeats 8000000 in
theorem few_c (n0 n : Int) (L : List NodeT) (v : Value) (w : World) (hN : NodesAt w v L) (hl : L.length ≤ 1000) (h1 : 1 ≤ n) (h8 : n ≤ 8) :
    Calls Tryd.prog 33 #[.agg #[.int .i64 n0, v], .int .i64 n] w (FewPost n w) := by
  obtain ⟨p, c, rfl, hN⟩ := hN
  have HN := hid hN
  clear hN
  have hb1 : Below w.heap.size w (w.alloc (.cells #[.int .i64 n0, .slice p L.length c] 24)) := (Below.refl _ w).alloc (Nat.le_refl _) _
  have hb2 : Below w.heap.size w ((w.alloc (.cells #[.int .i64 n0, .slice p L.length c] 24)).alloc (.cells #[.int .i64 0, .slice none 0 0] 24)) := hb1.alloc hb1.size _
  have hb3 : Below w.heap.size w (((w.alloc (.cells #[.int .i64 n0, .slice p L.length c] 24)).alloc (.cells #[.int .i64 0, .slice none 0 0] 24)).alloc (.cells #[.int .i64 n, .slice none 0 0] 24)) := hb2.alloc hb2.size _
  have hrb := (Box2.new (w.alloc (.cells #[.int .i64 n0, .slice p L.length c] 24)) 24 (.int .i64 0) (.slice none 0 0)).alloc (.cells #[.int .i64 n, .slice none 0 0] 24)
  have hnb := Box2.new ((w.alloc (.cells #[.int .i64 n0, .slice p L.length c] 24)).alloc (.cells #[.int .i64 0, .slice none 0 0] 24)) 24 (.int .i64 n) (.slice none 0 0)
  rw [World.size_alloc] at hrb
  rw [World.size_alloc, World.size_alloc] at hnb
  have HF0 := hid (show FewO w (((w.alloc (.cells #[.int .i64 n0, .slice p L.length c] 24)).alloc (.cells #[.int .i64 0, .slice none 0 0] 24)).alloc (.cells #[.int .i64 n, .slice none 0 0] 24)) (w.heap.size + 1) (w.heap.size + 1 + 1) n 0 from
    ⟨_, [], [], hnb, OwnNodes.nil _ _, rfl, fun i h => by simp at h, by simp, hrb, hb3⟩)
  clear hb1 hb2 hb3 hrb hnb
  go_enter Tryd.func33, Tryd.ntmps33
  go_wp2_with fail
  go_loopw [15] (fun z wr => ∃ (k : Nat), k ≤ L.length ∧ k ≤ 24 ∧ z = .int .i64 k ∧ Hid (FewO w wr (w.heap.size + 1) (w.heap.size + 1 + 1) n k)) (fun z _ => L.length - (intOf z).toNat)
  case atStart => exact ⟨0, Nat.zero_le _, by omega, rfl, HF0.out⟩
  case round =>
    clear HF0
    obtain ⟨k, hk, hk24, rfl, hfo⟩ := hrel
    obtain ⟨vO, out, vs, g1, g2, g3, g4, g5, g6, g7⟩ := hfo.out
    have G1 := hid g1
    have G2 := hid g2
    have G3 := hid g3
    have G4 := hid g4
    have G5 := hid g5
    have G6 := hid g6
    have G7 := hid g7
    clear g1 g2 g3 g4 g5 g6 g7 hfo
    by_cases hkl : k < L.length
    · obtain ⟨b, off, rfl, hN2⟩ := HN.out.resolve_left (by intro e; rw [e] at hkl; simp at hkl)
      obtain ⟨u, hu⟩ := hN2 k hkl
      have hur := hu.below G7.out
      have d0 := hur.kind
      have d1 := hur.lit
      have d2 := hur.ins
      have HU := hid hur
      have hle := hur.len
      have zk : (0 : Int) ≤ (k : Int) ∧ (k : Int) < (L.length : Int) := by omega
      clear hu hur hN2
      generalize hxx : L[k] = x at *
      obtain ⟨xk, xl, xi⟩ := x
      obtain ⟨p2, c2, e2, hdrop⟩ := HU.out.ints
      subst e2
      clear hdrop hxx
      simp only at hle d0 d1
      by_cases h24 : 24 ≤ (k : Int)
      · have hal : Below wr.heap.size wr (wr.alloc (.cells #[.int .i64 xk, .int .i64 xl, .slice p2 xi.length c2] 39)) := (Below.refl _ wr).alloc (Nat.le_refl _) _
        have HG6 := hid (G6.out.below hal G6.out.lt)
        have HG2 := hid (G2.out.below hal)
        have HG7 := hid (G7.out.trans (hal.mono G7.out.size))
        obtain ⟨x0, x1, x2, x3⟩ := G1.out.cells
        obtain ⟨y0, y1, y2, y3⟩ := G6.out.cells
        have lnb := G1.out.lt
        have lrb := G6.out.lt
        obtain ⟨pO, cO, rfl, _⟩ := G2.out.nodes
        have hpos : ((out.length : Int) == 0) = false := by have := G3.out; simp; intro e; subst e; simp at this; omega
        clear hal
        go_wp2_with fail
        refine bodyPost_ret (results_netN rfl rfl ((G6.out.set01 _ _).alloc _)) rfl ?_
        exact ⟨_, out, vs, rfl, few_valid h1 h8 (by have := G3.out; omega) (by have := G3.out; omega) G4.out, by have := G3.out; omega, G5.out, (few_own G2.out G6.out).below ((Below.refl _ _).alloc (Nat.le_refl _) _), (below_01 G7.out (Nat.le_succ _) _ _).alloc (by have := G7.out.size; simp [World.setCell]; omega) _⟩
      · have hal1 : Below wr.heap.size wr (wr.alloc (.cells #[.int .i64 xk, .int .i64 xl, .slice p2 xi.length c2] 39)) := (Below.refl _ wr).alloc (Nat.le_refl _) _
        have hyb := Box3.new wr 39 (.int .i64 xk) (.int .i64 xl) (.slice p2 xi.length c2)
        have hz0 : ∀ r lt : Int, FewZ w ((wr.alloc (.cells #[.int .i64 xk, .int .i64 xl, .slice p2 xi.length c2] 39)).alloc (.cells #[.int .i64 r, .int .i64 lt, .slice none 0 0] 39)) wr.heap.size (w.heap.size + 1 + 1) (w.heap.size + 1) wr.heap.size (wr.heap.size + 1) n vO out vs r lt xk xl (.slice p2 xi.length c2) (.slice none 0 0) [] := fun r lt => by
          have hal2 : Below wr.heap.size wr ((wr.alloc (.cells #[.int .i64 xk, .int .i64 xl, .slice p2 xi.length c2] 39)).alloc (.cells #[.int .i64 r, .int .i64 lt, .slice none 0 0] 39)) := hal1.alloc hal1.size _
          have hzb := Box3.new (wr.alloc (.cells #[.int .i64 xk, .int .i64 xl, .slice p2 xi.length c2] 39)) 39 (.int .i64 r) (.int .i64 lt) (.slice none 0 0)
          rw [World.size_alloc] at hzb
          exact ⟨hzb, hyb.same (Below.heap_alloc _ _ _ hyb.lt), OwnInts.nil _ _, (fun i e => by cases e), fun u hu i e => (G2.out.in_lt hu e).2.1, G1.out.below hal2 G1.out.lt, G2.out.below hal2, fun i e => (own_ge G2.out.row e).2, G6.out.below hal2 G6.out.lt, G7.out.trans (hal2.mono G7.out.size), Nat.le_succ _, by omega, G7.out.size, hal2.size⟩
        have HZ0 := hid hz0
        have HII := hid (fun (w' : World) (h : Below wr.heap.size wr w') => HU.out.ints.below h)
        clear hal1 hyb hz0
        obtain ⟨r, hr, r0, r4⟩ := few_kind xk
        have hn1 : (n == 0) = false := by simp; omega
        have hn2 : ¬ n = 0 := by omega
        by_cases h2 : r = 2
        · subst h2
          rcases few_max xl n h1 h8 with ⟨q, hm, hq, q1, q2⟩ | ⟨q, hm, hq, q1, q2⟩
          all_goals
            by_cases hx0 : xl < 0
            · have HZ := hid (HZ0.out (2) (-q))
              have H2Z := hid (show LitOk n (2) (-q) from (.inl ⟨rfl, by rw [(litVar_pos q1 (by omega)).2]; omega⟩))
              have hwy : w.heap.size + 1 + 1 < wr.heap.size := G1.out.lt
              go_wp2_with fail
              have hal2 : Below wr.heap.size wr ((wr.alloc (.cells #[.int .i64 xk, .int .i64 xl, .slice p2 xi.length c2] 39)).alloc (.cells #[.int .i64 (2), .int .i64 (-q), .slice none 0 0] 39)) := ((Below.refl _ wr).alloc (Nat.le_refl _) _).alloc (by simp) _
              have HSZ := hid hal2.size
              have HIZ := hid hal2
              clear hal2 HZ0 d0 d1 d2
              generalize (wr.alloc (.cells #[.int .i64 xk, .int .i64 xl, .slice p2 xi.length c2] 39)).alloc (.cells #[.int .i64 (2), .int .i64 (-q), .slice none 0 0] 39) = w5 at *
              obtain ⟨wo, hwo⟩ : ∃ wo : World, wo = wr := ⟨_, rfl⟩
              subst hwo
              go_loopw [9] (fun z wq => ∃ (j : Nat), j ≤ xi.length ∧ j ≤ 4 ∧ z = .int .i64 j ∧ Hid (∃ v l, FewZ w wq wo.heap.size (w.heap.size + 1 + 1) (w.heap.size + 1) wo.heap.size (wo.heap.size + 1) n vO out vs (2) (-q) xk xl (.slice p2 xi.length c2) v l ∧ l.length = j ∧ (∀ x ∈ l, 0 ≤ x ∧ x < (k : Int)) ∧ (0 < j → (3 : Int) ≤ 2) ∧ Below wo.heap.size wo wq)) (fun z _ => xi.length - (intOf z).toNat)
              case atStart => exact ⟨0, Nat.zero_le _, by omega, rfl, _, [], HZ.out, rfl, by simp, fun h => absurd h (by omega), HIZ.out⟩
              case round =>
                clear HZ HIZ
                obtain ⟨j, hj, hj4, rfl, hfz⟩ := hrel
                obtain ⟨v, l, z1, z2, z3, z4, z5⟩ := hfz.out
                subst z2
                obtain ⟨m0, m1, m2⟩ := z1.z.cells
                obtain ⟨e0, e1, e2⟩ := z1.y.cells
                obtain ⟨pv, cv, rfl, _⟩ := z1.own.ints
                have HFZ := hid z1
                have HRG := hid z3
                have HR3 := hid z4
                have HXI := hid z5
                clear z1 z3 z4 z5 hfz
                rcases few_ways l.length k xi.length (2) with ⟨a1, a2, a3, a4⟩ | ⟨a1, a2⟩ | ⟨a1, a2⟩ | ⟨a1, a2, a3, a4⟩ | ⟨a1, a2, a3, a4⟩
                · omega
                all_goals
                  have x0 := HFZ.out.bx.cells
                  obtain ⟨x0, x1, x2, x3⟩ := x0
                  obtain ⟨pO, cO, rfl, _⟩ := HFZ.out.nodes.nodes
                  have lnb := HFZ.out.bx.lt
                  have hal : Below wr.heap.size wr (wr.alloc (.cells #[.int .i64 (2), .int .i64 (-q), .slice pv l.length cv] 39)) := (Below.refl _ wr).alloc (Nat.le_refl _) _
                  have HFA := hid (HFZ.out.below hal)
                  have hbs : w.heap.size ≤ (wr.alloc (.cells #[.int .i64 (2), .int .i64 (-q), .slice pv l.length cv] 39)).heap.size := Nat.le_trans HFZ.out.bel.size hal.size
                  have HFM := hid (few_form (n := n) h8 (out := out) (r := (2)) (lt := (-q)) (l := l) G4.out (by omega) (by omega) H2Z.out (by rw [G3.out]; exact HRG.out) HR3.out)
                  have hlj : l.length ≤ 16777216 := by omega
                  have hol : out.length ≤ 1000000 := by rw [G3.out]; omega
                  have HNB := hid (heap_alloc_new wr (.cells #[.int .i64 (2), .int .i64 (-q), .slice pv l.length cv] 39))
                  clear hal
                  go_wp2_with (at_builtin; go_loud (refine wpList_append_N rfl _ _ rfl w.heap.size _ out vs rfl HFA.out.nodes ⟨(2), (-q), l⟩ _ HFA.out.own hlj wr.heap.size 1 39 rfl HNB.out hol hbs ?_; intro v9 w9 hown9 hg9 hv9; have hf9 := few_out HFA.out (by omega) (by omega) hg9 hown9 G3.out HFM.out G5.out (by omega); have HF9 := hid hf9.2; obtain ⟨_, y4, _, f4⟩ := hf9.1.cells; clear hf9 hown9 hg9; obtain ⟨g9, c9, e9, _⟩ := hv9; subst e9))
                  go_roundw
                  case rel => exact ⟨k + 1, by omega, by omega, by go_num, HF9.out⟩
                  case measure => simp [intOf]; omega
            · have HZ := hid (HZ0.out (2) (q))
              have H2Z := hid (show LitOk n (2) (q) from (.inl ⟨rfl, by rw [(litVar_pos q1 (by omega)).1]; omega⟩))
              have hwy : w.heap.size + 1 + 1 < wr.heap.size := G1.out.lt
              go_wp2_with fail
              have hal2 : Below wr.heap.size wr ((wr.alloc (.cells #[.int .i64 xk, .int .i64 xl, .slice p2 xi.length c2] 39)).alloc (.cells #[.int .i64 (2), .int .i64 (q), .slice none 0 0] 39)) := ((Below.refl _ wr).alloc (Nat.le_refl _) _).alloc (by simp) _
              have HSZ := hid hal2.size
              have HIZ := hid hal2
              clear hal2 HZ0 d0 d1 d2
              generalize (wr.alloc (.cells #[.int .i64 xk, .int .i64 xl, .slice p2 xi.length c2] 39)).alloc (.cells #[.int .i64 (2), .int .i64 (q), .slice none 0 0] 39) = w5 at *
              obtain ⟨wo, hwo⟩ : ∃ wo : World, wo = wr := ⟨_, rfl⟩
              subst hwo
              go_loopw [9] (fun z wq => ∃ (j : Nat), j ≤ xi.length ∧ j ≤ 4 ∧ z = .int .i64 j ∧ Hid (∃ v l, FewZ w wq wo.heap.size (w.heap.size + 1 + 1) (w.heap.size + 1) wo.heap.size (wo.heap.size + 1) n vO out vs (2) (q) xk xl (.slice p2 xi.length c2) v l ∧ l.length = j ∧ (∀ x ∈ l, 0 ≤ x ∧ x < (k : Int)) ∧ (0 < j → (3 : Int) ≤ 2) ∧ Below wo.heap.size wo wq)) (fun z _ => xi.length - (intOf z).toNat)
              case atStart => exact ⟨0, Nat.zero_le _, by omega, rfl, _, [], HZ.out, rfl, by simp, fun h => absurd h (by omega), HIZ.out⟩
              case round =>
                clear HZ HIZ
                obtain ⟨j, hj, hj4, rfl, hfz⟩ := hrel
                obtain ⟨v, l, z1, z2, z3, z4, z5⟩ := hfz.out
                subst z2
                obtain ⟨m0, m1, m2⟩ := z1.z.cells
                obtain ⟨e0, e1, e2⟩ := z1.y.cells
                obtain ⟨pv, cv, rfl, _⟩ := z1.own.ints
                have HFZ := hid z1
                have HRG := hid z3
                have HR3 := hid z4
                have HXI := hid z5
                clear z1 z3 z4 z5 hfz
                rcases few_ways l.length k xi.length (2) with ⟨a1, a2, a3, a4⟩ | ⟨a1, a2⟩ | ⟨a1, a2⟩ | ⟨a1, a2, a3, a4⟩ | ⟨a1, a2, a3, a4⟩
                · omega
                all_goals
                  have x0 := HFZ.out.bx.cells
                  obtain ⟨x0, x1, x2, x3⟩ := x0
                  obtain ⟨pO, cO, rfl, _⟩ := HFZ.out.nodes.nodes
                  have lnb := HFZ.out.bx.lt
                  have hal : Below wr.heap.size wr (wr.alloc (.cells #[.int .i64 (2), .int .i64 (q), .slice pv l.length cv] 39)) := (Below.refl _ wr).alloc (Nat.le_refl _) _
                  have HFA := hid (HFZ.out.below hal)
                  have hbs : w.heap.size ≤ (wr.alloc (.cells #[.int .i64 (2), .int .i64 (q), .slice pv l.length cv] 39)).heap.size := Nat.le_trans HFZ.out.bel.size hal.size
                  have HFM := hid (few_form (n := n) h8 (out := out) (r := (2)) (lt := (q)) (l := l) G4.out (by omega) (by omega) H2Z.out (by rw [G3.out]; exact HRG.out) HR3.out)
                  have hlj : l.length ≤ 16777216 := by omega
                  have hol : out.length ≤ 1000000 := by rw [G3.out]; omega
                  have HNB := hid (heap_alloc_new wr (.cells #[.int .i64 (2), .int .i64 (q), .slice pv l.length cv] 39))
                  clear hal
                  go_wp2_with (at_builtin; go_loud (refine wpList_append_N rfl _ _ rfl w.heap.size _ out vs rfl HFA.out.nodes ⟨(2), (q), l⟩ _ HFA.out.own hlj wr.heap.size 1 39 rfl HNB.out hol hbs ?_; intro v9 w9 hown9 hg9 hv9; have hf9 := few_out HFA.out (by omega) (by omega) hg9 hown9 G3.out HFM.out G5.out (by omega); have HF9 := hid hf9.2; obtain ⟨_, y4, _, f4⟩ := hf9.1.cells; clear hf9 hown9 hg9; obtain ⟨g9, c9, e9, _⟩ := hv9; subst e9))
                  go_roundw
                  case rel => exact ⟨k + 1, by omega, by omega, by go_num, HF9.out⟩
                  case measure => simp [intOf]; omega
        · have h2' : (r == 2) = false := by simp [h2]
          have HNE := hid h2
          clear h2
          have HZ := hid (HZ0.out (r) (0))
          have H2Z := hid (show LitOk n (r) (0) from (.inr ⟨HNE.out, rfl⟩))
          have hwy : w.heap.size + 1 + 1 < wr.heap.size := G1.out.lt
          go_wp2_with fail
          have hal2 : Below wr.heap.size wr ((wr.alloc (.cells #[.int .i64 xk, .int .i64 xl, .slice p2 xi.length c2] 39)).alloc (.cells #[.int .i64 (r), .int .i64 (0), .slice none 0 0] 39)) := ((Below.refl _ wr).alloc (Nat.le_refl _) _).alloc (by simp) _
          have HSZ := hid hal2.size
          have HIZ := hid hal2
          clear hal2 HZ0 d0 d1 d2
          generalize (wr.alloc (.cells #[.int .i64 xk, .int .i64 xl, .slice p2 xi.length c2] 39)).alloc (.cells #[.int .i64 (r), .int .i64 (0), .slice none 0 0] 39) = w5 at *
          obtain ⟨wo, hwo⟩ : ∃ wo : World, wo = wr := ⟨_, rfl⟩
          subst hwo
          go_loopw [9] (fun z wq => ∃ (j : Nat), j ≤ xi.length ∧ j ≤ 4 ∧ z = .int .i64 j ∧ Hid (∃ v l, FewZ w wq wo.heap.size (w.heap.size + 1 + 1) (w.heap.size + 1) wo.heap.size (wo.heap.size + 1) n vO out vs (r) (0) xk xl (.slice p2 xi.length c2) v l ∧ l.length = j ∧ (∀ x ∈ l, 0 ≤ x ∧ x < (k : Int)) ∧ (0 < j → 3 ≤ (r)) ∧ Below wo.heap.size wo wq)) (fun z _ => xi.length - (intOf z).toNat)
          case atStart => exact ⟨0, Nat.zero_le _, by omega, rfl, _, [], HZ.out, rfl, by simp, fun h => absurd h (by omega), HIZ.out⟩
          case round =>
            clear HZ HIZ
            obtain ⟨j, hj, hj4, rfl, hfz⟩ := hrel
            obtain ⟨v, l, z1, z2, z3, z4, z5⟩ := hfz.out
            subst z2
            obtain ⟨m0, m1, m2⟩ := z1.z.cells
            obtain ⟨e0, e1, e2⟩ := z1.y.cells
            obtain ⟨pv, cv, rfl, _⟩ := z1.own.ints
            have HFZ := hid z1
            have HRG := hid z3
            have HR3 := hid z4
            have HXI := hid z5
            clear z1 z3 z4 z5 hfz
            rcases few_ways l.length k xi.length (r) with ⟨a1, a2, a3, a4⟩ | ⟨a1, a2⟩ | ⟨a1, a2⟩ | ⟨a1, a2, a3, a4⟩ | ⟨a1, a2, a3, a4⟩
            · have hjl : l.length < xi.length := by omega
              obtain ⟨p3, c3, e3, h3⟩ := HII.out _ HXI.out
              injection e3 with e1' e4' e2'
              clear e4'
              subst e1'; subst e2'
              obtain ⟨b2, o2, rfl, hc⟩ := h3.resolve_left (by intro e; rw [e] at hjl; simp at hjl)
              have hcj := hc l.length hjl
              rw [List.getElem?_eq_getElem hjl, Option.getD_some] at hcj
              have zj : (0 : Int) ≤ (l.length : Int) ∧ (l.length : Int) < (xi.length : Int) := by omega
              have zjn : (l.length : Int) < (xi.length : Int) := by omega
              generalize xi[l.length] = x at hcj
              obtain ⟨q, hq, hq', q1, q2⟩ := few_in x k (by omega) (by omega)
              have hwk : IntKind.u64.wrap (k : Int) = (k : Int) := by rw [IntKind.wrap_u64]; omega
              have hk0 : ¬ k = 0 := by omega
              have hk1 : ((k : Int) == 0) = false := by simp; omega
              have ZC : Hid (wr.drew.cell? ⟨wo.heap.size + 1, 2, none⟩ = some (.slice pv l.length cv)) := m2
              have YC : Hid (wr.drew.cell? ⟨wo.heap.size, 2, none⟩ = some (.slice (some ⟨b2, o2, none⟩) xi.length c2)) := e2
              have XC : Hid (wr.drew.cell? ⟨b2, o2 + l.length, none⟩ = some (.int .i64 x)) := hcj
              have HQ1 := hid q1
              have HQ2 := hid q2
              clear h3 hc hcj q1 q2
              go_wp2_with fail
              refine Go.Proofs.YtpdbfbjfodckgaaDoor.wp_region_L 16 13 (fun w' => w'.cell? ⟨wo.heap.size + 1, 2, none⟩ = some (.slice pv l.length cv) ∧ w'.cell? ⟨wo.heap.size, 2, none⟩ = some (.slice (some ⟨b2, o2, none⟩) xi.length c2) ∧ w'.cell? ⟨b2, o2 + l.length, none⟩ = some (.int .i64 x)) (by kernel_rfl) rfl ⟨ZC.out, YC.out, XC.out⟩ (fun _ => ?_)
              refine wpAnyL_pure (i := 0) (v := .pointer (some ⟨wo.heap.size + 1, 2, none⟩)) (by simp only [List.getElem?_toArray, List.getElem?_cons_zero] <;> rfl) (by kernel_rfl) (by kernel_rfl) (by kernel_rfl) (by exact fun _ _ _ h => h) (by decide) (.inr ⟨ZC.out, YC.out, XC.out⟩) (Or.inl ⟨by rfl, fun w _ => (by simp [execOp, go_sem, Act.eval])⟩) (fun _ => ?_)
              simp only [Act.put, List.setIfInBounds_toArray, List.set_cons_zero, List.set_cons_succ]
              refine wpAnyL_load2 (i := 1) (v := .slice pv l.length cv) (by simp only [List.getElem?_toArray, List.getElem?_cons_zero, List.getElem?_cons_succ] <;> rfl) (by kernel_rfl) (by kernel_rfl) (by kernel_rfl) (by exact fun _ _ _ h => h) (by decide) (Waits.one rfl ⟨⟨1, .data⟩, by simp, rfl, rfl⟩) (by kernel_rfl) (by kernel_rfl) (.inr ⟨ZC.out, YC.out, XC.out⟩) (Or.inl ⟨by rfl, fun w hw => (by obtain ⟨x0, _, _⟩ := hw; simp [execOp, go_sem, Act.eval, x0])⟩) (fun _ => ?_)
              simp only [Act.put, List.setIfInBounds_toArray, List.set_cons_zero, List.set_cons_succ]
              refine wpAnyL_pure (i := 2) (v := .pointer (some ⟨wo.heap.size, 2, none⟩)) (by simp only [List.getElem?_toArray, List.getElem?_cons_zero, List.getElem?_cons_succ] <;> rfl) (by kernel_rfl) (by kernel_rfl) (by kernel_rfl) (by exact fun _ _ _ h => h) (by decide) (.inr ⟨ZC.out, YC.out, XC.out⟩) (Or.inl ⟨by rfl, fun w _ => (by simp [execOp, go_sem, Act.eval])⟩) (fun _ => ?_)
              simp only [Act.put, List.setIfInBounds_toArray, List.set_cons_zero, List.set_cons_succ]
              refine wpAnyL_load2 (i := 3) (v := .slice (some ⟨b2, o2, none⟩) xi.length c2) (by simp only [List.getElem?_toArray, List.getElem?_cons_zero, List.getElem?_cons_succ] <;> rfl) (by kernel_rfl) (by kernel_rfl) (by kernel_rfl) (by exact fun _ _ _ h => h) (by decide) (Waits.more (j := 12) rfl ⟨⟨12, .data⟩, by simp, rfl, rfl⟩ (Waits.more (j := 11) rfl ⟨⟨11, .data⟩, by simp, rfl, rfl⟩ (Waits.more (j := 10) rfl ⟨⟨10, .data⟩, by simp, rfl, rfl⟩ (Waits.more (j := 7) rfl ⟨⟨7, .data⟩, by simp, rfl, rfl⟩ (Waits.more (j := 6) rfl ⟨⟨6, .data⟩, by simp, rfl, rfl⟩ (Waits.more (j := 5) rfl ⟨⟨5, .data⟩, by simp, rfl, rfl⟩ (Waits.one rfl ⟨⟨3, .data⟩, by simp, rfl, rfl⟩))))))) (by kernel_rfl) (by kernel_rfl) (.inr ⟨ZC.out, YC.out, XC.out⟩) (Or.inl ⟨by rfl, fun w hw => (by obtain ⟨_, x1, _⟩ := hw; simp [execOp, go_sem, Act.eval, x1])⟩) (fun _ => ?_)
              simp only [Act.put, List.setIfInBounds_toArray, List.set_cons_zero, List.set_cons_succ]
              refine wpAnyL_pure (i := 4) (v := .int .i64 (l.length : Int)) (by simp only [List.getElem?_toArray, List.getElem?_cons_zero, List.getElem?_cons_succ] <;> rfl) (by kernel_rfl) (by kernel_rfl) (by kernel_rfl) (by exact fun _ _ _ h => h) (by decide) (.inr ⟨ZC.out, YC.out, XC.out⟩) (Or.inl ⟨by rfl, fun w _ => (by simp [execOp, go_sem, Act.eval])⟩) (fun _ => ?_)
              simp only [Act.put, List.setIfInBounds_toArray, List.set_cons_zero, List.set_cons_succ]
              refine wpAnyL_pure (i := 5) (v := .pointer (some ⟨b2, o2 + l.length, none⟩)) (by simp only [List.getElem?_toArray, List.getElem?_cons_zero, List.getElem?_cons_succ] <;> rfl) (by kernel_rfl) (by kernel_rfl) (by kernel_rfl) (by exact fun _ _ _ h => h) (by decide) (.inr ⟨ZC.out, YC.out, XC.out⟩) (Or.inl ⟨by rfl, fun w _ => (by simp [execOp, go_sem, Act.eval, zj])⟩) (fun _ => ?_)
              simp only [Act.put, List.setIfInBounds_toArray, List.set_cons_zero, List.set_cons_succ]
              refine wpAnyL_load2 (i := 6) (v := .int .i64 x) (by simp only [List.getElem?_toArray, List.getElem?_cons_zero, List.getElem?_cons_succ] <;> rfl) (by kernel_rfl) (by kernel_rfl) (by kernel_rfl) (by exact fun _ _ _ h => h) (by decide) (Waits.more (j := 12) rfl ⟨⟨12, .data⟩, by simp, rfl, rfl⟩ (Waits.more (j := 11) rfl ⟨⟨11, .data⟩, by simp, rfl, rfl⟩ (Waits.more (j := 10) rfl ⟨⟨10, .data⟩, by simp, rfl, rfl⟩ (Waits.more (j := 7) rfl ⟨⟨7, .data⟩, by simp, rfl, rfl⟩ (Waits.one rfl ⟨⟨6, .data⟩, by simp, rfl, rfl⟩))))) (by kernel_rfl) (by kernel_rfl) (.inr ⟨ZC.out, YC.out, XC.out⟩) (Or.inl ⟨by rfl, fun w hw => (by obtain ⟨_, _, x2⟩ := hw; simp [execOp, go_sem, Act.eval, x2])⟩) (fun _ => ?_)
              simp only [Act.put, List.setIfInBounds_toArray, List.set_cons_zero, List.set_cons_succ]
              refine wpAnyL_pure (i := 7) (v := .int .u64 (IntKind.u64.wrap x)) (by simp only [List.getElem?_toArray, List.getElem?_cons_zero, List.getElem?_cons_succ] <;> rfl) (by kernel_rfl) (by kernel_rfl) (by kernel_rfl) (by exact fun _ _ _ h => h) (by decide) (.inr ⟨ZC.out, YC.out, XC.out⟩) (Or.inl ⟨by rfl, fun w _ => (by simp [execOp, go_sem, Act.eval])⟩) (fun _ => ?_)
              simp only [Act.put, List.setIfInBounds_toArray, List.set_cons_zero, List.set_cons_succ]
              refine wpAnyL_pure (i := 8) (v := .int .i64 (k : Int)) (by simp only [List.getElem?_toArray, List.getElem?_cons_zero, List.getElem?_cons_succ] <;> rfl) (by kernel_rfl) (by kernel_rfl) (by kernel_rfl) (by exact fun _ _ _ h => h) (by decide) (.inr ⟨ZC.out, YC.out, XC.out⟩) (Or.inl ⟨by rfl, fun w _ => (by simp [execOp, go_sem, Act.eval])⟩) (fun _ => ?_)
              simp only [Act.put, List.setIfInBounds_toArray, List.set_cons_zero, List.set_cons_succ]
              refine wpAnyL_pure (i := 9) (v := .int .u64 (k : Int)) (by simp only [List.getElem?_toArray, List.getElem?_cons_zero, List.getElem?_cons_succ] <;> rfl) (by kernel_rfl) (by kernel_rfl) (by kernel_rfl) (by exact fun _ _ _ h => h) (by decide) (.inr ⟨ZC.out, YC.out, XC.out⟩) (Or.inl ⟨by rfl, fun w _ => (by simp [execOp, go_sem, Act.eval, hwk])⟩) (fun _ => ?_)
              simp only [Act.put, List.setIfInBounds_toArray, List.set_cons_zero, List.set_cons_succ]
              refine wpAnyL_pure (i := 10) (v := .int .u64 ((IntKind.u64.wrap x).tmod (k : Int))) (by simp only [List.getElem?_toArray, List.getElem?_cons_zero, List.getElem?_cons_succ] <;> rfl) (by kernel_rfl) (by kernel_rfl) (by kernel_rfl) (by exact fun _ _ _ h => h) (by decide) (.inr ⟨ZC.out, YC.out, XC.out⟩) (Or.inl ⟨by rfl, fun w _ => (by simp [execOp, go_sem, Act.eval, hk0])⟩) (fun _ => ?_)
              simp only [Act.put, List.setIfInBounds_toArray, List.set_cons_zero, List.set_cons_succ]
              refine wpAnyL_pure (i := 11) (v := .int .i64 q) (by simp only [List.getElem?_toArray, List.getElem?_cons_zero, List.getElem?_cons_succ] <;> rfl) (by kernel_rfl) (by kernel_rfl) (by kernel_rfl) (by exact fun _ _ _ h => h) (by decide) (.inr ⟨ZC.out, YC.out, XC.out⟩) (Or.inl ⟨by rfl, fun w _ => (by simp [execOp, go_sem, Act.eval, hq])⟩) (fun _ => ?_)
              simp only [Act.put, List.setIfInBounds_toArray, List.set_cons_zero, List.set_cons_succ]
              have hbA : Below wr.drew.heap.size wr.drew (wr.drew.alloc (.cells #[.int .i64 q] 3)) := (Below.refl _ wr.drew).alloc (Nat.le_refl _) _
              have ha_0 := hid ((hbA.cell (cell_lt ZC.out)).trans ZC.out)
              have ha_1 := hid ((hbA.cell (cell_lt YC.out)).trans YC.out)
              have ha_2 := hid ((hbA.cell (cell_lt XC.out)).trans XC.out)
              refine wpAnyL_one (i := 12) (by kernel_rfl) (by simp only [List.getElem?_toArray, List.getElem?_cons_zero, List.getElem?_cons_succ] <;> rfl) (by rfl) ?_
              refine opwp_value (v := .slice (some ⟨wr.heap.size, 0, none⟩) 1 1) (w' := wr.drew.alloc (.cells #[.int .i64 q] 3)) (by simp [execOp, go_sem, Act.eval]) ⟨.inr ⟨ha_0.out, ha_1.out, ha_2.out⟩, ?_⟩
              simp only [Act.put, List.setIfInBounds_toArray, List.set_cons_zero, List.set_cons_succ]
              have HFA := hid (HFZ.out.below (w' := wr.drew.alloc (.cells #[.int .i64 q] 3)) ((Below.refl _ wr).drew.trans hbA))
              have HON := hid (one_int wr.drew q 3)
              refine wpAnyL_one (i := 13) (by kernel_rfl) (by simp only [List.getElem?_toArray, List.getElem?_cons_zero, List.getElem?_cons_succ] <;> rfl) (by rfl) ?_
              refine opwp_append_I _ _ rfl w.heap.size _ l rfl HFA.out.own _ [q] rfl HON.out (by show l.length + 1 ≤ _; omega) HFA.out.bel.size ?_
              intro v9 w9 hown9 hg9 hloc9
              refine ⟨.inl (by kernel_rfl), ?_⟩
              simp only [Act.put, List.setIfInBounds_toArray, List.set_cons_zero, List.set_cons_succ]
              obtain ⟨z9, HF9⟩ := HFA.out.push hown9 hg9 hloc9
              obtain ⟨_, _, y4⟩ := z9.cells
              have f4 := z9.free2
              refine wpAnyL_pure (i := 14) (v := .pointer (some ⟨wo.heap.size + 1, 2, none⟩)) (by simp only [List.getElem?_toArray, List.getElem?_cons_zero, List.getElem?_cons_succ] <;> rfl) (by kernel_rfl) (by kernel_rfl) (by kernel_rfl) (by exact fun _ _ _ h => h) (by decide) (.inl (by kernel_rfl)) (Or.inl ⟨by rfl, fun w _ => (by simp [execOp, go_sem, Act.eval])⟩) (fun _ => ?_)
              simp only [Act.put, List.setIfInBounds_toArray, List.set_cons_zero, List.set_cons_succ]
              obtain ⟨p9, c9, e9, hd9⟩ := hown9.ints
              rw [show (l ++ [q]).length = l.length + 1 from by simp] at e9
              subst e9
              clear hd9
              refine wpAnyL_one (i := 15) (by kernel_rfl) (by simp only [List.getElem?_toArray, List.getElem?_cons_zero, List.getElem?_cons_succ] <;> rfl) (by rfl) ?_
              refine opwp_skip (w' := (w9.setCell ⟨wo.heap.size + 1, 2, none⟩ (.slice p9 (l.length + 1) c9))) (by simp [execOp, go_sem, Act.eval, y4, f4]) ⟨.inl (by kernel_rfl), ?_⟩
              simp only [Act.put]
              refine wpAnyL_done (by kernel_rfl) ?_ _
              have HF9' := hid HF9
              have hb8 := (Below.refl wr.heap.size wr).drew.trans hbA
              have HI9 := hid (((HXI.out.trans (hb8.mono HXI.out.size)).grown hg9 (Nat.le_trans HXI.out.size hb8.size) (fun i e => HFZ.out.new i e)).setCell (p := ⟨wo.heap.size + 1, 2, none⟩) (Nat.le_succ _) (.slice p9 (l.length + 1) c9))
              clear HF9 hb8 hown9 hg9 hloc9 z9 y4 f4 hbA ha_0 ha_1 ha_2 HON HFA ZC YC XC hq hq' hwk
              go_wp2_with fail
              go_roundw
              case rel => exact ⟨l.length + 1, by omega, by omega, by go_num, _, _, HF9'.out, by simp, fun y hy => by
                rcases List.mem_append.1 hy with h | h
                · exact HRG.out y h
                · rw [List.mem_singleton] at h; subst h; exact ⟨HQ1.out, HQ2.out⟩, fun _ => a4, HI9.out⟩
              case measure => simp [intOf]; omega
            all_goals
              have x0 := HFZ.out.bx.cells
              obtain ⟨x0, x1, x2, x3⟩ := x0
              obtain ⟨pO, cO, rfl, _⟩ := HFZ.out.nodes.nodes
              have lnb := HFZ.out.bx.lt
              have hal : Below wr.heap.size wr (wr.alloc (.cells #[.int .i64 (r), .int .i64 (0), .slice pv l.length cv] 39)) := (Below.refl _ wr).alloc (Nat.le_refl _) _
              have HFA := hid (HFZ.out.below hal)
              have hbs : w.heap.size ≤ (wr.alloc (.cells #[.int .i64 (r), .int .i64 (0), .slice pv l.length cv] 39)).heap.size := Nat.le_trans HFZ.out.bel.size hal.size
              have HFM := hid (few_form (n := n) h8 (out := out) (r := (r)) (lt := (0)) (l := l) G4.out (by omega) (by omega) H2Z.out (by rw [G3.out]; exact HRG.out) HR3.out)
              have hlj : l.length ≤ 16777216 := by omega
              have hol : out.length ≤ 1000000 := by rw [G3.out]; omega
              have HNB := hid (heap_alloc_new wr (.cells #[.int .i64 (r), .int .i64 (0), .slice pv l.length cv] 39))
              clear hal
              go_wp2_with (at_builtin; go_loud (refine wpList_append_N rfl _ _ rfl w.heap.size _ out vs rfl HFA.out.nodes ⟨(r), (0), l⟩ _ HFA.out.own hlj wr.heap.size 1 39 rfl HNB.out hol hbs ?_; intro v9 w9 hown9 hg9 hv9; have hf9 := few_out HFA.out (by omega) (by omega) hg9 hown9 G3.out HFM.out G5.out (by omega); have HF9 := hid hf9.2; obtain ⟨_, y4, _, f4⟩ := hf9.1.cells; clear hf9 hown9 hg9; obtain ⟨g9, c9, e9, _⟩ := hv9; subst e9))
              go_roundw
              case rel => exact ⟨k + 1, by omega, by omega, by go_num, HF9.out⟩
              case measure => simp [intOf]; omega
    · obtain rfl : k = L.length := by omega
      by_cases hl0 : 0 < L.length
      · obtain ⟨x0, x1, x2, x3⟩ := G1.out.cells
        obtain ⟨y0, y1, y2, y3⟩ := G6.out.cells
        have lnb := G1.out.lt
        have lrb := G6.out.lt
        obtain ⟨pO, cO, rfl, _⟩ := G2.out.nodes
        have hpos : ((out.length : Int) == 0) = false := by have := G3.out; simp; intro e; subst e; simp at this; omega
        go_wp2_with fail
        refine bodyPost_ret (results_netN rfl rfl (G6.out.set01 _ _)) rfl ?_
        exact ⟨_, out, vs, rfl, few_valid h1 h8 (by have := G3.out; omega) (by have := G3.out; omega) G4.out, by have := G3.out; omega, G5.out, few_own G2.out G6.out, below_01 G7.out (Nat.le_succ _) _ _⟩
      · obtain ⟨x0, x1, x2, x3⟩ := G1.out.cells
        obtain ⟨y0, y1, y2, y3⟩ := G6.out.cells
        have lnb := G1.out.lt
        have lrb := G6.out.lt
        obtain ⟨pO, cO, rfl, _⟩ := G2.out.nodes
        have hpos : ((out.length : Int) == 0) = true := by have := G3.out; simp; exact List.eq_nil_of_length_eq_zero (by omega)
        have hal : Below wr.heap.size wr (wr.alloc (.cells #[.int .i64 1, .int .i64 0, .slice none 0 0] 39)) := (Below.refl _ wr).alloc (Nat.le_refl _) _
        have HG6 := hid (G6.out.below hal G6.out.lt)
        have HG1 := hid (G1.out.below hal G1.out.lt)
        have HO1 := hid (own_oneN wr G7.out.size 1 0)
        have HB1 := hid (G7.out.trans (hal.mono G7.out.size))
        clear hal HG6 HG1 HO1 HB1
        go_wp2_with fail
        have hsz : (((wr.setCell ⟨w.heap.size + 1 + 1, 1, none⟩ (.slice (some ⟨wr.heap.size, 0, none⟩) 1 1)).setCell ⟨w.heap.size + 1, 0, none⟩ (.int .i64 n)).setCell ⟨w.heap.size + 1, 1, none⟩ (.slice (some ⟨wr.heap.size, 0, none⟩) 1 1)).heap.size = wr.heap.size := by simp [World.setCell]
        have ho := own_oneN (((wr.setCell ⟨w.heap.size + 1 + 1, 1, none⟩ (.slice (some ⟨wr.heap.size, 0, none⟩) 1 1)).setCell ⟨w.heap.size + 1, 0, none⟩ (.int .i64 n)).setCell ⟨w.heap.size + 1, 1, none⟩ (.slice (some ⟨wr.heap.size, 0, none⟩) 1 1)) (B := w.heap.size) (by rw [hsz]; exact G7.out.size) 1 0
        rw [hsz] at ho
        refine bodyPost_ret (results_netN rfl rfl (((G6.out.other (by simp) _).set01 _ _).alloc _)) rfl ?_
        exact ⟨_, _, _, rfl, few_valid h1 h8 (by simp) (by simp) (one_form n), by simp, by simp, ho, (below_01 (G7.out.setCell (p := ⟨w.heap.size + 1 + 1, 1, none⟩) (by show w.heap.size ≤ w.heap.size + 1 + 1; omega) _) (Nat.le_succ _) _ _).alloc (by rw [hsz]; exact G7.out.size) _⟩
end Go.Proofs.YtpdbfbjfodckgaaDoor
