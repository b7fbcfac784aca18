/- Proved: the law GraphGraphs: primal graphs are valid, orders have each variable once.
   Condition: none on the arguments; the table of math/bits is as its initialiser lays it, tied by the card. -/
import Derived.Test.YthgkklahiclcpaaDoorSGraphsW
import Derived.Test.YthgkklahiclcpaaDoorSArgs
import Derived.Test.YthgkklahiclcpaaDoorFrame
import Derived.Test.YthgkklahiclcpaaDoorCards
namespace Go.Proofs.YthgkklahiclcpaaDoor
open Go.ChangeShapes Go.WideShapes Go.ChangeAt Go.WideMaps Go.WideElems Go.RowKit

section
open Go.Joins Go.Deep
theorem lits_of {H : Type} {enc : TypeId × Value → H} {W : World} {base fuel : Nat} {sp : Nat → Bool} {held : Bool} {u : Value} {x : DataW H × List MemPlace}
    (hf : DataW.trod enc Tryd.prog W base sp held fuel 25 [u] = some x) : ∃ l : List Int, IntsAt W u l ∧ l.length ≤ 9223372036854775807 := by
  rcases open_ints Tryd.underlying25 Tryd.underlying3 (by kernel_rfl) hf with ⟨hcs, _⟩ | ⟨x, len, cap, zs, hcs, _, hl, hm, hz, _, hcell, _⟩
  · obtain rfl : u = .slice none 0 0 := by simpa using hcs
    exact ⟨[], ⟨none, 0, rfl, .inl rfl⟩, by simp⟩
  · obtain rfl : u = .slice (some x) len cap := by simpa using hcs
    have hlz : len ≤ zs.length := by rw [hz]; split <;> omega
    have hbl : (zs.take len).length = len := by simp; omega
    refine ⟨zs.take len, ⟨some x, cap, by rw [hbl], ?_⟩, by rw [hbl]; unfold maxLen at hm; omega⟩
    by_cases h0 : zs.take len = []
    · exact .inl h0
    · right
      have hpos : 0 < len := by rw [← hbl]; exact List.length_pos_iff.2 h0
      obtain ⟨b, off, rfl⟩ := addr_plain (hcell 0 (by omega))
      refine ⟨b, off, rfl, fun i hi => ?_⟩
      rw [hbl] at hi
      have h1 := hcell i (by omega)
      rw [Addr.add_lit] at h1
      rw [h1, List.getElem?_take, if_pos hi, List.getElem?_eq_getElem (by omega), Option.getD_some, List.getD_eq_getElem?_getD, List.getElem?_eq_getElem (by omega), Option.getD_some]
theorem open_theory {H : Type} {enc : TypeId × Value → H} {W : World} {b0 base : Nat} {r : Reach} {sp : Nat → Bool} {held : Bool} {v : Value} {d : DataW H} {ps : List MemPlace}
    (hv : Value.okWide Tryd.prog W r b0 48 v) (hd : DataW.Trod enc Tryd.prog W base sp held 48 v d ps) :
    ∃ (n : Int) (L : List (List Int)) (u : Value), v = .agg #[.int .i64 n, u] ∧ LitsAt W u L ∧ L.length ≤ 9223372036854775807 ∧ ∀ c ∈ L, c.length ≤ 9223372036854775807 := by
  obtain ⟨v0, v1, y0, y1, m, rfl, _, _, h0, h1⟩ := open_agg2 Tryd.underlying48 (by kernel_rfl) (by kernel_rfl) hv hd
  obtain ⟨n, e0, _, _⟩ := DataW.trod_int Tryd.underlying3 (show DataW.trod _ _ _ _ _ _ _ 3 _ = some y0 from h0)
  obtain rfl : v0 = .int .i64 n := by simpa using e0
  rcases open_slice Tryd.underlying46 (show DataW.trod _ _ _ _ _ _ _ 46 _ = some y1 from h1) with ⟨hcs, _⟩ | ⟨a, len, cap, mm, nn, D, Pl, hcs, _, hl, hm, hmm, _, hi⟩
  · obtain rfl : v1 = .slice none 0 0 := by simpa using hcs
    exact ⟨n, [], _, rfl, ⟨none, 0, rfl, .inl rfl⟩, by simp, by simp⟩
  · obtain rfl : v1 = .slice (some a) len cap := by simpa using hcs
    have hlm : len ≤ mm := by rw [hmm]; split <;> omega
    have hc1 : Tryd.prog.cellsOf 25 = 1 := by kernel_rfl
    have key : ∀ i, i < len → ∃ l : List Int, ∃ u, W.cell? (a.add i) = some u ∧ IntsAt W u l ∧ l.length ≤ 9223372036854775807 := by
      intro i hi'
      obtain ⟨cs', hc, ht⟩ := hi i (by omega)
      rw [hc1, Nat.mul_one] at hc
      obtain ⟨_, hcl, hat⟩ := World.cells?_some hc
      match cs', hcl with
      | [u], _ =>
        have h0 := hat 0 (by decide)
        obtain ⟨l, hl1, hl2⟩ := lits_of ht
        rw [Go.Deep.add_add] at h0
        exact ⟨l, u, by simpa using h0, hl1, hl2⟩
    obtain ⟨L, hL, hP⟩ := exists_list len key
    refine ⟨n, L, _, rfl, ⟨some a, cap, by rw [hL], ?_⟩, by rw [hL]; unfold maxLen at hm; omega, fun c hc => ?_⟩
    · by_cases h0 : L = []
      · exact .inl h0
      · right
        have hpos : 0 < L.length := List.length_pos_iff.2 h0
        obtain ⟨u, q0, _⟩ := hP 0 hpos
        obtain ⟨b, off, rfl⟩ := addr_plain (show W.cell? (a.add 0) = _ from q0)
        refine ⟨b, off, rfl, fun i hi => ?_⟩
        obtain ⟨u, q0, q1, _⟩ := hP i hi
        rw [Addr.add_lit] at q0
        exact ⟨u, q0, q1⟩
    · obtain ⟨i, hi, rfl⟩ := List.getElem_of_mem hc
      obtain ⟨u, _, _, q2⟩ := hP i hi
      exact q2
end

set_option maxRecDepth 100000 in
theorem graphGraphs_lifted (os : Os) (started : os.Started) (H : Type) (enc : TypeId × Value → H) :
    ReturnsInHanded {} Tryd.checked os 11 .any (fun w args => (Rows.graphGraphsSpec.pre enc Tryd.prog Tryd.f11 [] false w args ∧ laidMetH Tryd.prog [("math/bits.deBruijn64tab", Rows.laid_math_bits_deBruijn64tab)] w) ∧ sizedMet enc Tryd.prog Tryd.f11 (OpenSpec.ofChange Rows.graphGraphsSpec) false w args)
      (Rows.graphGraphsSpec.post enc Tryd.prog Tryd.f11 false true false false) := by
  refine returnsInHanded_of_change_and (C := Tryd.checked) (X := fun w _ => laidMetH Tryd.prog [("math/bits.deBruijn64tab", Rows.laid_math_bits_deBruijn64tab)] w) (fun _ _ _ hh h => h.of_heap hh) own started (by kernel_rfl) Tryd.func11
    (ChangeSpec.witness_shaped (enc := enc) (C := Tryd.checked) (os := os) (X := fun w _ => laidMetH Tryd.prog [("math/bits.deBruijn64tab", Rows.laid_math_bits_deBruijn64tab)] w) false (World.doorLaid Tryd.prog 400 os) #[.agg #[.int .i64 0, .slice none 0 0]] 8 rfl (World.shaped_of_RefB (by kernel_rfl) (by kernel_rfl)) (by kernel_rfl) (by kernel_rfl) (by kernel_rfl) (door_met os _)) ?_
  intro W base args ds gs before hval0 hW _ _ hL _
  have hval : ∀ (j : Nat) t v, Tryd.f11.params[j]? = some t → args[j]? = some v → Value.okWide Tryd.prog W .any base t v := hval0
  have hW' := hW
  obtain ⟨p, q, hA0, hV, rfl, hfz, hnd⟩ := hW
  have hA : DataW.TrodAll enc Tryd.prog W 0 (fun _ => true) true Tryd.f11.params.toList args.toList ds p := hA0
  rw [Tryd.params11] at hA hval
  obtain ⟨v0, vs0, d0, ds0, p0, q0, hargs, rfl, rfl, h0, r0⟩ := trodAll_cons hA
  obtain ⟨rfl, rfl, rfl⟩ := trodAll_nil r0
  obtain rfl : args = #[v0] := by cases args; simp_all
  have k0 := h0
  have lt0 : ∀ x ∈ p0, x.block < W.heap.size := by obtain ⟨m, hm⟩ := k0; exact DataW.trod_lt m _ _ _ hm
  obtain ⟨rfl, rfl⟩ := trodVars_none hV
  obtain ⟨n0, L0, u0, rfl, it0, ln0⟩ := open_theory (hval 0 48 v0 rfl rfl) k0
  have hT := of_laid hL
  clear hA0 hval0 hL
  simp only [List.append_nil] at hW'
  refine (graphGraphs_walk n0 L0 u0 W hT it0 ln0).mono fun e W' ⟨he, bel⟩ => ?_
  subst he
  exact ⟨_, rfl, _, _, _, [], _, [], hW', trodAll_mk1 (shut_bool Tryd.underlying4 _), (trodAll_cons_mk (Below.trod laidOut (by kernel_rfl) (of_decide_eq_true (by kernel_rfl)) k0 bel lt0) trodAll_mk0), rfl, bel.frame _, fun h => by cases h⟩
theorem graphGraphs_holds : Rows.GraphGraphsSaid :=
  OpenClaim.holds_of_wide 11 Tryd.f11 rfl rfl rfl rfl rfl rfl rfl ⟨rfl, rfl, rfl, rfl, rfl⟩ rfl rfl rfl rfl rfl (by kernel_rfl) Tryd.func11 (by kernel_rfl)
    (of_decide_eq_true (by kernel_rfl)) (by unfold Func.isWrapper; rw [if_neg (of_decide_eq_false (by kernel_rfl))]; exact ⟨rfl, rfl⟩)
    (fun os started H enc _ => graphGraphs_lifted os started H enc)
/-- THE CARD. -/
theorem graphGraphs_card : Rows.GraphGraphsCardSaid :=
  Claim7.holds_tied_plain_at .later [] [.data] true Rows.graphGraphsCard.stood.harness false
    graphGraphs_holds (fun _ h => by cases h) (by kernel_rfl) (fun _ h => by cases h) graphGraphs_row_tie rfl ⟨rfl, rfl⟩ (by kernel_rfl) rfl
    (fun f fn hf hfn => by
      obtain rfl : f = 11 := Option.some.inj ((show Tryd.prog.funcNamed "census/censuslaw18.GraphGraphs" = some 11 by kernel_rfl).symm.trans hf) |>.symm
      obtain rfl : fn = Tryd.f11 := (Option.some.inj (Tryd.func11.symm.trans hfn)).symm
      exact ⟨by kernel_rfl, fun j t ht => by
        rw [Tryd.params11] at ht
        have hm : t ∈ [48] := by simpa using Array.mem_of_getElem? ht
        have hall : ([48].all fun u => !Tryd.prog.wantsStandIn u) = true := by kernel_rfl
        exact (show Tryd.prog.wantsStandIn t = false by simpa using List.all_eq_true.1 hall t hm)⟩)
    (by kernel_rfl)
#print axioms graphGraphs_card
end Go.Proofs.YthgkklahiclcpaaDoor
