/- Proved: the law VarsBack of the layer vars: Of what List returns is the set, and List of what Of returns has the variables of the list, ascending, each once, at every set and every list of at most 1000 numbers; the examples hold. Condition: the table of math/bits is as its initialiser lays it, tied by the card. -/
import Derived.Test.YthckmpdnkinmlaaDoorLawA
import Derived.Test.YthckmpdnkinmlaaDoorArgs
import Derived.Test.YthckmpdnkinmlaaDoorStep
import Derived.Deep.RegionHeld3
import Derived.Test.YthckmpdnkinmlaaDoorFrame
import Derived.Test.YthckmpdnkinmlaaDoorCards
namespace Go.Proofs.YthckmpdnkinmlaaDoor
open Go.ChangeShapes Go.WideShapes Go.ChangeAt Go.WideMaps Go.WideElems Go.RowKit
attribute [local go_sem ↓] run_eqlS run_neqS

/-- Cells of the call's own, that may be written. -/
def Room (w : World) (p : Option Addr) (n B : Nat) : Prop :=
  n = 0 ∨ ∃ g off cur T, p = some ⟨g, off, none⟩ ∧ B ≤ g ∧ w.heap[g]? = some (.cells cur T (0, 0)) ∧ off + n ≤ cur.size
theorem Room.below {w w' : World} {p : Option Addr} {n B : Nat} (h : Room w p n B) (hb : Below w.heap.size w w') : Room w' p n B := by
  rcases h with h | ⟨g, off, cur, T, rfl, h1, h2, h3⟩
  · exact .inl h
  · exact .inr ⟨g, off, cur, T, rfl, h1, (hb.block g (Array.getElem?_eq_some_iff.1 h2).1).trans h2, h3⟩
theorem NewInts.room {w : World} {B c : Nat} {p : Option Addr} {l : List Int} (h : NewInts w B (.slice p l.length c) l) : Room w p l.length B := by
  obtain ⟨⟨h0, h1 | ⟨g, cap, cur, e, hB, hg, hn, hm, hs, ht⟩⟩, _⟩ := h
  · exact .inl h1.2
  · cases e
    exact .inr ⟨g, 0, cur, _, rfl, hB, hg, by omega⟩
theorem Room.set {w : World} {g off n B k : Nat} (h : Room w (some ⟨g, off, none⟩) n B) (v : Value) : Room (w.setCell ⟨g, off + k, none⟩ v) (some ⟨g, off, none⟩) n B := by
  rcases h with h | ⟨g', off', cur, T, e, h1, h2, h3⟩
  · exact .inl h
  · cases e
    refine .inr ⟨g, off, cur.setIfInBounds (off + k) v, T, rfl, h1, by simp [World.setCell, Array.getElem?_modify, h2], by simpa using h3⟩
theorem take_snoc_mem (l : List Int) (j : Nat) (h : j < l.length) (x : Int) : decide (x ∈ l.take (j + 1)) = (decide (x ∈ l.take j) || (x == l[j])) := by
  rw [List.take_succ_eq_append_getElem h, Bool.eq_iff_iff, decide_eq_true_eq, List.mem_append, List.mem_singleton]; simp only [Bool.or_eq_true, decide_eq_true_eq, beq_iff_eq]
theorem mem_back (l : List Int) (x : Int) (h : x ∈ l) : decide (x ∈ mems (ofL l)) = (decide (1 ≤ x) && decide (x ≤ 128)) := by
  rw [Bool.eq_iff_iff, decide_eq_true_eq, mem_mems, has_ofL]; simp [h]
set_option maxRecDepth 100000 in
set_option maxHeartbeats 4000000 in
theorem varsBack_walk0 (s : VS) (v : Value) (l : List Int) (w : World) (hl : ArgInts w v l) (hT : TabAt w) :
    Calls Tryd.prog 11 #[encS s, v] w fun e w' => e = .returned (.bool true) ∧ Below w.heap.size w w' := by
  have HI := hid hl.ints
  clear hl
  obtain ⟨p, c, hv⟩ : ∃ p c, v = .slice p l.length c := by obtain ⟨p, c, h, _⟩ := HI.out; exact ⟨p, c, h⟩
  subst hv
  by_cases h1000 : l.length ≤ 1000
  · have hgt : ¬ (1000 : Int) < (l.length : Int) := by omega
    have hB : Below w.heap.size w (w.alloc (.cells #[.int .u64 ((lw s).toNat : Int), .int .u64 ((hw s).toNat : Int)] 26)) := (Below.refl _ w).alloc (Nat.le_refl _) _
    have ss : SetVar (w.alloc (.cells #[.int .u64 ((lw s).toNat : Int), .int .u64 ((hw s).toNat : Int)] 26)) w.heap.size s := SetVar.new w s _
    have e1 : (ofL (mems s) == s) = true := by rw [ofL_mems]; simp
    have e2 : ((((mems s).length : Nat) : Int) != len s) = false := by unfold len; simp
    have hml := mems_length s
    have hml2 := mems_length (ofL l)
    go_enter Tryd.func11, Tryd.ntmps11
    go_wp2_with fail
    refine (List_c s _ (hT.below hT.lt hB)).mono ?_; rintro e w1 ⟨vx, rfl, nx, hb⟩
    replace hB := hB.trans (hb.mono hB.size)
    replace ss := ss.below hb ss.lt
    clear hb
    obtain ⟨px, cx, hvx⟩ : ∃ px cx, vx = .slice px (mems s).length cx := by obtain ⟨p, c, h, _⟩ := nx.ints; exact ⟨p, c, h⟩
    subst hvx
    obtain ⟨z0, z1, _, _⟩ := ss.cells
    have ls := ss.lt
    have IX := hid nx.ints
    have RX := hid (nx.room)
    clear nx
    go_wp2_with fail
    refine wp_region_pure (by kernel_rfl) (by kernel_rfl) ?_
    repeat (go_big_quiet_step ((first
      | (go_at_call 14; exact Calls.ext_of (Of_c _ (mems s) _ (IX.out.below (ext_below _ _)) (by omega)))
      | (go_at_call 35; exact Calls.ext_of (Len_c _ _)))))
    refine wpQuiet_nil ?_
    intro w2 hb
    replace hB := hB.trans (hb.mono hB.size)
    have RX2 := hid (RX.out.below hb)
    clear hb z0 z1 ls ss IX RX
    go_wp2_with fail
    go_loopw [33] (fun i wr => ∃ k : Nat, k ≤ (mems s).length ∧ i = .int .i64 k ∧ Below w.heap.size w wr ∧ Room wr px (mems s).length w.heap.size) (fun i _ => (mems s).length - (intOf i).toNat)
    case atStart => exact ⟨0, Nat.zero_le _, rfl, hB, by
      rcases RX2.out with h | ⟨g, off, cur, T, h0, h1, h2, h3⟩
      · exact .inl h
      · exact .inr ⟨g, off, cur, T, h0, by simp at h1; omega, h2, h3⟩⟩
    case round =>
      clear RX2 hB
      obtain ⟨k, hk, rfl, hB, hR⟩ := hrel
      by_cases hlt : k < (mems s).length
      · obtain ⟨g, off, cur, T, rfl, h1, h2, h3⟩ := hR.resolve_left (by omega)
        have HR := hid (hR.set (k := k) (.int .i64 0))
        have hc : wr.cell? ⟨g, off + k, none⟩ = some (cur[off + k]'(by omega)) := by simp [World.cell?, h2]
        have hf : wr.frozen? ⟨g, off + k, none⟩ = false := by simp [World.frozen?, h2]
        clear hR h2
        go_wp2
        go_roundw
        case rel => exact ⟨k + 1, by omega, by go_num, hB.setCell h1 _, HR.out⟩
        case measure => simp [intOf]; omega
      · obtain rfl : k = (mems s).length := by omega
        clear hR
        have hTr := hT.below hT.lt hB
        go_wp2_with fail
        refine (Of_c _ l _ (HI.out.below hB) (by omega)).mono ?_; rintro e w3 ⟨rfl, hb⟩
        replace hB := hB.trans (hb.mono hB.size)
        replace hTr := hTr.below hTr.lt hb
        clear hb
        go_wp2_with fail
        refine (List_c (ofL l) _ hTr).mono ?_; rintro e w4 ⟨vy, rfl, ny, hb⟩
        replace hB := hB.trans (hb.mono hB.size)
        replace hTr := hTr.below hTr.lt hb
        clear hb
        obtain ⟨py, cy, rfl, hy⟩ := ny.ints
        have HY := hid hy
        clear ny hy
        go_wp2_with fail
        go_loopw [45] (fun i wr => ∃ k : Nat, k ≤ (mems (ofL l)).length ∧ i = .int .i64 k ∧ Below w4.heap.size w4 wr) (fun i _ => (mems (ofL l)).length - (intOf i).toNat)
        case atStart => exact ⟨0, Nat.zero_le _, rfl, Below.refl _ _⟩
        case round =>
          obtain ⟨k, hk, rfl, hB4⟩ := hrel
          by_cases hlt : k < (mems (ofL l)).length
          · cases k with
            | zero =>
              go_wp2_with fail
              go_quiet (fail)
              go_wp2_with fail
              go_roundw
              case rel => exact ⟨1, by omega, by go_num, below_drewN hB4 _⟩
              case measure => simp [intOf]; omega
            | succ j =>
              obtain ⟨b, off, rfl, hy⟩ := HY.out.resolve_left (by intro e; rw [e] at hlt; simp at hlt)
              have h1 := hy j (by omega)
              have h2 := hy (j + 1) hlt
              have d1 := (hB4.cell (p := ⟨b, off + j, none⟩) (cell_lt h1)).trans h1
              have d2 := (hB4.cell (p := ⟨b, off + (j + 1), none⟩) (cell_lt h2)).trans h2
              have hs := List.pairwise_iff_getElem.1 (mems_sorted (ofL l)) j (j + 1) (by omega) hlt (by omega)
              have x1 : (mems (ofL l))[j]?.getD 0 = (mems (ofL l))[j] := by simp [show j < (mems (ofL l)).length by omega]
              have x2 : (mems (ofL l))[j + 1]?.getD 0 = (mems (ofL l))[j + 1] := by simp [hlt]
              rw [x1] at d1
              rw [x2] at d2
              clear hy h1 h2 x1 x2
              generalize (mems (ofL l))[j] = a at *
              generalize (mems (ofL l))[j + 1] = b2 at *
              have q1 : (0 : Int) ≤ (j : Int) := by omega
              have q2 : (j : Int) < ((mems (ofL l)).length : Int) := by omega
              have q3 : (j : Int) + 1 < ((mems (ofL l)).length : Int) := by omega
              go_wp2_with fail
              go_quiet (fail)
              go_wp2_with fail
              go_roundw
              case rel => exact ⟨j + 1 + 1, by omega, by go_num, below_drewN hB4 _⟩
              case measure => simp [intOf]; omega
          · have hB5 := hB.trans (hB4.mono hB.size)
            have hT5 := hTr.below hTr.lt hB4
            have HI5 := hid (HI.out.below hB5)
            have HY5 : Hid (mems (ofL l) = [] ∨ ∃ b off, py = some ⟨b, off, none⟩ ∧ ∀ i, i < (mems (ofL l)).length → wr.cell? ⟨b, off + i, none⟩ = some (.int .i64 ((mems (ofL l))[i]?.getD 0))) := by
              rcases HY.out with h | ⟨b, off, rfl, h⟩
              · exact .inl h
              · exact .inr ⟨b, off, rfl, fun i hi => (hB4.cell (p := ⟨b, off + i, none⟩) (cell_lt (h i hi))).trans (h i hi)⟩
            clear hB hTr HY hB4
            go_wp2_with fail
            go_loop [65] (fun i => ∃ k : Nat, k ≤ l.length ∧ i = .int .i64 k) (fun i => l.length - (intOf i).toNat)
            case atStart => exact ⟨0, Nat.zero_le _, rfl⟩
            case round =>
              obtain ⟨k, hk, rfl⟩ := hrel
              by_cases hlt : k < l.length
              · obtain ⟨p1, c1, ep, h0⟩ := HI5.out
                cases ep
                obtain ⟨b, off, rfl, h⟩ := h0.resolve_left (by intro e; rw [e] at hlt; simp at hlt)
                have d1 := h k hlt
                have x1 : l[k]?.getD 0 = l[k] := by simp [hlt]
                rw [x1] at d1
                have HM := hid (mem_back l l[k] (List.getElem_mem hlt))
                clear h h0 x1
                generalize l[k] = x at *
                go_wp2_with fail
                go_loop [11, 71] (fun i j => ∃ m : Nat, m ≤ (mems (ofL l)).length ∧ j = .int .i64 m ∧ i = .bool (decide (x ∈ (mems (ofL l)).take m))) (fun _ j => (mems (ofL l)).length - (intOf j).toNat)
                case atStart => exact ⟨0, Nat.zero_le _, rfl, by simp⟩
                case round =>
                  obtain ⟨m, hm, rfl, rfl⟩ := hrel
                  by_cases hlt2 : m < (mems (ofL l)).length
                  · obtain ⟨b3, off3, rfl, h⟩ := HY5.out.resolve_left (by intro e; rw [e] at hlt2; simp at hlt2)
                    have d2 := h m hlt2
                    have x2 : (mems (ofL l))[m]?.getD 0 = (mems (ofL l))[m] := by simp [hlt2]
                    rw [x2] at d2
                    have HS := hid (take_snoc_mem (mems (ofL l)) m hlt2 x)
                    clear h x2
                    generalize (mems (ofL l))[m] = y at *
                    generalize hd : decide (x ∈ (mems (ofL l)).take m) = d at *
                    have HD := hid hd
                    clear hd
                    cases d
                    all_goals
                      cases hxy : (x == y)
                      all_goals
                        go_wp2_with fail
                        go_round
                        case rel => exact ⟨m + 1, by omega, by go_num, by rw [HS.out, hxy]; rfl⟩
                        case measure => simp [intOf]; omega
                  · obtain rfl : m = (mems (ofL l)).length := by omega
                    rw [List.take_length, HM.out]
                    by_cases g1 : 1 ≤ x
                    · by_cases g2 : x ≤ 128
                      all_goals
                        go_wp2_with fail
                        go_round
                        case rel => exact ⟨k + 1, by omega, by go_num⟩
                        case measure => simp [intOf]; omega
                    · go_wp2_with fail
                      go_round
                      case rel => exact ⟨k + 1, by omega, by go_num⟩
                      case measure => simp [intOf]; omega
              · obtain rfl : k = l.length := by omega
                go_wp2_with fail
                refine (works_c _ hT5).mono ?_; rintro e w6 ⟨rfl, hb6⟩
                go_wp2_with fail
                go_ret
                exact ⟨rfl, hB5.trans (hb6.mono hB5.size)⟩
  · have hgt : (1000 : Int) < (l.length : Int) := by omega
    have hB : Below w.heap.size w (w.alloc (.cells #[.int .u64 ((lw s).toNat : Int), .int .u64 ((hw s).toNat : Int)] 26)) := (Below.refl _ w).alloc (Nat.le_refl _) _
    go_enter Tryd.func11, Tryd.ntmps11
    go_wp2_with fail
    refine (works_c _ (hT.below hT.lt hB)).mono ?_; rintro e w1 ⟨rfl, hb1⟩
    go_wp2_with fail
    go_ret
    exact ⟨rfl, hB.trans (hb1.mono (by simp))⟩
theorem varsBack_walk (s : VS) (v : Value) (l : List Int) {w0 : World} (hl : ArgInts w0 v l) (_hn : ∀ n ∈ l, -9223372036854775808 ≤ n ∧ n ≤ 9223372036854775807) (w : World) (hT : TabAt w) (e : w0 = w := by rfl) :
    Calls Tryd.prog 11 #[encS s, v] w fun e w' => e = .returned (.bool true) ∧ Below w.heap.size w w' := by
  subst e; exact varsBack_walk0 s v l w0 hl hT

set_option maxRecDepth 100000 in
theorem varsBack_lifted (os : Os) (started : os.Started) (H : Type) (enc : TypeId × Value → H) :
    ReturnsInHanded {} Tryd.checked os 11 .any (fun w args => (Rows.varsBackSpec.pre enc Tryd.prog Tryd.f11 [] false w args ∧ laidMetH Tryd.prog [("math/bits.deBruijn64tab", Rows.laid_math_bits_deBruijn64tab)] w) ∧ sizedMet enc Tryd.prog Tryd.f11 (OpenSpec.ofChange Rows.varsBackSpec) false w args)
      (Rows.varsBackSpec.post enc Tryd.prog Tryd.f11 false true false false) := by
  refine returnsInHanded_of_change_and (C := Tryd.checked) (X := fun w _ => laidMetH Tryd.prog [("math/bits.deBruijn64tab", Rows.laid_math_bits_deBruijn64tab)] w) (fun _ _ _ hh h => h.of_heap hh) own started (by kernel_rfl) Tryd.func11
    (ChangeSpec.witness_shaped (enc := enc) (C := Tryd.checked) (os := os) (X := fun w _ => laidMetH Tryd.prog [("math/bits.deBruijn64tab", Rows.laid_math_bits_deBruijn64tab)] w) false (World.doorLaid Tryd.prog 400 os) #[.agg #[.int .u64 0, .int .u64 0], .slice none 0 0] 8 rfl (World.shaped_of_RefB (by kernel_rfl) (by kernel_rfl)) (by kernel_rfl) (by kernel_rfl) (by kernel_rfl) (door_met os _)) ?_
  intro W base args ds gs before hval0 hW _ _ hL _
  have hval : ∀ (j : Nat) t v, Tryd.f11.params[j]? = some t → args[j]? = some v → Value.okWide Tryd.prog W .any base t v := hval0
  have hW' := hW
  obtain ⟨p, q, hA0, hV, rfl, hfz, hnd⟩ := hW
  have hA : DataW.TrodAll enc Tryd.prog W 0 (fun _ => true) true Tryd.f11.params.toList args.toList ds p := hA0
  rw [Tryd.params11] at hA hval
  obtain ⟨v0, vs0, d0, ds0, p0, q0, hargs, rfl, rfl, h0, r0⟩ := trodAll_cons hA
  obtain ⟨v1, vs1, d1, ds1, p1, q1, rfl, rfl, rfl, h1, r1⟩ := trodAll_cons r0
  obtain ⟨rfl, rfl, rfl⟩ := trodAll_nil r1
  obtain rfl : args = #[v0, v1] := by cases args; simp_all
  have k0 := h0
  have lt0 : ∀ x ∈ p0, x.block < W.heap.size := by obtain ⟨m, hm⟩ := k0; exact DataW.trod_lt m _ _ _ hm
  have k1 := h1
  have lt1 : ∀ x ∈ p1, x.block < W.heap.size := by obtain ⟨m, hm⟩ := k1; exact DataW.trod_lt m _ _ _ hm
  obtain ⟨rfl, rfl⟩ := trodVars_none hV
  obtain ⟨s0, rfl⟩ := open_set (hval 0 26 v0 rfl rfl) k0
  obtain ⟨l1, il1, ln1⟩ := open_list (hval 1 22 v1 rfl rfl) k1
  have hT := of_laid hL
  clear hA0 hval0 hL
  simp only [List.append_nil] at hW'
  refine (varsBack_walk s0 v1 l1 il1 ln1 W hT).mono fun e W' ⟨he, bel⟩ => ?_
  subst he
  exact ⟨_, rfl, _, _, _, [], _, [], hW', trodAll_mk1 (shut_bool Tryd.underlying4 _), (trodAll_cons_mk (Below.trod laidOut (by kernel_rfl) (of_decide_eq_true (by kernel_rfl)) k0 bel lt0) (trodAll_cons_mk (Below.trod laidOut (by kernel_rfl) (of_decide_eq_true (by kernel_rfl)) k1 bel lt1) trodAll_mk0)), rfl, bel.frame _, fun h => by cases h⟩
theorem varsBack_holds : Rows.VarsBackSaid :=
  OpenClaim.holds_of_wide 11 Tryd.f11 rfl rfl rfl rfl rfl rfl rfl ⟨rfl, rfl, rfl, rfl, rfl⟩ rfl rfl rfl rfl rfl (by kernel_rfl) Tryd.func11 (by kernel_rfl)
    (of_decide_eq_true (by kernel_rfl)) (by unfold Func.isWrapper; rw [if_neg (of_decide_eq_false (by kernel_rfl))]; exact ⟨rfl, rfl⟩)
    (fun os started H enc _ => varsBack_lifted os started H enc)
/-- THE CARD. -/
theorem varsBack_card : Rows.VarsBackCardSaid :=
  Claim7.holds_tied_plain_at .later [] [.data] true Rows.varsBackCard.stood.harness false
    varsBack_holds (fun _ h => by cases h) (by kernel_rfl) (fun _ h => by cases h) varsBack_row_tie rfl ⟨rfl, rfl⟩ (by kernel_rfl) rfl
    (fun f fn hf hfn => by
      obtain rfl : f = 11 := Option.some.inj ((show Tryd.prog.funcNamed "census/censuslaw03.VarsBack" = some 11 by kernel_rfl).symm.trans hf) |>.symm
      obtain rfl : fn = Tryd.f11 := (Option.some.inj (Tryd.func11.symm.trans hfn)).symm
      exact ⟨by kernel_rfl, fun j t ht => by
        rw [Tryd.params11] at ht
        have hm : t ∈ [26, 22] := by simpa using Array.mem_of_getElem? ht
        have hall : ([26, 22].all fun u => !Tryd.prog.wantsStandIn u) = true := by kernel_rfl
        exact (show Tryd.prog.wantsStandIn t = false by simpa using List.all_eq_true.1 hall t hm)⟩)
    (by kernel_rfl)
#print axioms varsBack_card
end Go.Proofs.YthckmpdnkinmlaaDoor
