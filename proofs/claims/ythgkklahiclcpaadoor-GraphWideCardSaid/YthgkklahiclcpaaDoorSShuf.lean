/- Walks: the laws' small graphs; orders that numbers choose. -/
import Derived.Test.YthgkklahiclcpaaDoorSLaw3
import Derived.Lib.SlBuf
namespace Go.Proofs.YthgkklahiclcpaaDoor
open Go.RowKit

/-- The slice value v reads as these bytes. -/
def U8sAt (w : World) (v : Value) (l : List Int) : Prop :=
  (∃ p c, v = .slice p l.length c ∧ (l = [] ∨ ∃ b off, p = some ⟨b, off, none⟩ ∧ ∀ i, i < l.length → w.cell? ⟨b, off + i, none⟩ = some (.int .u8 (l[i]?.getD 0)))) ∧ ∀ x ∈ l, 0 ≤ x ∧ x ≤ 255
theorem U8sAt.below {w w' : World} {v : Value} {l : List Int} (h : U8sAt w v l) (hb : Below w.heap.size w w') : U8sAt w' v l := by
  obtain ⟨⟨p, c, rfl, h⟩, hr⟩ := h
  refine ⟨⟨p, c, rfl, ?_⟩, hr⟩
  rcases h with h | ⟨b, off, rfl, h⟩
  · exact .inl h
  · exact .inr ⟨b, off, rfl, fun i hi => (hb.cell (cell_lt (h i hi))).trans (h i hi)⟩
def smallG (L : List VS) : Bool := decide (L.length ≤ 17) && validG L
set_option maxRecDepth 100000 in
set_option maxHeartbeats 1000000 in
theorem small_c (v : Value) (L : List VS) (w : World) (hI : SetsAt w v L) (hL : L.length ≤ 9223372036854775807) :
    Calls Tryd.prog 22 #[v] w fun e w' => e = .returned (.bool (smallG L)) ∧ Below w.heap.size w w' := by
  have hI0 := hI
  obtain ⟨p, c, rfl, hdrop⟩ := hI
  clear hdrop
  by_cases h : L.length ≤ 17
  · have d1 : decide ((L.length : Int) ≤ 17) = true := decide_eq_true (by omega)
    have HV := hid (rValid_c _ L w hI0 (by omega))
    have HS : Hid (smallG L = validG L) := by
      show _ = _
      unfold smallG; rw [decide_eq_true h, Bool.true_and]
    clear h hI0
    go_enter Tryd.func22, Tryd.ntmps22
    go_wp2_with fail
    refine HV.out.mono ?_
    rintro e w2 ⟨rfl, hb2⟩
    go_wp2_with fail
    go_ret
    exact ⟨by rw [HS.out]; rfl, hb2⟩
  · have d1 : decide ((L.length : Int) ≤ 17) = false := decide_eq_false (by omega)
    have HS : Hid (smallG L = false) := by
      show _ = _
      unfold smallG; rw [decide_eq_false h, Bool.false_and]
    clear h hI0
    go_enter Tryd.func22, Tryd.ntmps22
    go_wp2_with fail
    go_ret
    exact ⟨by rw [HS.out]; rfl, Below.refl _ _⟩
def insAt (l : List Int) (k : Nat) (x : Int) : List Int := l.take k ++ ([x] ++ l.drop k)
theorem insAt_ord {l : List Int} {i k : Nat} (h : IsOrd l i) : IsOrd (insAt l k ((i : Int) + 1)) (i + 1) := by
  have hl := h.len
  refine ⟨?_, fun v => ?_⟩
  · unfold insAt
    simp only [List.length_append, List.length_take, List.length_drop, List.length_singleton]; omega
  · have e : v ∈ insAt l k ((i : Int) + 1) ↔ v ∈ l ∨ v = (i : Int) + 1 := by
      unfold insAt
      rw [List.mem_append, List.mem_append, List.mem_singleton]
      conv => rhs; rw [← List.take_append_drop k l, List.mem_append]
      constructor
      · rintro (h | h | h)
        · exact .inl (.inl h)
        · exact .inr h
        · exact .inl (.inr h)
      · rintro ((h | h) | h)
        · exact .inl h
        · exact .inr (.inr h)
        · exact .inr (.inl h)
    rw [e, h.mem]
    push_cast
    omega
theorem below_setRow {B : Nat} {a w : World} {g : Nat} (h : Below B a w) (hg : B ≤ g) (cs : Array Value) : Below B a (w.setRow g cs) :=
  ⟨h.os, h.tape, h.output, by rw [setRow_size]; exact h.size, fun k hk => by rw [setRow_other w g k cs (by omega)]; exact h.block k hk⟩
/-- What is in the row, behind the copy and the store. -/
theorem ins_row {A R : List Value} {l : List Int} {i k : Nat} (hl : l.length = i) (hk : k < i) (hA : A.take (i + 1) = l.map (Value.int .i64) ++ [.int .i64 0]) (_hi : i + 1 ≤ A.length) (x : Int) :
    (((A.take (k + 1) ++ ((l.drop k).map (Value.int .i64)) ++ R).set k (.int .i64 x))).take (i + 1) = (insAt l k x).map (Value.int .i64) := by
  have e1 : A.take (k + 1) = (l.take k).map (Value.int .i64) ++ [.int .i64 (l[k]'(by omega))] := by
    have e2 : A.take (k + 1) = (A.take (i + 1)).take (k + 1) := by rw [List.take_take]; congr 1; omega
    rw [e2, hA, List.take_append_of_le_length (by rw [List.length_map]; omega), ← List.map_take, List.take_succ_eq_append_getElem (by omega : k < l.length), List.map_append]; rfl
  have hkl : ((l.take k).map (Value.int .i64)).length = k := by rw [List.length_map, List.length_take]; omega
  rw [e1, List.append_assoc, List.append_assoc, List.set_append_right _ _ (by rw [hkl]; exact Nat.le_refl _), hkl, Nat.sub_self]
  show ((l.take k).map (Value.int .i64) ++ (Value.int .i64 x :: ((l.drop k).map (Value.int .i64) ++ R))).take (i + 1) = _
  have e3 : (l.take k).map (Value.int .i64) ++ (Value.int .i64 x :: ((l.drop k).map (Value.int .i64) ++ R)) = (insAt l k x).map (Value.int .i64) ++ R := by
    unfold insAt
    simp [List.map_append]
  rw [e3]
  apply List.take_left'
  unfold insAt
  simp only [List.length_map, List.length_append, List.length_take, List.length_drop, List.length_singleton]; omega
theorem ins_last {A : List Value} {l : List Int} {i : Nat} (hl : l.length = i) (hA : A.take (i + 1) = l.map (Value.int .i64) ++ [.int .i64 0]) (x : Int) :
    ((A.set i (.int .i64 x))).take (i + 1) = (insAt l i x).map (Value.int .i64) := by
  rw [List.take_set, hA]
  have hkl : (l.map (Value.int .i64)).length = i := by rw [List.length_map, hl]
  rw [List.set_append_right _ _ (by rw [hkl]; exact Nat.le_refl _), hkl, Nat.sub_self]
  unfold insAt
  rw [← hl, List.take_length, List.drop_length, List.append_nil, List.map_append]; rfl
set_option maxRecDepth 100000 in
set_option maxHeartbeats 8000000 in
theorem shuffled_c (n : Nat) (hn : n ≤ 128) (v : Value) (P : List Int) (w : World) (hP : U8sAt w v P) (_hPl : P.length ≤ 9223372036854775807) :
    Calls Tryd.prog 23 #[.int .i64 (n : Int), v] w fun e w' => ∃ u l, e = .returned u ∧ NewInts w' w.heap.size u l ∧ IsOrd l n ∧ Below w.heap.size w w' := by
  obtain ⟨i0, hi0, hz0, hz1, hz2⟩ := info_parts info_int
  have hsz1 : (Tryd.prog.info? 3).map (·.size) = some 1 := by kernel_rfl
  obtain ⟨⟨p, c, rfl, hPc⟩, hPr⟩ := hP
  have HP := hid hPc
  have HPR := hid hPr
  clear hPc hPr
  go_enter Tryd.func23, Tryd.ntmps23
  go_wp2_with fail
  go_loopw [5, 6] (fun o i wr => ∃ (k : Nat) (l : List Int), k ≤ n ∧ i = .int .i64 k ∧ NewInts wr w.heap.size o l ∧ Hid (IsOrd l k) ∧ Below w.heap.size w wr) (fun _ i _ => n - (intOf i).toNat)
  case atStart => exact ⟨0, [], Nat.zero_le _, rfl, ⟨World.ownsRow_nil _ _ _ _, by simp⟩, ⟨rfl, fun v => by simp; omega⟩, Below.refl _ _⟩
  case round =>
    obtain ⟨i, l, hin, rfl, hO, HIO, hB⟩ := hrel
    have hll : l.length = i := HIO.out.len
    obtain ⟨pu, cu, hu, hdrop⟩ := hO.ints
    subst hu
    clear hdrop
    have HLL := hid hll
    by_cases hlt : i < n
    · have hown := hO.1
      have hlto := hown.lt
      have hsz := hB.size
      clear hll hO
      by_cases hp : i < P.length
      · obtain ⟨pb, po, rfl, hpc⟩ := HP.out.resolve_left (by intro e; rw [e] at hp; simp at hp)
        have hc := hpc i hp
        have hc2 := (hB.cell (cell_lt hc)).trans hc
        have hx := HPR.out (P[i]?.getD 0) (by rw [List.getElem?_eq_getElem hp]; exact List.getElem_mem hp)
        generalize P[i]?.getD 0 = x at *
        obtain ⟨xn, hxn⟩ : ∃ xn : Nat, x = (xn : Int) := ⟨x.toNat, by omega⟩
        subst hxn
        have zi : (0 : Int) ≤ (i : Int) ∧ (i : Int) < (P.length : Int) := by omega
        obtain ⟨kn, hkn⟩ : ∃ kn : Nat, kn = xn % (i + 1) := ⟨_, rfl⟩
        have hki : kn ≤ i := by rw [hkn]; have := Nat.mod_lt xn (show 0 < i + 1 by omega); omega
        have hke : (xn : Int) % ((i : Int) + 1) = (kn : Int) := by rw [hkn]; push_cast; rfl
        have hne : ((i : Int) + 1 == 0) = false := by simp; omega
        have hne2 : ¬ (i : Int) + 1 = 0 := by omega
        have htm : Int.tmod (xn : Int) ((i : Int) + 1) = (kn : Int) := by rw [Int.tmod_eq_emod_of_nonneg (by omega)]; exact hke
        clear hc hpc hkn
        have hki' : (kn : Nat) ≤ i := hki
        go_wp2_with (at_builtin; refine wpList_append_own _ rfl _ _ 25 rfl w.heap.size 3 i0 (.int .i64 0) 1 8 Tryd.underlying25 hi0 hz0 hz1 hz2 rfl (by decide) _ _ _ rfl (hown.alloc _) ⟨wr.heap.size, 0, none⟩ 1 1 [.int .i64 0] rfl rfl (World.news_of_block (heap_alloc_new _ _)) (by simp [Value.oneCell']) (by unfold maxLen; have := HLL.out; omega) (by have := HLL.out; omega) (by simp; omega) ?_; intro v' w3 hown' hgrow _; obtain ⟨g, cap, rfl⟩ := ownsRow_succ hown'; rw [HLL.out])
        rw [HLL.out] at hown'
        have hB3 := (hB.alloc hsz (.cells #[.int .i64 0] 3)).grown hgrow (by simp; omega) (fun j e => by have := (hlto j e).1; omega)
        obtain ⟨g2, cap2, cur, e1, hgB, hgc, hnc, hcm, hcs, htk⟩ : ∃ g2 cap2 cur, Value.slice (some ⟨g, 0, none⟩) (i + 1) cap = .slice (some ⟨g2, 0, none⟩) (i + 1) cap2 ∧ w.heap.size ≤ g2 ∧ w3.heap[g2]? = some (.cells cur 3 (0, 0)) ∧ i + 1 ≤ cap2 ∧ cap2 ≤ maxLen ∧ cur.size = cap2 * 1 ∧ cur.toList.take ((i + 1) * 1) = l.map (Value.int .i64) ++ [.int .i64 0] := by
          rcases hown'.2 with ⟨h, _⟩ | ⟨g2, cap2, cur, h1, h2, h3, h4, h5, h6, h7⟩
          · cases h
          · exact ⟨g2, cap2, cur, h1, h2, h3, h4, h5, h6, h7⟩
        injection e1 with e1 _ e3
        injection e1 with e1
        injection e1 with e1 _ _
        subst e1; subst e3
        rw [Nat.mul_one] at hcs htk
        have hgl : g < w3.heap.size := (Array.getElem?_eq_some_iff.1 hgc).1
        have HTK := hid htk
        have HGC := hid hgc
        have hlen0 : l.length = i := HLL.out
        have HDR : Hid (l.length = i) := hid hlen0
        clear hown hown' hgrow htk hlen0
        by_cases hkk : kn < i
        · have hkc : kn + 1 < cap := by omega
          have hkc2 : ¬ cap = kn + 1 := by omega
          have hkc3 : ¬ cap = kn := by omega
          have zs1 : ((kn : Int) : Int) + 1 ≤ (i : Int) + 1 := by omega
          have zs7 : ¬ (((kn : Int) : Int) + 1 : Int) < 0 := by omega
          have zs8 : ¬ (i : Int) + 1 < ((kn : Int) : Int) + 1 := by omega
          have zs2 : (0 : Int) ≤ (kn : Int) := by omega
          have zs3 : IntKind.i64.wrap (((kn : Int) : Int) + 1) = ((kn : Int) : Int) + 1 := by rw [IntKind.wrap_i64]; omega
          have zs4 : ((((kn : Int) : Int) + 1 : Int)).toNat = kn + 1 := by omega
          have zs5 : ((kn : Int) : Int) ≤ (i : Int) + 1 := by omega
          have zs6 : i + 1 - (kn + 1) = i - kn := by omega
          refine Go.Proofs.YthgkklahiclcpaaDoor.wp_region_L 8 7 (fun _ => True) (by kernel_rfl) rfl trivial (fun hS => ?_)
          refine wpAnyL_pure (i := 0) (v := .slice (some ⟨g, 0, none⟩) (i + 1) cap) (by simp only [List.getElem?_toArray, List.getElem?_cons_zero] <;> rfl) (by kernel_rfl) (by kernel_rfl) (by kernel_rfl) (by exact fun _ _ _ h => h) (by decide) hS (Or.inl ⟨by rfl, fun w _ => (by simp [execOp, go_sem, Act.eval])⟩) (fun hS => ?_)
          simp only [Act.put, List.setIfInBounds_toArray, List.set_cons_zero, List.set_cons_succ]
          refine wpAnyL_pure (i := 1) (v := .int .i64 (kn : Int)) (by simp only [List.getElem?_toArray, List.getElem?_cons_zero, List.getElem?_cons_succ] <;> rfl) (by kernel_rfl) (by kernel_rfl) (by kernel_rfl) (by exact fun _ _ _ h => h) (by decide) hS (Or.inl ⟨by rfl, fun w _ => (by simp [execOp, go_sem, Act.eval])⟩) (fun hS => ?_)
          simp only [Act.put, List.setIfInBounds_toArray, List.set_cons_zero, List.set_cons_succ]
          refine wpAnyL_pure (i := 2) (v := .int .i64 ((kn : Int) + 1)) (by simp only [List.getElem?_toArray, List.getElem?_cons_zero, List.getElem?_cons_succ] <;> rfl) (by kernel_rfl) (by kernel_rfl) (by kernel_rfl) (by exact fun _ _ _ h => h) (by decide) hS (Or.inl ⟨by rfl, fun w _ => (by simp [execOp, go_sem, Act.eval, zs3])⟩) (fun hS => ?_)
          simp only [Act.put, List.setIfInBounds_toArray, List.set_cons_zero, List.set_cons_succ]
          refine wpAnyL_pure (i := 3) (v := .slice (some ⟨g, kn + 1, none⟩) (i + 1 - (kn + 1)) (cap - (kn + 1))) (by simp only [List.getElem?_toArray, List.getElem?_cons_zero, List.getElem?_cons_succ] <;> rfl) (by kernel_rfl) (by kernel_rfl) (by kernel_rfl) (by exact fun _ _ _ h => h) (by decide) hS (Or.inl ⟨by rfl, fun w _ => (by simp [execOp, go_sem, Act.eval, zs1, zs4, zs7, hkc2])⟩) (fun hS => ?_)
          simp only [Act.put, List.setIfInBounds_toArray, List.set_cons_zero, List.set_cons_succ]
          refine wpAnyL_pure (i := 4) (v := .slice (some ⟨g, 0, none⟩) (i + 1) cap) (by simp only [List.getElem?_toArray, List.getElem?_cons_zero, List.getElem?_cons_succ] <;> rfl) (by kernel_rfl) (by kernel_rfl) (by kernel_rfl) (by exact fun _ _ _ h => h) (by decide) hS (Or.inl ⟨by rfl, fun w _ => (by simp [execOp, go_sem, Act.eval])⟩) (fun hS => ?_)
          simp only [Act.put, List.setIfInBounds_toArray, List.set_cons_zero, List.set_cons_succ]
          refine wpAnyL_pure (i := 5) (v := .int .i64 (kn : Int)) (by simp only [List.getElem?_toArray, List.getElem?_cons_zero, List.getElem?_cons_succ] <;> rfl) (by kernel_rfl) (by kernel_rfl) (by kernel_rfl) (by exact fun _ _ _ h => h) (by decide) hS (Or.inl ⟨by rfl, fun w _ => (by simp [execOp, go_sem, Act.eval])⟩) (fun hS => ?_)
          simp only [Act.put, List.setIfInBounds_toArray, List.set_cons_zero, List.set_cons_succ]
          refine wpAnyL_pure (i := 6) (v := .slice (some ⟨g, kn, none⟩) (i + 1 - kn) (cap - kn)) (by simp only [List.getElem?_toArray, List.getElem?_cons_zero, List.getElem?_cons_succ] <;> rfl) (by kernel_rfl) (by kernel_rfl) (by kernel_rfl) (by exact fun _ _ _ h => h) (by decide) hS (Or.inl ⟨by rfl, fun w _ => (by simp [execOp, go_sem, Act.eval, zs5, zs2, hkc3])⟩) (fun hS => ?_)
          simp only [Act.put, List.setIfInBounds_toArray, List.set_cons_zero, List.set_cons_succ]
          refine wpAnyL_one (i := 7) (by kernel_rfl) (by simp only [List.getElem?_toArray, List.getElem?_cons_zero, List.getElem?_cons_succ] <;> rfl) (by rfl) ?_
          have hcp := run_copy_row (P := Tryd.prog) w3.drew 25 25 3 3 g (kn + 1) (i + 1 - (kn + 1)) (cap - (kn + 1)) ⟨g, kn, none⟩ (i + 1 - kn) (cap - kn) cur 3 ((l.drop kn).map (Value.int .i64)) Tryd.underlying25 hsz1 HGC.out (by
            rw [List.length_map, List.length_drop, HDR.out]; show i - kn = min (i + 1 - kn) (i + 1 - (kn + 1)); omega) (fun j y hj => by
            have hjl : j < i - kn := by have := (List.getElem?_eq_some_iff.1 hj).1; rw [List.length_map, List.length_drop, HDR.out] at this; exact this
            rw [List.getElem?_map, List.getElem?_drop] at hj
            have h1 : cur.toList[kn + j]? = (l.map (Value.int .i64))[kn + j]? := by
              have := congrArg (fun t => t[kn + j]?) HTK.out
              simp only [List.getElem?_take] at this
              rw [if_pos (by omega), List.getElem?_append_left (by rw [List.length_map, HDR.out]; omega)] at this
              exact this
            rw [List.getElem?_map, hj, Array.getElem?_toList] at h1
            rw [Addr.add_lit]
            simp only [World.cell?, show w3.drew.heap[g]? = _ from HGC.out]
            exact h1) (by rw [List.length_map, List.length_drop, HDR.out]; omega) (fun v hv => by obtain ⟨x, _, rfl⟩ := List.mem_map.1 hv; rfl)
          refine Lib.wp_copy_run w3.drew _ _ 25 25 rfl _ _ rfl rfl hcp ?_
          refine ⟨.inl (by kernel_rfl), ?_⟩
          simp only [Act.put]
          refine wpAnyL_done (by kernel_rfl) ?_ _
          have hgx := setRow_heap w3.drew g cur ((cur.toList.take (kn + 1) ++ (l.drop kn).map (Value.int .i64) ++ cur.toList.drop (kn + 1 + ((l.drop kn).map (Value.int .i64)).length)).toArray) 3 (0, 0) HGC.out
          have hBx := below_setRow hB3.drew hgB ((cur.toList.take (kn + 1) ++ (l.drop kn).map (Value.int .i64) ++ cur.toList.drop (kn + 1 + ((l.drop kn).map (Value.int .i64)).length)).toArray)
          generalize w3.drew.setRow g ((cur.toList.take (kn + 1) ++ (l.drop kn).map (Value.int .i64) ++ cur.toList.drop (kn + 1 + ((l.drop kn).map (Value.int .i64)).length)).toArray) = w4 at *
          clear hcp hS HGC
          have hsz4 : kn < ((cur.toList.take (kn + 1) ++ (l.drop kn).map (Value.int .i64) ++ cur.toList.drop (kn + 1 + ((l.drop kn).map (Value.int .i64)).length)).toArray).size := by simp; omega
          obtain ⟨old, hold⟩ : ∃ old, ((cur.toList.take (kn + 1) ++ (l.drop kn).map (Value.int .i64) ++ cur.toList.drop (kn + 1 + ((l.drop kn).map (Value.int .i64)).length)).toArray)[kn]? = some old := ⟨_, Array.getElem?_eq_getElem hsz4⟩
          have c4 : w4.cell? ⟨g, kn, none⟩ = some old := by simp only [World.cell?, hgx]; exact hold
          have f4 : w4.frozen? ⟨g, kn, none⟩ = false := by simp [World.frozen?, hgx]
          have hg5 : (w4.setCell ⟨g, kn, none⟩ (.int .i64 ((i : Int) + 1))).heap[g]? = some (.cells (((cur.toList.take (kn + 1) ++ (l.drop kn).map (Value.int .i64) ++ cur.toList.drop (kn + 1 + ((l.drop kn).map (Value.int .i64)).length)).toArray).setIfInBounds kn (.int .i64 ((i : Int) + 1))) 3 (0, 0)) := by
            rw [setCell_eq_setRow w4 g kn _ 3 (0, 0) _ hgx]
            exact setRow_heap w4 g _ _ 3 _ hgx
          have hB5 := hBx.setCell (p := ⟨g, kn, none⟩) hgB (.int .i64 ((i : Int) + 1))
          have hN5 : NewInts (w4.setCell ⟨g, kn, none⟩ (.int .i64 ((i : Int) + 1))) w.heap.size (.slice (some ⟨g, 0, none⟩) (i + 1) cap) (insAt l kn ((i : Int) + 1)) := by
            have hil : (insAt l kn ((i : Int) + 1)).length = i + 1 := (insAt_ord (k := kn) HIO.out).len
            refine ⟨⟨by rw [List.length_map, hil, Nat.mul_one], .inr ⟨g, cap, _, by rw [hil], hgB, hg5, by rw [hil]; exact hnc, hcm, by have hdr := HDR.out; simp; omega, ?_⟩⟩, by simp [insAt]⟩
            rw [hil, Nat.mul_one, Array.toList_setIfInBounds]
            exact ins_row HDR.out hkk HTK.out (by simp; omega) _
          have HOR := hid (insAt_ord (k := kn) HIO.out)
          clear hold hg5 hgx hBx
          have zk : (0 : Int) ≤ (kn : Int) ∧ (kn : Int) < (i : Int) + 1 := by omega
          go_wp2_with fail
          go_roundw
          case rel => exact ⟨i + 1, insAt l kn ((i : Int) + 1), by omega, by go_num, hN5, HOR.out, hB5⟩
          case measure => simp [intOf]; omega
        · obtain hke2 : kn = i := by omega
          have HKE := hid hke2
          have zs1 : ((kn : Int) : Int) + 1 ≤ (i : Int) + 1 := by omega
          have zs7 : ¬ (((kn : Int) : Int) + 1 : Int) < 0 := by omega
          have zs8 : ¬ (i : Int) + 1 < ((kn : Int) : Int) + 1 := by omega
          have zs2 : (0 : Int) ≤ (kn : Int) := by omega
          have zs3 : IntKind.i64.wrap (((kn : Int) : Int) + 1) = ((kn : Int) : Int) + 1 := by rw [IntKind.wrap_i64]; omega
          have zs4 : ((((kn : Int) : Int) + 1 : Int)).toNat = kn + 1 := by omega
          have zs5 : ((kn : Int) : Int) ≤ (i : Int) + 1 := by omega
          have hkc3 : ¬ cap = kn := by omega
          clear hke2
          by_cases hkc2 : cap = kn + 1
          · refine Go.Proofs.YthgkklahiclcpaaDoor.wp_region_L 8 7 (fun _ => True) (by kernel_rfl) rfl trivial (fun hS => ?_)
            refine wpAnyL_pure (i := 0) (v := .slice (some ⟨g, 0, none⟩) (i + 1) cap) (by simp only [List.getElem?_toArray, List.getElem?_cons_zero] <;> rfl) (by kernel_rfl) (by kernel_rfl) (by kernel_rfl) (by exact fun _ _ _ h => h) (by decide) hS (Or.inl ⟨by rfl, fun w _ => (by simp [execOp, go_sem, Act.eval])⟩) (fun hS => ?_)
            simp only [Act.put, List.setIfInBounds_toArray, List.set_cons_zero, List.set_cons_succ]
            refine wpAnyL_pure (i := 1) (v := .int .i64 (kn : Int)) (by simp only [List.getElem?_toArray, List.getElem?_cons_zero, List.getElem?_cons_succ] <;> rfl) (by kernel_rfl) (by kernel_rfl) (by kernel_rfl) (by exact fun _ _ _ h => h) (by decide) hS (Or.inl ⟨by rfl, fun w _ => (by simp [execOp, go_sem, Act.eval])⟩) (fun hS => ?_)
            simp only [Act.put, List.setIfInBounds_toArray, List.set_cons_zero, List.set_cons_succ]
            refine wpAnyL_pure (i := 2) (v := .int .i64 ((kn : Int) + 1)) (by simp only [List.getElem?_toArray, List.getElem?_cons_zero, List.getElem?_cons_succ] <;> rfl) (by kernel_rfl) (by kernel_rfl) (by kernel_rfl) (by exact fun _ _ _ h => h) (by decide) hS (Or.inl ⟨by rfl, fun w _ => (by simp [execOp, go_sem, Act.eval, zs3])⟩) (fun hS => ?_)
            simp only [Act.put, List.setIfInBounds_toArray, List.set_cons_zero, List.set_cons_succ]
            refine wpAnyL_pure (i := 3) (v := .slice (some ⟨g, 0, none⟩) (i + 1 - (kn + 1)) (cap - (kn + 1))) (by simp only [List.getElem?_toArray, List.getElem?_cons_zero, List.getElem?_cons_succ] <;> rfl) (by kernel_rfl) (by kernel_rfl) (by kernel_rfl) (by exact fun _ _ _ h => h) (by decide) hS (Or.inl ⟨by rfl, fun w _ => (by simp [execOp, go_sem, Act.eval, zs1, zs4, zs7, hkc2])⟩) (fun hS => ?_)
            simp only [Act.put, List.setIfInBounds_toArray, List.set_cons_zero, List.set_cons_succ]
            refine wpAnyL_pure (i := 4) (v := .slice (some ⟨g, 0, none⟩) (i + 1) cap) (by simp only [List.getElem?_toArray, List.getElem?_cons_zero, List.getElem?_cons_succ] <;> rfl) (by kernel_rfl) (by kernel_rfl) (by kernel_rfl) (by exact fun _ _ _ h => h) (by decide) hS (Or.inl ⟨by rfl, fun w _ => (by simp [execOp, go_sem, Act.eval])⟩) (fun hS => ?_)
            simp only [Act.put, List.setIfInBounds_toArray, List.set_cons_zero, List.set_cons_succ]
            refine wpAnyL_pure (i := 5) (v := .int .i64 (kn : Int)) (by simp only [List.getElem?_toArray, List.getElem?_cons_zero, List.getElem?_cons_succ] <;> rfl) (by kernel_rfl) (by kernel_rfl) (by kernel_rfl) (by exact fun _ _ _ h => h) (by decide) hS (Or.inl ⟨by rfl, fun w _ => (by simp [execOp, go_sem, Act.eval])⟩) (fun hS => ?_)
            simp only [Act.put, List.setIfInBounds_toArray, List.set_cons_zero, List.set_cons_succ]
            refine wpAnyL_pure (i := 6) (v := .slice (some ⟨g, kn, none⟩) (i + 1 - kn) (cap - kn)) (by simp only [List.getElem?_toArray, List.getElem?_cons_zero, List.getElem?_cons_succ] <;> rfl) (by kernel_rfl) (by kernel_rfl) (by kernel_rfl) (by exact fun _ _ _ h => h) (by decide) hS (Or.inl ⟨by rfl, fun w _ => (by simp [execOp, go_sem, Act.eval, zs5, zs2, hkc3])⟩) (fun hS => ?_)
            simp only [Act.put, List.setIfInBounds_toArray, List.set_cons_zero, List.set_cons_succ]
            refine wpAnyL_one (i := 7) (by kernel_rfl) (by simp only [List.getElem?_toArray, List.getElem?_cons_zero, List.getElem?_cons_succ] <;> rfl) (by rfl) ?_
            have hcp := run_copy_none (P := Tryd.prog) w3.drew 25 25 3 3 (some ⟨g, 0, none⟩) (some ⟨g, kn, none⟩) (i + 1 - (kn + 1)) (cap - (kn + 1)) (i + 1 - kn) (cap - kn) Tryd.underlying25 hsz1 (by show min (i + 1 - kn) (i + 1 - (kn + 1)) = 0; have := HKE.out; omega)
            refine Lib.wp_copy_run w3.drew _ _ 25 25 rfl _ _ rfl rfl hcp ?_
            refine ⟨.inl (by kernel_rfl), ?_⟩
            simp only [Act.put]
            refine wpAnyL_done (by kernel_rfl) ?_ _
            have hgx : w3.drew.heap[g]? = some (.cells cur 3 (0, 0)) := HGC.out
            have hBx := hB3.drew
            generalize w3.drew = w4 at *
            have HKC2 := hid hkc2
            clear hcp hS hkc2 HGC
            have hsz4 : kn < (cur).size := by omega
            obtain ⟨old, hold⟩ : ∃ old, (cur)[kn]? = some old := ⟨_, Array.getElem?_eq_getElem hsz4⟩
            have c4 : w4.cell? ⟨g, kn, none⟩ = some old := by simp only [World.cell?, hgx]; exact hold
            have f4 : w4.frozen? ⟨g, kn, none⟩ = false := by simp [World.frozen?, hgx]
            have hg5 : (w4.setCell ⟨g, kn, none⟩ (.int .i64 ((i : Int) + 1))).heap[g]? = some (.cells ((cur).setIfInBounds kn (.int .i64 ((i : Int) + 1))) 3 (0, 0)) := by
              rw [setCell_eq_setRow w4 g kn _ 3 (0, 0) _ hgx]
              exact setRow_heap w4 g _ _ 3 _ hgx
            have hB5 := hBx.setCell (p := ⟨g, kn, none⟩) hgB (.int .i64 ((i : Int) + 1))
            have hN5 : NewInts (w4.setCell ⟨g, kn, none⟩ (.int .i64 ((i : Int) + 1))) w.heap.size (.slice (some ⟨g, 0, none⟩) (i + 1) cap) (insAt l kn ((i : Int) + 1)) := by
              have hil : (insAt l kn ((i : Int) + 1)).length = i + 1 := (insAt_ord (k := kn) HIO.out).len
              refine ⟨⟨by rw [List.length_map, hil, Nat.mul_one], .inr ⟨g, cap, _, by rw [hil], hgB, hg5, by rw [hil]; exact hnc, hcm, by simp; omega, ?_⟩⟩, by simp [insAt]⟩
              rw [hil, Nat.mul_one, Array.toList_setIfInBounds]
              have hkie := HKE.out; first | (subst hkie; exact ins_last HDR.out HTK.out _) | (rw [hkie]; exact ins_last HDR.out HTK.out _)
            have HOR := hid (insAt_ord (k := kn) HIO.out)
            clear hold hg5 hgx hBx
            have zk : (0 : Int) ≤ (kn : Int) ∧ (kn : Int) < (i : Int) + 1 := by omega
            go_wp2_with fail
            go_roundw
            case rel => exact ⟨i + 1, insAt l kn ((i : Int) + 1), by omega, by go_num, hN5, HOR.out, hB5⟩
            case measure => simp [intOf]; omega
          · refine Go.Proofs.YthgkklahiclcpaaDoor.wp_region_L 8 7 (fun _ => True) (by kernel_rfl) rfl trivial (fun hS => ?_)
            refine wpAnyL_pure (i := 0) (v := .slice (some ⟨g, 0, none⟩) (i + 1) cap) (by simp only [List.getElem?_toArray, List.getElem?_cons_zero] <;> rfl) (by kernel_rfl) (by kernel_rfl) (by kernel_rfl) (by exact fun _ _ _ h => h) (by decide) hS (Or.inl ⟨by rfl, fun w _ => (by simp [execOp, go_sem, Act.eval])⟩) (fun hS => ?_)
            simp only [Act.put, List.setIfInBounds_toArray, List.set_cons_zero, List.set_cons_succ]
            refine wpAnyL_pure (i := 1) (v := .int .i64 (kn : Int)) (by simp only [List.getElem?_toArray, List.getElem?_cons_zero, List.getElem?_cons_succ] <;> rfl) (by kernel_rfl) (by kernel_rfl) (by kernel_rfl) (by exact fun _ _ _ h => h) (by decide) hS (Or.inl ⟨by rfl, fun w _ => (by simp [execOp, go_sem, Act.eval])⟩) (fun hS => ?_)
            simp only [Act.put, List.setIfInBounds_toArray, List.set_cons_zero, List.set_cons_succ]
            refine wpAnyL_pure (i := 2) (v := .int .i64 ((kn : Int) + 1)) (by simp only [List.getElem?_toArray, List.getElem?_cons_zero, List.getElem?_cons_succ] <;> rfl) (by kernel_rfl) (by kernel_rfl) (by kernel_rfl) (by exact fun _ _ _ h => h) (by decide) hS (Or.inl ⟨by rfl, fun w _ => (by simp [execOp, go_sem, Act.eval, zs3])⟩) (fun hS => ?_)
            simp only [Act.put, List.setIfInBounds_toArray, List.set_cons_zero, List.set_cons_succ]
            refine wpAnyL_pure (i := 3) (v := .slice (some ⟨g, kn + 1, none⟩) (i + 1 - (kn + 1)) (cap - (kn + 1))) (by simp only [List.getElem?_toArray, List.getElem?_cons_zero, List.getElem?_cons_succ] <;> rfl) (by kernel_rfl) (by kernel_rfl) (by kernel_rfl) (by exact fun _ _ _ h => h) (by decide) hS (Or.inl ⟨by rfl, fun w _ => (by simp [execOp, go_sem, Act.eval, zs1, zs4, zs7, hkc2])⟩) (fun hS => ?_)
            simp only [Act.put, List.setIfInBounds_toArray, List.set_cons_zero, List.set_cons_succ]
            refine wpAnyL_pure (i := 4) (v := .slice (some ⟨g, 0, none⟩) (i + 1) cap) (by simp only [List.getElem?_toArray, List.getElem?_cons_zero, List.getElem?_cons_succ] <;> rfl) (by kernel_rfl) (by kernel_rfl) (by kernel_rfl) (by exact fun _ _ _ h => h) (by decide) hS (Or.inl ⟨by rfl, fun w _ => (by simp [execOp, go_sem, Act.eval])⟩) (fun hS => ?_)
            simp only [Act.put, List.setIfInBounds_toArray, List.set_cons_zero, List.set_cons_succ]
            refine wpAnyL_pure (i := 5) (v := .int .i64 (kn : Int)) (by simp only [List.getElem?_toArray, List.getElem?_cons_zero, List.getElem?_cons_succ] <;> rfl) (by kernel_rfl) (by kernel_rfl) (by kernel_rfl) (by exact fun _ _ _ h => h) (by decide) hS (Or.inl ⟨by rfl, fun w _ => (by simp [execOp, go_sem, Act.eval])⟩) (fun hS => ?_)
            simp only [Act.put, List.setIfInBounds_toArray, List.set_cons_zero, List.set_cons_succ]
            refine wpAnyL_pure (i := 6) (v := .slice (some ⟨g, kn, none⟩) (i + 1 - kn) (cap - kn)) (by simp only [List.getElem?_toArray, List.getElem?_cons_zero, List.getElem?_cons_succ] <;> rfl) (by kernel_rfl) (by kernel_rfl) (by kernel_rfl) (by exact fun _ _ _ h => h) (by decide) hS (Or.inl ⟨by rfl, fun w _ => (by simp [execOp, go_sem, Act.eval, zs5, zs2, hkc3])⟩) (fun hS => ?_)
            simp only [Act.put, List.setIfInBounds_toArray, List.set_cons_zero, List.set_cons_succ]
            refine wpAnyL_one (i := 7) (by kernel_rfl) (by simp only [List.getElem?_toArray, List.getElem?_cons_zero, List.getElem?_cons_succ] <;> rfl) (by rfl) ?_
            have hcp := run_copy_none (P := Tryd.prog) w3.drew 25 25 3 3 (some ⟨g, kn + 1, none⟩) (some ⟨g, kn, none⟩) (i + 1 - (kn + 1)) (cap - (kn + 1)) (i + 1 - kn) (cap - kn) Tryd.underlying25 hsz1 (by show min (i + 1 - kn) (i + 1 - (kn + 1)) = 0; have := HKE.out; omega)
            refine Lib.wp_copy_run w3.drew _ _ 25 25 rfl _ _ rfl rfl hcp ?_
            refine ⟨.inl (by kernel_rfl), ?_⟩
            simp only [Act.put]
            refine wpAnyL_done (by kernel_rfl) ?_ _
            have hgx : w3.drew.heap[g]? = some (.cells cur 3 (0, 0)) := HGC.out
            have hBx := hB3.drew
            generalize w3.drew = w4 at *
            have HKC2 := hid hkc2
            clear hcp hS hkc2 HGC
            have hsz4 : kn < (cur).size := by omega
            obtain ⟨old, hold⟩ : ∃ old, (cur)[kn]? = some old := ⟨_, Array.getElem?_eq_getElem hsz4⟩
            have c4 : w4.cell? ⟨g, kn, none⟩ = some old := by simp only [World.cell?, hgx]; exact hold
            have f4 : w4.frozen? ⟨g, kn, none⟩ = false := by simp [World.frozen?, hgx]
            have hg5 : (w4.setCell ⟨g, kn, none⟩ (.int .i64 ((i : Int) + 1))).heap[g]? = some (.cells ((cur).setIfInBounds kn (.int .i64 ((i : Int) + 1))) 3 (0, 0)) := by
              rw [setCell_eq_setRow w4 g kn _ 3 (0, 0) _ hgx]
              exact setRow_heap w4 g _ _ 3 _ hgx
            have hB5 := hBx.setCell (p := ⟨g, kn, none⟩) hgB (.int .i64 ((i : Int) + 1))
            have hN5 : NewInts (w4.setCell ⟨g, kn, none⟩ (.int .i64 ((i : Int) + 1))) w.heap.size (.slice (some ⟨g, 0, none⟩) (i + 1) cap) (insAt l kn ((i : Int) + 1)) := by
              have hil : (insAt l kn ((i : Int) + 1)).length = i + 1 := (insAt_ord (k := kn) HIO.out).len
              refine ⟨⟨by rw [List.length_map, hil, Nat.mul_one], .inr ⟨g, cap, _, by rw [hil], hgB, hg5, by rw [hil]; exact hnc, hcm, by simp; omega, ?_⟩⟩, by simp [insAt]⟩
              rw [hil, Nat.mul_one, Array.toList_setIfInBounds]
              have hkie := HKE.out; first | (subst hkie; exact ins_last HDR.out HTK.out _) | (rw [hkie]; exact ins_last HDR.out HTK.out _)
            have HOR := hid (insAt_ord (k := kn) HIO.out)
            clear hold hg5 hgx hBx
            have zk : (0 : Int) ≤ (kn : Int) ∧ (kn : Int) < (i : Int) + 1 := by omega
            go_wp2_with fail
            go_roundw
            case rel => exact ⟨i + 1, insAt l kn ((i : Int) + 1), by omega, by go_num, hN5, HOR.out, hB5⟩
            case measure => simp [intOf]; omega
      · have hge : ¬ (i : Int) < (P.length : Int) := by omega
        have hki' : (0 : Nat) ≤ i := Nat.zero_le _
        go_wp2_with (at_builtin; refine wpList_append_own _ rfl _ _ 25 rfl w.heap.size 3 i0 (.int .i64 0) 1 8 Tryd.underlying25 hi0 hz0 hz1 hz2 rfl (by decide) _ _ _ rfl (hown.alloc _) ⟨wr.heap.size, 0, none⟩ 1 1 [.int .i64 0] rfl rfl (World.news_of_block (heap_alloc_new _ _)) (by simp [Value.oneCell']) (by unfold maxLen; have := HLL.out; omega) (by have := HLL.out; omega) (by simp; omega) ?_; intro v' w3 hown' hgrow _; obtain ⟨g, cap, rfl⟩ := ownsRow_succ hown'; rw [HLL.out])
        rw [HLL.out] at hown'
        have hB3 := (hB.alloc hsz (.cells #[.int .i64 0] 3)).grown hgrow (by simp; omega) (fun j e => by have := (hlto j e).1; omega)
        obtain ⟨g2, cap2, cur, e1, hgB, hgc, hnc, hcm, hcs, htk⟩ : ∃ g2 cap2 cur, Value.slice (some ⟨g, 0, none⟩) (i + 1) cap = .slice (some ⟨g2, 0, none⟩) (i + 1) cap2 ∧ w.heap.size ≤ g2 ∧ w3.heap[g2]? = some (.cells cur 3 (0, 0)) ∧ i + 1 ≤ cap2 ∧ cap2 ≤ maxLen ∧ cur.size = cap2 * 1 ∧ cur.toList.take ((i + 1) * 1) = l.map (Value.int .i64) ++ [.int .i64 0] := by
          rcases hown'.2 with ⟨h, _⟩ | ⟨g2, cap2, cur, h1, h2, h3, h4, h5, h6, h7⟩
          · cases h
          · exact ⟨g2, cap2, cur, h1, h2, h3, h4, h5, h6, h7⟩
        injection e1 with e1 _ e3
        injection e1 with e1
        injection e1 with e1 _ _
        subst e1; subst e3
        rw [Nat.mul_one] at hcs htk
        have hgl : g < w3.heap.size := (Array.getElem?_eq_some_iff.1 hgc).1
        have HTK := hid htk
        have HGC := hid hgc
        have hlen0 : l.length = i := HLL.out
        have HDR : Hid (l.length = i) := hid hlen0
        clear hown hown' hgrow htk hlen0
        by_cases hkk : 0 < i
        · have hkc : 0 + 1 < cap := by omega
          have hkc2 : ¬ cap = 0 + 1 := by omega
          have hkc3 : ¬ cap = 0 := by omega
          have zs1 : 1 ≤ (i : Int) + 1 := by omega
          have zs7 : ¬ (1 : Int) < 0 := by omega
          have zs8 : ¬ (i : Int) + 1 < 1 := by omega
          have zs2 : (0 : Int) ≤ 0 := by omega
          have zs3 : IntKind.i64.wrap (1) = 1 := by rw [IntKind.wrap_i64]; omega
          have zs4 : ((1 : Int)).toNat = 0 + 1 := by omega
          have zs5 : (0 : Int) ≤ (i : Int) + 1 := by omega
          have zs6 : i + 1 - (0 + 1) = i - 0 := by omega
          refine Go.Proofs.YthgkklahiclcpaaDoor.wp_region_L 8 7 (fun _ => True) (by kernel_rfl) rfl trivial (fun hS => ?_)
          refine wpAnyL_pure (i := 0) (v := .slice (some ⟨g, 0, none⟩) (i + 1) cap) (by simp only [List.getElem?_toArray, List.getElem?_cons_zero] <;> rfl) (by kernel_rfl) (by kernel_rfl) (by kernel_rfl) (by exact fun _ _ _ h => h) (by decide) hS (Or.inl ⟨by rfl, fun w _ => (by simp [execOp, go_sem, Act.eval])⟩) (fun hS => ?_)
          simp only [Act.put, List.setIfInBounds_toArray, List.set_cons_zero, List.set_cons_succ]
          refine wpAnyL_pure (i := 1) (v := .int .i64 0) (by simp only [List.getElem?_toArray, List.getElem?_cons_zero, List.getElem?_cons_succ] <;> rfl) (by kernel_rfl) (by kernel_rfl) (by kernel_rfl) (by exact fun _ _ _ h => h) (by decide) hS (Or.inl ⟨by rfl, fun w _ => (by simp [execOp, go_sem, Act.eval])⟩) (fun hS => ?_)
          simp only [Act.put, List.setIfInBounds_toArray, List.set_cons_zero, List.set_cons_succ]
          refine wpAnyL_pure (i := 2) (v := .int .i64 (0 + 1)) (by simp only [List.getElem?_toArray, List.getElem?_cons_zero, List.getElem?_cons_succ] <;> rfl) (by kernel_rfl) (by kernel_rfl) (by kernel_rfl) (by exact fun _ _ _ h => h) (by decide) hS (Or.inl ⟨by rfl, fun w _ => (by simp [execOp, go_sem, Act.eval, zs3])⟩) (fun hS => ?_)
          simp only [Act.put, List.setIfInBounds_toArray, List.set_cons_zero, List.set_cons_succ]
          refine wpAnyL_pure (i := 3) (v := .slice (some ⟨g, 0 + 1, none⟩) (i + 1 - (0 + 1)) (cap - (0 + 1))) (by simp only [List.getElem?_toArray, List.getElem?_cons_zero, List.getElem?_cons_succ] <;> rfl) (by kernel_rfl) (by kernel_rfl) (by kernel_rfl) (by exact fun _ _ _ h => h) (by decide) hS (Or.inl ⟨by rfl, fun w _ => (by simp [execOp, go_sem, Act.eval, zs1, zs4, hkc2])⟩) (fun hS => ?_)
          simp only [Act.put, List.setIfInBounds_toArray, List.set_cons_zero, List.set_cons_succ]
          refine wpAnyL_pure (i := 4) (v := .slice (some ⟨g, 0, none⟩) (i + 1) cap) (by simp only [List.getElem?_toArray, List.getElem?_cons_zero, List.getElem?_cons_succ] <;> rfl) (by kernel_rfl) (by kernel_rfl) (by kernel_rfl) (by exact fun _ _ _ h => h) (by decide) hS (Or.inl ⟨by rfl, fun w _ => (by simp [execOp, go_sem, Act.eval])⟩) (fun hS => ?_)
          simp only [Act.put, List.setIfInBounds_toArray, List.set_cons_zero, List.set_cons_succ]
          refine wpAnyL_pure (i := 5) (v := .int .i64 0) (by simp only [List.getElem?_toArray, List.getElem?_cons_zero, List.getElem?_cons_succ] <;> rfl) (by kernel_rfl) (by kernel_rfl) (by kernel_rfl) (by exact fun _ _ _ h => h) (by decide) hS (Or.inl ⟨by rfl, fun w _ => (by simp [execOp, go_sem, Act.eval])⟩) (fun hS => ?_)
          simp only [Act.put, List.setIfInBounds_toArray, List.set_cons_zero, List.set_cons_succ]
          refine wpAnyL_pure (i := 6) (v := .slice (some ⟨g, 0, none⟩) (i + 1 - 0) (cap - 0)) (by simp only [List.getElem?_toArray, List.getElem?_cons_zero, List.getElem?_cons_succ] <;> rfl) (by kernel_rfl) (by kernel_rfl) (by kernel_rfl) (by exact fun _ _ _ h => h) (by decide) hS (Or.inl ⟨by rfl, fun w _ => (by simp [execOp, go_sem, Act.eval, zs5, hkc3])⟩) (fun hS => ?_)
          simp only [Act.put, List.setIfInBounds_toArray, List.set_cons_zero, List.set_cons_succ]
          refine wpAnyL_one (i := 7) (by kernel_rfl) (by simp only [List.getElem?_toArray, List.getElem?_cons_zero, List.getElem?_cons_succ] <;> rfl) (by rfl) ?_
          have hcp := run_copy_row (P := Tryd.prog) w3.drew 25 25 3 3 g (0 + 1) (i + 1 - (0 + 1)) (cap - (0 + 1)) ⟨g, 0, none⟩ (i + 1 - 0) (cap - 0) cur 3 ((l.drop 0).map (Value.int .i64)) Tryd.underlying25 hsz1 HGC.out (by
            rw [List.length_map, List.length_drop, HDR.out]; show i - 0 = min (i + 1 - 0) (i + 1 - (0 + 1)); omega) (fun j y hj => by
            have hjl : j < i - 0 := by have := (List.getElem?_eq_some_iff.1 hj).1; rw [List.length_map, List.length_drop, HDR.out] at this; exact this
            rw [List.getElem?_map, List.getElem?_drop] at hj
            have h1 : cur.toList[0 + j]? = (l.map (Value.int .i64))[0 + j]? := by
              have := congrArg (fun t => t[0 + j]?) HTK.out
              simp only [List.getElem?_take] at this
              rw [if_pos (by omega), List.getElem?_append_left (by rw [List.length_map, HDR.out]; omega)] at this
              exact this
            rw [List.getElem?_map, hj, Array.getElem?_toList] at h1
            rw [Addr.add_lit]
            simp only [World.cell?, show w3.drew.heap[g]? = _ from HGC.out]
            exact h1) (by rw [List.length_map, List.length_drop, HDR.out]; omega) (fun v hv => by obtain ⟨x, _, rfl⟩ := List.mem_map.1 hv; rfl)
          refine Lib.wp_copy_run w3.drew _ _ 25 25 rfl _ _ rfl rfl hcp ?_
          refine ⟨.inl (by kernel_rfl), ?_⟩
          simp only [Act.put]
          refine wpAnyL_done (by kernel_rfl) ?_ _
          have hgx := setRow_heap w3.drew g cur ((cur.toList.take (0 + 1) ++ (l.drop 0).map (Value.int .i64) ++ cur.toList.drop (0 + 1 + ((l.drop 0).map (Value.int .i64)).length)).toArray) 3 (0, 0) HGC.out
          have hBx := below_setRow hB3.drew hgB ((cur.toList.take (0 + 1) ++ (l.drop 0).map (Value.int .i64) ++ cur.toList.drop (0 + 1 + ((l.drop 0).map (Value.int .i64)).length)).toArray)
          generalize w3.drew.setRow g ((cur.toList.take (0 + 1) ++ (l.drop 0).map (Value.int .i64) ++ cur.toList.drop (0 + 1 + ((l.drop 0).map (Value.int .i64)).length)).toArray) = w4 at *
          clear hcp hS HGC
          have hsz4 : 0 < ((cur.toList.take (0 + 1) ++ (l.drop 0).map (Value.int .i64) ++ cur.toList.drop (0 + 1 + ((l.drop 0).map (Value.int .i64)).length)).toArray).size := by simp; omega
          obtain ⟨old, hold⟩ : ∃ old, ((cur.toList.take (0 + 1) ++ (l.drop 0).map (Value.int .i64) ++ cur.toList.drop (0 + 1 + ((l.drop 0).map (Value.int .i64)).length)).toArray)[0]? = some old := ⟨_, Array.getElem?_eq_getElem hsz4⟩
          have c4 : w4.cell? ⟨g, 0, none⟩ = some old := by simp only [World.cell?, hgx]; exact hold
          have f4 : w4.frozen? ⟨g, 0, none⟩ = false := by simp [World.frozen?, hgx]
          have hg5 : (w4.setCell ⟨g, 0, none⟩ (.int .i64 ((i : Int) + 1))).heap[g]? = some (.cells (((cur.toList.take (0 + 1) ++ (l.drop 0).map (Value.int .i64) ++ cur.toList.drop (0 + 1 + ((l.drop 0).map (Value.int .i64)).length)).toArray).setIfInBounds 0 (.int .i64 ((i : Int) + 1))) 3 (0, 0)) := by
            rw [setCell_eq_setRow w4 g 0 _ 3 (0, 0) _ hgx]
            exact setRow_heap w4 g _ _ 3 _ hgx
          have hB5 := hBx.setCell (p := ⟨g, 0, none⟩) hgB (.int .i64 ((i : Int) + 1))
          have hN5 : NewInts (w4.setCell ⟨g, 0, none⟩ (.int .i64 ((i : Int) + 1))) w.heap.size (.slice (some ⟨g, 0, none⟩) (i + 1) cap) (insAt l 0 ((i : Int) + 1)) := by
            have hil : (insAt l 0 ((i : Int) + 1)).length = i + 1 := (insAt_ord (k := 0) HIO.out).len
            refine ⟨⟨by rw [List.length_map, hil, Nat.mul_one], .inr ⟨g, cap, _, by rw [hil], hgB, hg5, by rw [hil]; exact hnc, hcm, by have hdr := HDR.out; simp; omega, ?_⟩⟩, by simp [insAt]⟩
            rw [hil, Nat.mul_one, Array.toList_setIfInBounds]
            exact ins_row HDR.out hkk HTK.out (by simp; omega) _
          have HOR := hid (insAt_ord (k := 0) HIO.out)
          clear hold hg5 hgx hBx
          have zk : (0 : Int) ≤ 0 ∧ 0 < (i : Int) + 1 := by omega
          go_wp2_with fail
          go_roundw
          case rel => exact ⟨i + 1, insAt l 0 ((i : Int) + 1), by omega, by go_num, hN5, HOR.out, hB5⟩
          case measure => simp [intOf]; omega
        · obtain hke2 : 0 = i := by omega
          have HKE := hid hke2
          have zs1 : 1 ≤ (i : Int) + 1 := by omega
          have zs7 : ¬ (1 : Int) < 0 := by omega
          have zs8 : ¬ (i : Int) + 1 < 1 := by omega
          have zs2 : (0 : Int) ≤ 0 := by omega
          have zs3 : IntKind.i64.wrap (1) = 1 := by rw [IntKind.wrap_i64]; omega
          have zs4 : ((1 : Int)).toNat = 0 + 1 := by omega
          have zs5 : (0 : Int) ≤ (i : Int) + 1 := by omega
          have hkc3 : ¬ cap = 0 := by omega
          clear hke2
          by_cases hkc2 : cap = 0 + 1
          · refine Go.Proofs.YthgkklahiclcpaaDoor.wp_region_L 8 7 (fun _ => True) (by kernel_rfl) rfl trivial (fun hS => ?_)
            refine wpAnyL_pure (i := 0) (v := .slice (some ⟨g, 0, none⟩) (i + 1) cap) (by simp only [List.getElem?_toArray, List.getElem?_cons_zero] <;> rfl) (by kernel_rfl) (by kernel_rfl) (by kernel_rfl) (by exact fun _ _ _ h => h) (by decide) hS (Or.inl ⟨by rfl, fun w _ => (by simp [execOp, go_sem, Act.eval])⟩) (fun hS => ?_)
            simp only [Act.put, List.setIfInBounds_toArray, List.set_cons_zero, List.set_cons_succ]
            refine wpAnyL_pure (i := 1) (v := .int .i64 0) (by simp only [List.getElem?_toArray, List.getElem?_cons_zero, List.getElem?_cons_succ] <;> rfl) (by kernel_rfl) (by kernel_rfl) (by kernel_rfl) (by exact fun _ _ _ h => h) (by decide) hS (Or.inl ⟨by rfl, fun w _ => (by simp [execOp, go_sem, Act.eval])⟩) (fun hS => ?_)
            simp only [Act.put, List.setIfInBounds_toArray, List.set_cons_zero, List.set_cons_succ]
            refine wpAnyL_pure (i := 2) (v := .int .i64 (0 + 1)) (by simp only [List.getElem?_toArray, List.getElem?_cons_zero, List.getElem?_cons_succ] <;> rfl) (by kernel_rfl) (by kernel_rfl) (by kernel_rfl) (by exact fun _ _ _ h => h) (by decide) hS (Or.inl ⟨by rfl, fun w _ => (by simp [execOp, go_sem, Act.eval, zs3])⟩) (fun hS => ?_)
            simp only [Act.put, List.setIfInBounds_toArray, List.set_cons_zero, List.set_cons_succ]
            refine wpAnyL_pure (i := 3) (v := .slice (some ⟨g, 0, none⟩) (i + 1 - (0 + 1)) (cap - (0 + 1))) (by simp only [List.getElem?_toArray, List.getElem?_cons_zero, List.getElem?_cons_succ] <;> rfl) (by kernel_rfl) (by kernel_rfl) (by kernel_rfl) (by exact fun _ _ _ h => h) (by decide) hS (Or.inl ⟨by rfl, fun w _ => (by simp [execOp, go_sem, Act.eval, zs1, zs4, hkc2])⟩) (fun hS => ?_)
            simp only [Act.put, List.setIfInBounds_toArray, List.set_cons_zero, List.set_cons_succ]
            refine wpAnyL_pure (i := 4) (v := .slice (some ⟨g, 0, none⟩) (i + 1) cap) (by simp only [List.getElem?_toArray, List.getElem?_cons_zero, List.getElem?_cons_succ] <;> rfl) (by kernel_rfl) (by kernel_rfl) (by kernel_rfl) (by exact fun _ _ _ h => h) (by decide) hS (Or.inl ⟨by rfl, fun w _ => (by simp [execOp, go_sem, Act.eval])⟩) (fun hS => ?_)
            simp only [Act.put, List.setIfInBounds_toArray, List.set_cons_zero, List.set_cons_succ]
            refine wpAnyL_pure (i := 5) (v := .int .i64 0) (by simp only [List.getElem?_toArray, List.getElem?_cons_zero, List.getElem?_cons_succ] <;> rfl) (by kernel_rfl) (by kernel_rfl) (by kernel_rfl) (by exact fun _ _ _ h => h) (by decide) hS (Or.inl ⟨by rfl, fun w _ => (by simp [execOp, go_sem, Act.eval])⟩) (fun hS => ?_)
            simp only [Act.put, List.setIfInBounds_toArray, List.set_cons_zero, List.set_cons_succ]
            refine wpAnyL_pure (i := 6) (v := .slice (some ⟨g, 0, none⟩) (i + 1 - 0) (cap - 0)) (by simp only [List.getElem?_toArray, List.getElem?_cons_zero, List.getElem?_cons_succ] <;> rfl) (by kernel_rfl) (by kernel_rfl) (by kernel_rfl) (by exact fun _ _ _ h => h) (by decide) hS (Or.inl ⟨by rfl, fun w _ => (by simp [execOp, go_sem, Act.eval, zs5, hkc3])⟩) (fun hS => ?_)
            simp only [Act.put, List.setIfInBounds_toArray, List.set_cons_zero, List.set_cons_succ]
            refine wpAnyL_one (i := 7) (by kernel_rfl) (by simp only [List.getElem?_toArray, List.getElem?_cons_zero, List.getElem?_cons_succ] <;> rfl) (by rfl) ?_
            have hcp := run_copy_none (P := Tryd.prog) w3.drew 25 25 3 3 (some ⟨g, 0, none⟩) (some ⟨g, 0, none⟩) (i + 1 - (0 + 1)) (cap - (0 + 1)) (i + 1 - 0) (cap - 0) Tryd.underlying25 hsz1 (by show min (i + 1 - 0) (i + 1 - (0 + 1)) = 0; have := HKE.out; omega)
            refine Lib.wp_copy_run w3.drew _ _ 25 25 rfl _ _ rfl rfl hcp ?_
            refine ⟨.inl (by kernel_rfl), ?_⟩
            simp only [Act.put]
            refine wpAnyL_done (by kernel_rfl) ?_ _
            have hgx : w3.drew.heap[g]? = some (.cells cur 3 (0, 0)) := HGC.out
            have hBx := hB3.drew
            generalize w3.drew = w4 at *
            have HKC2 := hid hkc2
            clear hcp hS hkc2 HGC
            have hsz4 : 0 < (cur).size := by omega
            obtain ⟨old, hold⟩ : ∃ old, (cur)[0]? = some old := ⟨_, Array.getElem?_eq_getElem hsz4⟩
            have c4 : w4.cell? ⟨g, 0, none⟩ = some old := by simp only [World.cell?, hgx]; exact hold
            have f4 : w4.frozen? ⟨g, 0, none⟩ = false := by simp [World.frozen?, hgx]
            have hg5 : (w4.setCell ⟨g, 0, none⟩ (.int .i64 ((i : Int) + 1))).heap[g]? = some (.cells ((cur).setIfInBounds 0 (.int .i64 ((i : Int) + 1))) 3 (0, 0)) := by
              rw [setCell_eq_setRow w4 g 0 _ 3 (0, 0) _ hgx]
              exact setRow_heap w4 g _ _ 3 _ hgx
            have hB5 := hBx.setCell (p := ⟨g, 0, none⟩) hgB (.int .i64 ((i : Int) + 1))
            have hN5 : NewInts (w4.setCell ⟨g, 0, none⟩ (.int .i64 ((i : Int) + 1))) w.heap.size (.slice (some ⟨g, 0, none⟩) (i + 1) cap) (insAt l 0 ((i : Int) + 1)) := by
              have hil : (insAt l 0 ((i : Int) + 1)).length = i + 1 := (insAt_ord (k := 0) HIO.out).len
              refine ⟨⟨by rw [List.length_map, hil, Nat.mul_one], .inr ⟨g, cap, _, by rw [hil], hgB, hg5, by rw [hil]; exact hnc, hcm, by simp; omega, ?_⟩⟩, by simp [insAt]⟩
              rw [hil, Nat.mul_one, Array.toList_setIfInBounds]
              have hkie := HKE.out; first | (subst hkie; exact ins_last HDR.out HTK.out _) | (rw [hkie]; exact ins_last HDR.out HTK.out _)
            have HOR := hid (insAt_ord (k := 0) HIO.out)
            clear hold hg5 hgx hBx
            have zk : (0 : Int) ≤ 0 ∧ 0 < (i : Int) + 1 := by omega
            go_wp2_with fail
            go_roundw
            case rel => exact ⟨i + 1, insAt l 0 ((i : Int) + 1), by omega, by go_num, hN5, HOR.out, hB5⟩
            case measure => simp [intOf]; omega
          · refine Go.Proofs.YthgkklahiclcpaaDoor.wp_region_L 8 7 (fun _ => True) (by kernel_rfl) rfl trivial (fun hS => ?_)
            refine wpAnyL_pure (i := 0) (v := .slice (some ⟨g, 0, none⟩) (i + 1) cap) (by simp only [List.getElem?_toArray, List.getElem?_cons_zero] <;> rfl) (by kernel_rfl) (by kernel_rfl) (by kernel_rfl) (by exact fun _ _ _ h => h) (by decide) hS (Or.inl ⟨by rfl, fun w _ => (by simp [execOp, go_sem, Act.eval])⟩) (fun hS => ?_)
            simp only [Act.put, List.setIfInBounds_toArray, List.set_cons_zero, List.set_cons_succ]
            refine wpAnyL_pure (i := 1) (v := .int .i64 0) (by simp only [List.getElem?_toArray, List.getElem?_cons_zero, List.getElem?_cons_succ] <;> rfl) (by kernel_rfl) (by kernel_rfl) (by kernel_rfl) (by exact fun _ _ _ h => h) (by decide) hS (Or.inl ⟨by rfl, fun w _ => (by simp [execOp, go_sem, Act.eval])⟩) (fun hS => ?_)
            simp only [Act.put, List.setIfInBounds_toArray, List.set_cons_zero, List.set_cons_succ]
            refine wpAnyL_pure (i := 2) (v := .int .i64 (0 + 1)) (by simp only [List.getElem?_toArray, List.getElem?_cons_zero, List.getElem?_cons_succ] <;> rfl) (by kernel_rfl) (by kernel_rfl) (by kernel_rfl) (by exact fun _ _ _ h => h) (by decide) hS (Or.inl ⟨by rfl, fun w _ => (by simp [execOp, go_sem, Act.eval, zs3])⟩) (fun hS => ?_)
            simp only [Act.put, List.setIfInBounds_toArray, List.set_cons_zero, List.set_cons_succ]
            refine wpAnyL_pure (i := 3) (v := .slice (some ⟨g, 0 + 1, none⟩) (i + 1 - (0 + 1)) (cap - (0 + 1))) (by simp only [List.getElem?_toArray, List.getElem?_cons_zero, List.getElem?_cons_succ] <;> rfl) (by kernel_rfl) (by kernel_rfl) (by kernel_rfl) (by exact fun _ _ _ h => h) (by decide) hS (Or.inl ⟨by rfl, fun w _ => (by simp [execOp, go_sem, Act.eval, zs1, zs4, hkc2])⟩) (fun hS => ?_)
            simp only [Act.put, List.setIfInBounds_toArray, List.set_cons_zero, List.set_cons_succ]
            refine wpAnyL_pure (i := 4) (v := .slice (some ⟨g, 0, none⟩) (i + 1) cap) (by simp only [List.getElem?_toArray, List.getElem?_cons_zero, List.getElem?_cons_succ] <;> rfl) (by kernel_rfl) (by kernel_rfl) (by kernel_rfl) (by exact fun _ _ _ h => h) (by decide) hS (Or.inl ⟨by rfl, fun w _ => (by simp [execOp, go_sem, Act.eval])⟩) (fun hS => ?_)
            simp only [Act.put, List.setIfInBounds_toArray, List.set_cons_zero, List.set_cons_succ]
            refine wpAnyL_pure (i := 5) (v := .int .i64 0) (by simp only [List.getElem?_toArray, List.getElem?_cons_zero, List.getElem?_cons_succ] <;> rfl) (by kernel_rfl) (by kernel_rfl) (by kernel_rfl) (by exact fun _ _ _ h => h) (by decide) hS (Or.inl ⟨by rfl, fun w _ => (by simp [execOp, go_sem, Act.eval])⟩) (fun hS => ?_)
            simp only [Act.put, List.setIfInBounds_toArray, List.set_cons_zero, List.set_cons_succ]
            refine wpAnyL_pure (i := 6) (v := .slice (some ⟨g, 0, none⟩) (i + 1 - 0) (cap - 0)) (by simp only [List.getElem?_toArray, List.getElem?_cons_zero, List.getElem?_cons_succ] <;> rfl) (by kernel_rfl) (by kernel_rfl) (by kernel_rfl) (by exact fun _ _ _ h => h) (by decide) hS (Or.inl ⟨by rfl, fun w _ => (by simp [execOp, go_sem, Act.eval, zs5, hkc3])⟩) (fun hS => ?_)
            simp only [Act.put, List.setIfInBounds_toArray, List.set_cons_zero, List.set_cons_succ]
            refine wpAnyL_one (i := 7) (by kernel_rfl) (by simp only [List.getElem?_toArray, List.getElem?_cons_zero, List.getElem?_cons_succ] <;> rfl) (by rfl) ?_
            have hcp := run_copy_none (P := Tryd.prog) w3.drew 25 25 3 3 (some ⟨g, 0 + 1, none⟩) (some ⟨g, 0, none⟩) (i + 1 - (0 + 1)) (cap - (0 + 1)) (i + 1 - 0) (cap - 0) Tryd.underlying25 hsz1 (by show min (i + 1 - 0) (i + 1 - (0 + 1)) = 0; have := HKE.out; omega)
            refine Lib.wp_copy_run w3.drew _ _ 25 25 rfl _ _ rfl rfl hcp ?_
            refine ⟨.inl (by kernel_rfl), ?_⟩
            simp only [Act.put]
            refine wpAnyL_done (by kernel_rfl) ?_ _
            have hgx : w3.drew.heap[g]? = some (.cells cur 3 (0, 0)) := HGC.out
            have hBx := hB3.drew
            generalize w3.drew = w4 at *
            have HKC2 := hid hkc2
            clear hcp hS hkc2 HGC
            have hsz4 : 0 < (cur).size := by omega
            obtain ⟨old, hold⟩ : ∃ old, (cur)[0]? = some old := ⟨_, Array.getElem?_eq_getElem hsz4⟩
            have c4 : w4.cell? ⟨g, 0, none⟩ = some old := by simp only [World.cell?, hgx]; exact hold
            have f4 : w4.frozen? ⟨g, 0, none⟩ = false := by simp [World.frozen?, hgx]
            have hg5 : (w4.setCell ⟨g, 0, none⟩ (.int .i64 ((i : Int) + 1))).heap[g]? = some (.cells ((cur).setIfInBounds 0 (.int .i64 ((i : Int) + 1))) 3 (0, 0)) := by
              rw [setCell_eq_setRow w4 g 0 _ 3 (0, 0) _ hgx]
              exact setRow_heap w4 g _ _ 3 _ hgx
            have hB5 := hBx.setCell (p := ⟨g, 0, none⟩) hgB (.int .i64 ((i : Int) + 1))
            have hN5 : NewInts (w4.setCell ⟨g, 0, none⟩ (.int .i64 ((i : Int) + 1))) w.heap.size (.slice (some ⟨g, 0, none⟩) (i + 1) cap) (insAt l 0 ((i : Int) + 1)) := by
              have hil : (insAt l 0 ((i : Int) + 1)).length = i + 1 := (insAt_ord (k := 0) HIO.out).len
              refine ⟨⟨by rw [List.length_map, hil, Nat.mul_one], .inr ⟨g, cap, _, by rw [hil], hgB, hg5, by rw [hil]; exact hnc, hcm, by simp; omega, ?_⟩⟩, by simp [insAt]⟩
              rw [hil, Nat.mul_one, Array.toList_setIfInBounds]
              have hkie := HKE.out; first | (subst hkie; exact ins_last HDR.out HTK.out _) | (rw [hkie]; exact ins_last HDR.out HTK.out _)
            have HOR := hid (insAt_ord (k := 0) HIO.out)
            clear hold hg5 hgx hBx
            have zk : (0 : Int) ≤ 0 ∧ 0 < (i : Int) + 1 := by omega
            go_wp2_with fail
            go_roundw
            case rel => exact ⟨i + 1, insAt l 0 ((i : Int) + 1), by omega, by go_num, hN5, HOR.out, hB5⟩
            case measure => simp [intOf]; omega
    · obtain rfl : i = n := by omega
      go_wp2_with fail
      go_ret
      exact ⟨_, l, rfl, hO, HIO.out, hB⟩
end Go.Proofs.YthgkklahiclcpaaDoor
