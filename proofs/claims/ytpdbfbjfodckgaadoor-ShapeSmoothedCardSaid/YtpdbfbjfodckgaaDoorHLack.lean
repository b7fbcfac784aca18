/- Walks: the iterator over the variables that are in one set and not in another one. -/
import Derived.Test.YtpdbfbjfodckgaaDoorHAdd
import Derived.Test.YtpdbfbjfodckgaaDoorVWalk7
import Derived.Test.YtpdbfbjfodckgaaDoorHSep
namespace Go.Proofs.YtpdbfbjfodckgaaDoor
open Go.RowKit Go.Shelf
attribute [local go_sem] Oper.semAt_some

/-- The row of the slice that lies in the variable ib. -/
def rowI (w : World) (ib : Nat) : Option Nat := match w.cell? ⟨ib, 0, none⟩ with | some v => v.ownBlock | none => none
theorem rowI_same {w w' : World} {ib : Nat} (h : w'.heap[ib]? = w.heap[ib]?) : rowI w' ib = rowI w ib := by
  unfold rowI; rw [World.cell?_of_block (a := ⟨ib, 0, none⟩) h]
/-- Rows of numbers stay, but for that of the slice in the variable ib. -/
structure KeepI (ib : Nat) (A B : World) : Prop where
  size : A.heap.size ≤ B.heap.size
  ints : ∀ (k : Nat) (cs : Array Value), A.heap[k]? = some (.cells cs 3 (0, 0)) → rowI A ib ≠ some k → B.heap[k]? = A.heap[k]?
  row : rowI B ib = rowI A ib ∨ ∃ r, rowI B ib = some r ∧ A.heap.size ≤ r
theorem KeepI.trans {ib : Nat} {A B C : World} (h : KeepI ib A B) (k : KeepI ib B C) : KeepI ib A C := by
  refine ⟨Nat.le_trans h.size k.size, fun i cs hi h1 => ?_, ?_⟩
  · have e1 := h.ints i cs hi h1
    have hlt := (Array.getElem?_eq_some_iff.1 hi).1
    refine (k.ints i cs (e1.trans hi) ?_).trans e1
    rcases h.row with e | ⟨r, e, hr⟩
    · rw [e]; exact h1
    · rw [e]; intro e2; cases e2; omega
  · rcases k.row with e | ⟨r, e, hr⟩
    · rw [e]; exact h.row
    · exact .inr ⟨r, e, Nat.le_trans h.size hr⟩
theorem KeepI.of_below {ib : Nat} {A B : World} (hb : Below A.heap.size A B) (hi : ib < A.heap.size) : KeepI ib A B :=
  ⟨hb.size, fun k _ hk _ => hb.block k (Array.getElem?_eq_some_iff.1 hk).1, .inl (rowI_same (hb.block ib hi))⟩
theorem KeepI.book {ib B : Nat} (hib : ib < B) : ∀ (W : World) (l : Nat) (o o' : Obj), B ≤ l → W.heap[l]? = some o → o.isCells = false → o.isWalk = false → KeepI ib W (W.putObj l o') := fun W l o o' hl ho hc _ =>
  ⟨by simp [World.putObj], fun k cs hk _ => World.putObj_heap_other (by intro e; subst e; rw [ho] at hk; injection hk with hk; subst hk; cases hc), .inl (rowI_same (World.putObj_heap_other (by omega)))⟩
set_option maxHeartbeats 400000 in
theorem lacking_c (a b : VS) (w : World) :
    Calls Tryd.prog 70 #[encS a, encS b] w fun e w' => e = .returned (.func (.func 80) #[] #[.pointer (some ⟨w.heap.size, 0, none⟩), .pointer (some ⟨w.heap.size + 1, 0, none⟩)]) ∧
      w' = (w.alloc (.cells #[.int .u64 ((lw a).toNat : Int), .int .u64 ((hw a).toNat : Int)] 42 (0, 0))).alloc (.cells #[.int .u64 ((lw b).toNat : Int), .int .u64 ((hw b).toNat : Int)] 42 (0, 0)) := by
  go_enter Tryd.func70, Tryd.ntmps70
  go_wp2
  go_ret
  exact ⟨rfl, rfl⟩
/-- A variable's number. -/
abbrev VarI := { x : Int // 1 ≤ x ∧ x ≤ 128 }
theorem mems_vars (s : VS) : ∃ ml : List VarI, ml.map Subtype.val = mems s := by
  have h : ∀ l : List Int, (∀ x ∈ l, 1 ≤ x ∧ x ≤ 128) → ∃ ml : List VarI, ml.map Subtype.val = l := by
    intro l
    induction l with
    | nil => exact fun _ => ⟨[], rfl⟩
    | cons x l ih =>
      intro h
      obtain ⟨ml, e⟩ := ih fun y hy => h y (List.mem_cons_of_mem _ hy)
      exact ⟨⟨x, h x List.mem_cons_self⟩ :: ml, by rw [List.map_cons, e]⟩
  exact h _ fun x hx => has_range ((mem_mems s x).1 hx)
set_option maxRecDepth 100000 in
set_option maxHeartbeats 4000000 in
theorem lacking_stops (n : Nat) (hn : 1 ≤ n) (ba bb ib : Nat) (a b : VS) (w : World) (hA : SetVar w ba a) (hB : SetVar w bb b) (hT : TabAt w) (hib : ib < w.heap.size) (hr : ∀ r, rowI w ib = some r → r < w.heap.size) :
    SeqStopsK Fence.wide n Tryd.prog 80 #[.pointer (some ⟨ba, 0, none⟩), .pointer (some ⟨bb, 0, none⟩)] (fun x : VarI => #[Value.int .i64 x.1]) (KeepI ib) (fun ys => ys.map Subtype.val = mems (minus a b)) (fun _ => True) 128 w := by
  intro l J Jx W hW hJ _ hY h0
  obtain ⟨c0, c1, _, _⟩ := (hA.below hW hA.lt).cells
  obtain ⟨d0, d1, _, _⟩ := (hB.below hW hB.lt).cells
  have HT := hid (hT.below hT.lt hW)
  have HJ := hid hJ
  have HY := hid hY
  have HROW := hid (show ∀ r, rowI W ib = some r → r < W.heap.size from fun r e => Nat.lt_of_lt_of_le (hr r (by rw [← rowI_same (hW.block ib hib)]; exact e)) hW.size)
  have HIB := hid (Nat.lt_of_lt_of_le hib hW.size)
  have HJ0 := hid h0
  clear hJ hY h0 hr hib hT hA hB hW
  refine callsIn_of_wp Tryd.func80 rfl trivial ?_ rfl
  simp only [Tryd.ntmps80, List.size_toArray, List.length_cons, List.length_nil, Nat.reduceAdd, Nat.reduceSub, Array.replicate_succ, Array.replicate_zero, List.push_toArray, List.append_toArray, List.nil_append, List.cons_append]
  gi_wp2_with fail
  refine ⟨trivial, ?_⟩
  refine (callsIn_wide.2 (Minus_c a b _)).mono ?_
  rintro e w1 ⟨rfl, hb1⟩
  gi_wp2_with fail
  refine ⟨trivial, ?_⟩
  refine (callsIn_wide.2 (List_c (minus a b) w1 (HT.out.below HT.out.lt hb1))).mono ?_
  rintro e w2 ⟨vl, rfl, hnl, hb2⟩
  have hml := mems_length (minus a b)
  obtain ⟨s, hs⟩ : ∃ s, s = minus a b := ⟨_, rfl⟩
  rw [← hs] at hnl hml ⊢
  have HS := hid hs
  obtain ⟨ml, hml2⟩ := mems_vars s
  rw [← hml2] at hnl hml
  have HML := hid hml2
  have HB2 := hid (hb1.trans (hb2.mono hb1.size))
  have HJ2 := hid (HJ.out _ _ _ none HJ0.out (grown_below HB2.out none) (fun r e => by cases e))
  obtain ⟨pl, cl, rfl, hdrop⟩ := hnl.ints
  clear hdrop
  have HOW := hid hnl.1
  have HB1 := hid hb1.size
  obtain ⟨m, hm⟩ : ∃ m, m = (ml.map Subtype.val).length := ⟨_, rfl⟩
  have HM := hid hm
  rw [← hm] at hml ⊢
  have HNE := hid (show ∀ j, (Value.slice pl (ml.map Subtype.val).length cl).ownBlock = some j → rowI w2 ib ≠ some j from fun j e e2 => by
    have h1 := (own_ge HOW.out e).1
    have h2 := HROW.out j (by rw [← rowI_same (HB2.out.block ib HIB.out)]; exact e2)
    have := HB1.out; omega)
  clear hm hs hnl hb1 hb2 HJ0
  gi_wp2_with fail
  gi_loopw [11] (fun z wr => ∃ (k : Nat), k ≤ m ∧ z = .int .i64 k ∧ Hid (J (ml.take k) wr) ∧ Hid (OwnInts wr w1.heap.size (.slice pl (ml.map Subtype.val).length cl) (ml.map Subtype.val)) ∧ Hid (∀ j, (Value.slice pl (ml.map Subtype.val).length cl).ownBlock = some j → rowI wr ib ≠ some j)) (fun z _ => m - (intOf z).toNat)
  case atStart => exact ⟨0, Nat.zero_le _, rfl, HJ2.out, HOW.out, HNE.out⟩
  case round =>
    clear HJ2 HOW HNE
    obtain ⟨k, hk, rfl, hj, how, hne⟩ := hrel
    by_cases hkl : k < m
    · have hkm0 : k < (ml.map Subtype.val).length := by rw [← HM.out]; exact hkl
      have hkm : k < ml.length := by rw [List.length_map] at hkm0; exact hkm0
      obtain ⟨g, cg, eg, _, hgl, hcg⟩ := how.out.cells (by omega)
      injection eg with eg1 eg2 eg3
      clear eg2 eg3
      subst eg1
      obtain ⟨y0, _⟩ := hcg k hkm0
      rw [List.getElem_map] at y0
      have hlen : (ml.take k).length < 128 := by rw [List.length_take]; omega
      obtain ⟨fn, tmps, assign, body, hy, hR⟩ := HY.out _ ml[k] wr hj.out hlen
      have HTS := hid (List.take_succ_eq_append_getElem hkm)
      have HOW := hid how.out
      have HNE := hid hne.out
      have zk : (0 : Int) ≤ (k : Int) ∧ (k : Int) < (m : Int) := by omega
      generalize ml[k] = x at *
      clear hcg hj how hne hlen
      gi_wp2_with fail
      refine hR.mono ?_
      rintro e W3 (⟨rfl, hJ3, hk3⟩ | ⟨rfl, hJx3⟩)
      · have HJ3 := hid (show J (ml.take (k + 1)) W3 from by rw [HTS.out]; exact hJ3)
        have hgt := own_type HOW.out (k := g) rfl
        obtain ⟨cs, hcs⟩ := hgt
        have HOW3 := hid (own_same HOW.out (fun j e => by cases e; exact hk3.ints g cs hcs (HNE.out g rfl)))
        have HNE3 := hid (show ∀ j, (Value.slice (some ⟨g, 0, none⟩) (ml.map Subtype.val).length cl).ownBlock = some j → rowI W3 ib ≠ some j from fun j e e2 => by
          cases e
          rcases hk3.row with e3 | ⟨r, e3, hr3⟩
          · rw [e3] at e2; exact HNE.out g rfl e2
          · rw [e3] at e2; injection e2 with e2; rw [e2] at hr3; exact absurd (Array.getElem?_eq_some_iff.1 hcs).1 (Nat.not_lt.2 hr3))
        clear hcs hk3 hJ3 HNE HOW HTS
        gi_wp2_with fail
        go_roundw
        case rel => exact ⟨k + 1, by omega, by go_num, HJ3.out, HOW3.out, HNE3.out⟩
        case measure => simp [intOf]; omega
      · have HX := hid (show Jx (ml.take (k + 1)) W3 from by rw [HTS.out]; exact hJx3)
        clear hJx3 HTS
        gi_wp2_with fail
        refine bodyPost_ret (results_none rfl _ _ _) rfl ?_
        exact ⟨⟨_, rfl⟩, .inr ⟨_, trivial, HX.out⟩⟩
    · obtain rfl : k = m := by omega
      have HX := hid (show J ml wr from by have := hj.out; rwa [HM.out, List.length_map, List.take_length] at this)
      clear hj how hne
      gi_wp2_with fail
      go_end0
      exact ⟨⟨_, rfl⟩, .inl ⟨_, by rw [HML.out, HS.out], HX.out⟩⟩
end Go.Proofs.YtpdbfbjfodckgaaDoor
