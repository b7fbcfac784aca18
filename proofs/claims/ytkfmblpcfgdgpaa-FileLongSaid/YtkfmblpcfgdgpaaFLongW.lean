/- The walk of the law FileLong. -/
import Derived.Test.YtkfmblpcfgdgpaaFLongP
import Derived.Test.YtkfmblpcfgdgpaaFSeesW
import Derived.Lib.AppendZerosOnto
namespace Go.Proofs.Ytkfmblpcfgdgpaa
open Go.RowKit

/-- A row of nodes whose inputs may be shared. -/
theorem row_nodes {w : World} {base : Nat} {v : Value} {L : List NodeT} {vs : List Value} (h : w.ownsRow base 46 3 v L.length (nodeCells L vs))
    (hi : ∀ i (h : i < L.length), ∃ u, vs[i]? = some u ∧ IntsAt w u L[i].ins ∧ L[i].ins.length ≤ 140737488355328) : NodesAt w v L := by
  rcases h.2 with ⟨rfl, h0⟩ | ⟨g, cap, cur, rfl, _, hg, hn, _, hs, ht⟩
  · have : L = [] := by simpa using h0
    subst this; exact ⟨none, 0, rfl, .inl rfl⟩
  · refine ⟨_, _, rfl, .inr ⟨g, 0, rfl, fun i hil => ?_⟩⟩
    obtain ⟨u, h1, h2, h3⟩ := hi i hil
    obtain ⟨e0, e1, e2⟩ := nodeCells_get L vs i hil u h1
    have key : ∀ j y, j < L.length * 3 → (nodeCells L vs)[j]? = some y → w.cell? ⟨g, j, none⟩ = some y := fun j y hj e => by
      rw [← ht, List.getElem?_take, if_pos hj] at e
      simp only [World.cell?, hg]
      rw [← Array.getElem?_toList]; exact e
    refine ⟨u, ⟨?_, ?_, ?_, h2, h3⟩⟩
    · rw [Nat.zero_add]; exact key _ _ (by omega) e0
    · rw [Nat.zero_add]; exact key _ _ (by omega) e1
    · rw [Nat.zero_add]; exact key _ _ (by omega) e2
def wideV (IV : Value) (k : Nat) : List Value := .slice none 0 0 :: List.replicate k IV
/-- What stands in a round. -/
structure LongSt (w1 wr : World) (px : Nat) (IV v : Value) (N k : Nat) : Prop where
  row : wr.ownsRow w1.heap.size 46 3 v (k + 1) (nodeCells (wideL N k) (wideV IV k))
  box : wr.heap[px]? = some (.cells #[.int .i64 1, v] 24 (0, 0))
  low : Below w1.heap.size w1 wr
theorem LongSt.nodes {w1 wr : World} {px : Nat} {IV v : Value} {N k : Nat} (h : LongSt w1 wr px IV v N k) (hI : IntsAt w1 IV (zs N)) (hN : N ≤ 140737488355328) : NodesAt wr v (wideL N k) := by
  have hr := h.row
  rw [← wideL_length N k] at hr
  refine row_nodes hr fun i hi => ?_
  rw [wideL_length] at hi
  cases i with
  | zero => exact ⟨_, rfl, ⟨none, 0, rfl, .inl rfl⟩, Nat.zero_le _⟩
  | succ i =>
    refine ⟨IV, by simp [wideV, List.getElem?_replicate]; omega, ?_, ?_⟩
    · have : (wideL N k)[i + 1]'(by rw [wideL_length]; omega) = orN N := by simp [wideL]
      rw [this]; exact hI.below h.low
    · have : (wideL N k)[i + 1]'(by rw [wideL_length]; omega) = orN N := by simp [wideL]
      rw [this]; show (zs N).length ≤ _; rw [zs_length]; exact hN
theorem wideV_succ (IV : Value) (k : Nat) : wideV IV (k + 1) = wideV IV k ++ [IV] := by simp [wideV, List.replicate_succ']
theorem wide_cells (IV : Value) (N k : Nat) : nodeCells (wideL N (k + 1)) (wideV IV (k + 1)) = nodeCells (wideL N k) (wideV IV k) ++ [.int .i64 4, .int .i64 0, IV] := by
  rw [wideL_succ, wideV_succ, nodeCells_snoc _ _ _ _ (by rw [wideL_length]; simp [wideV])]; rfl
theorem zs_take (n m : Nat) (h : m ≤ n) : (zs n).take m = zs m := by simp [zs, Nat.min_eq_left h]
theorem ints_zs {w : World} {g N : Nat} {cur : Array Value} (h : w.heap[g]? = some (.cells cur 3 (0, 0))) (ht : cur.toList.take N = List.replicate N (.int .i64 0)) (m c : Nat) (hm : m ≤ N) : IntsAt w (.slice (some ⟨g, 0, none⟩) m c) (zs m) := by
  refine ⟨some ⟨g, 0, none⟩, c, by rw [zs_length], .inr ⟨g, 0, rfl, fun i hi => ?_⟩⟩
  rw [zs_length] at hi
  have h1 : cur[i]? = some (.int .i64 0) := by
    have := congrArg (fun x => x[i]?) ht
    simp only [List.getElem?_take, List.getElem?_replicate] at this
    rw [if_pos (by omega), if_pos (by omega)] at this
    rw [← Array.getElem?_toList]; exact this
  simp [World.cell?, h, h1, zs, List.getElem?_replicate, hi]
theorem LongSt.below {w1 wr wr' : World} {px : Nat} {IV v : Value} {N k : Nat} (h : LongSt w1 wr px IV v N k) (hb : Below wr.heap.size wr wr') : LongSt w1 wr' px IV v N k :=
  ⟨h.row.kept (grownBy_of_below hb none) (by cases hv : v.ownBlock <;> simp), (hb.block _ (box_lt h.box)).trans h.box, h.low.trans (hb.mono h.low.size)⟩
theorem long_more {wr : World} {B : Nat} {IV IV7 v : Value} {N M k : Nat} (hr : wr.ownsRow B 46 3 v (k + 1 + 1) (nodeCells (wideL N k) (wideV IV k) ++ [.int .i64 4, .int .i64 0, IV7]))
    (hI : IntsAt wr IV (zs N)) (h7 : IntsAt wr IV7 (zs M)) (hN : N ≤ 140737488355328) (hM : M ≤ 140737488355328) : NodesAt wr v (wideL N k ++ [orN M]) := by
  have e : nodeCells (wideL N k ++ [orN M]) (wideV IV k ++ [IV7]) = nodeCells (wideL N k) (wideV IV k) ++ [.int .i64 4, .int .i64 0, IV7] := by
    rw [nodeCells_snoc _ _ _ _ (by rw [wideL_length]; simp [wideV])]; rfl
  have hl : (wideL N k ++ [orN M]).length = k + 1 + 1 := by rw [List.length_append, wideL_length]; rfl
  rw [← e, ← hl] at hr
  refine row_nodes hr fun i hi => ?_
  rw [hl] at hi
  by_cases hk : i = k + 1
  · subst hk
    have e2 : (wideL N k ++ [orN M])[k + 1]'(by rw [hl]; omega) = orN M := by
      rw [List.getElem_append_right (by rw [wideL_length]; omega)]; simp
    refine ⟨IV7, ?_, by rw [e2]; exact h7, by rw [e2]; show (zs M).length ≤ _; rw [zs_length]; exact hM⟩
    rw [List.getElem?_append_right (by simp [wideV])]
    simp [wideV]
  · cases i with
    | zero => exact ⟨_, rfl, ⟨none, 0, rfl, .inl rfl⟩, Nat.zero_le _⟩
    | succ i =>
      have e2 : (wideL N k ++ [orN M])[i + 1]'(by rw [hl]; omega) = orN N := by
        rw [List.getElem_append_left (by rw [wideL_length]; omega)]; simp [wideL]
      refine ⟨IV, ?_, by rw [e2]; exact hI, by rw [e2]; show (zs N).length ≤ _; rw [zs_length]; exact hN⟩
      rw [List.getElem?_append_left (by simp [wideV]; omega)]
      simp [wideV, List.getElem?_replicate]; omega
theorem info_u8 : (Try.prog.info? 5).map (fun i => (i.zero, i.size, i.bytes)) = some (some (.int .u8 0), 1, 1) := by kernel_rfl
theorem cap_fits (n k c : Nat) (h : c ≤ n) (hn : n + k ≤ 33554432) : Builtin.nextslicecap (n + k) c * 1 ≤ 281474976710656 := by
  have hg : ∀ r c : Nat, c ≤ 33554432 → Builtin.growBy (n + k) r c ≤ 33554432 + 33554432 * r ∨ True := fun _ _ _ => .inr trivial
  unfold Builtin.nextslicecap
  split
  · omega
  · split
    · omega
    · simp only [Builtin.growBy]
      repeat' split
      all_goals omega
/-- Bytes with zeros behind them. -/
theorem append_zeros (w : World) (g n : Nat) (l : List UInt8) (Z : Nat) (hl : l.length = n) (hI : BytesAt w (.slice (some ⟨g, 0, none⟩) n n) l) (h0 : 0 < Z) (hn : n + Z ≤ 33554432) (hn0 : 0 < n) (ty : TypeId) :
    ∃ v w', (Builtin.append_ #[28, 3] ty #[.slice (some ⟨g, 0, none⟩) n n, .int .i64 (Z : Int)]).run Try.prog w = .ok v w' ∧ (∃ c, v = .slice (some ⟨w.heap.size, 0, none⟩) (n + Z) c ∧ n + Z ≤ c ∧ c ≤ maxLen) ∧ BytesAt w' v (l ++ List.replicate Z 0) ∧ Below w.heap.size w w' := by
  obtain ⟨i0, hi, hz0, hz1, hz2⟩ := info_parts info_u8
  obtain ⟨p, c, e, hp⟩ := hI
  injection e with e1 e2 e3
  obtain ⟨b, off, e4, hc⟩ := hp.resolve_left (by intro e; rw [e] at hl; simp at hl; omega)
  rw [← e1] at e4
  injection e4 with e4
  injection e4 with e5 e6 e7
  subst e5; subst e6
  have hold := run_firstCells_some (P := Try.prog) w.drew i0.size n ⟨g, 0, none⟩ n n (l.map encB) (by rw [hz1, List.length_map, hl, Nat.mul_one]) (fun j v hj => by
    have hjl : j < l.length := by have := (List.getElem?_eq_some_iff.1 hj).1; simpa using this
    rw [List.getElem?_map, List.getElem?_eq_getElem hjl] at hj
    rw [Addr.add_lit, ← Option.some.inj hj]
    exact hc j hjl)
  have hr := Lib.run_append_grow_zeros (P := Try.prog) w 28 3 ty 5 i0 (.int .u8 0) .i64 _ Try.underlying28 Try.underlying3 hi hz0 (some ⟨g, 0, none⟩) n n (l.map encB) hold Z h0 (by omega) (by omega) (by omega) (by rw [hz2]; omega) (by rw [hz2]; exact cap_fits n Z n (Nat.le_refl _) hn)
  have hge := grownCap_ge w (n + Z) n 5
  have hle := grownCap_le_maxLen w (n + Z) n 5 (by unfold maxLen; omega)
  refine ⟨_, _, hr, ⟨_, rfl, hge, hle⟩, ?_, ((Below.refl _ w).drew).alloc (Nat.le_refl _) _⟩
  have hll : (l ++ List.replicate Z (0 : UInt8)).length = n + Z := by simp [hl]
  have := bytes_of_take (c := grownCap w (n + Z) n 5) (l := l ++ List.replicate Z (0 : UInt8)) (heap_alloc_new w.drew (.cells ((l.map encB).toArray ++ Builtin.zeroCells (Value.int .u8 0).cells Z ++ Builtin.zeroCells (Value.int .u8 0).cells (grownCap w (n + Z) n 5 - (n + Z))) 5)) (by
    have hzc : (Builtin.zeroCells (Value.int .u8 0).cells Z).toList = List.replicate Z (.int .u8 0) := by
      have := toList_madeCells_one (.int .u8 0) (Z * 1)
      rw [Nat.mul_one] at this
      exact (show (Builtin.zeroCells (Value.int .u8 0).cells Z).toList = (madeCells #[.int .u8 0] (Z * 1)).toList from rfl).trans (by rw [Nat.mul_one]; exact this)
    rw [Array.toList_append, Array.toList_append, hzc, List.map_append, List.map_replicate]
    have e : (l.map encB ++ List.replicate Z (encB 0)).length = (l ++ List.replicate Z (0 : UInt8)).length := by simp
    rw [← e]
    exact List.take_left)
  rw [hll] at this
  exact this
set_option maxRecDepth 100000 in
set_option maxHeartbeats 8000000 in
theorem fileLong_walk (w : World) : Calls Try.prog 12 #[] w (LawPost w) := by
  obtain ⟨i0, hi, hz0, hz1, hz2⟩ := info_parts info_int
  obtain ⟨i1, hi', hz0', hz1', hz2'⟩ := info_parts info_node
  obtain ⟨N, HN⟩ : ∃ N : Nat, Hid (N = 132000) := ⟨_, rfl⟩
  go_enter Try.func12, Try.ntmps12
  go_wp2_with (at_make; refine wpList_make_full _ rfl _ _ 44 rfl w.heap.size 3 i0 (.int .i64 0) 1 Try.underlying44 hi hz0 hz1 _ _ 132000 132000 N rfl rfl (by have := HN.out; omega) (by have := HN.out; omega) (by rw [hz2]; have := HN.out; omega) (by unfold maxLen; have := HN.out; omega) (Nat.le_refl _) ?_; intro w1 hown1 hgrow1)
  have hnew : ∃ cur, w1.heap[w.heap.size]? = some (.cells cur 3 (0, 0)) ∧ cur.toList.take N = List.replicate N (.int .i64 0) := by
    rcases hown1.2 with ⟨h, _⟩ | ⟨g, cap, cur, h, _, hg, _, _, _, ht⟩
    · cases h
    · injection h with h1 _ _
      injection h1 with h1
      injection h1 with h1 _ _
      subst h1
      rw [Nat.mul_one] at ht
      exact ⟨cur, hg, ht.trans (toList_madeCells_one _ _)⟩
  obtain ⟨cur, hcur, htake⟩ := hnew
  have HK1 : Hid (N ≤ 140737488355328) := hid (by show N ≤ 140737488355328; have := HN.out; omega)
  have hB1 : Below w.heap.size w w1 := (Below.refl _ w).grown hgrow1 (Nat.le_refl _) (fun k e => by cases e)
  have hI1 := ints_zs hcur htake N N (Nat.le_refl _)
  clear hown1 hgrow1
  have hst0 : LongSt w1 ((w1.alloc (.cells #[.int .i64 2, .int .i64 1, .slice none 0 0] 46)).alloc (.cells #[.int .i64 1, .slice (some ⟨w1.heap.size, 0, none⟩) 1 1] 24)) (w1.heap.size + 1) (.slice (some ⟨w.heap.size, 0, none⟩) N N) (.slice (some ⟨w1.heap.size, 0, none⟩) 1 1) N 0 := by
    refine ⟨?_, ?_, ((Below.refl _ w1).alloc (Nat.le_refl _) _).alloc (by simp) _⟩
    · refine ⟨rfl, .inr ⟨w1.heap.size, 1, #[.int .i64 2, .int .i64 1, .slice none 0 0], rfl, Nat.le_refl _, ?_, Nat.le_refl _, by decide, rfl, by simp [wideL, wideV, nodeCells, litN]⟩⟩
      rw [heap_alloc_old _ _ (by simp)]
      exact heap_alloc_new w1 _
    · have := heap_alloc_new (w1.alloc (.cells #[.int .i64 2, .int .i64 1, .slice none 0 0] 46)) (.cells #[.int .i64 1, .slice (some ⟨w1.heap.size, 0, none⟩) 1 1] 24)
      rw [World.size_alloc] at this; exact this
  obtain ⟨K, hK⟩ : ∃ K : Nat, Hid (K = 127) := ⟨_, rfl⟩
  go_wp2_with fail
  generalize ((w1.alloc (.cells #[.int .i64 2, .int .i64 1, .slice none 0 0] 46)).alloc (.cells #[.int .i64 1, .slice (some ⟨w1.heap.size, 0, none⟩) 1 1] 24)) = w2 at *
  go_loopw [20] (fun i wr => ∃ (k : Nat) (v : Value), k ≤ K ∧ i = .int .i64 k ∧ LongSt w1 wr (w1.heap.size + 1) (.slice (some ⟨w.heap.size, 0, none⟩) N N) v N k) (fun i _ => K - (intOf i).toNat)
  case atStart => exact ⟨0, _, Nat.zero_le _, rfl, hst0⟩
  case round =>
    clear hst0
    obtain ⟨k, v, hk, rfl, st⟩ := hrel
    obtain ⟨⟨c0, c1⟩, f0, f1⟩ := box2 st.box
    have hsz := st.low.size
    have hpx := box_lt st.box
    by_cases hlt : k < K
    · have d0 : decide ((k : Int) < 127) = true := decide_eq_true (by have := hK.out; omega)
      have hk1 : k < 127 := by have := hK.out; omega
      have hrow := st.row
      have hne := own_ne_box st.row st.box (by decide)
      have HROW := hid st.row
      have HBOX := hid st.box
      have HLOW := hid st.low
      go_wp2_with (at_builtin; refine wpList_append_own _ rfl _ _ 22 rfl w1.heap.size 46 i1 (.agg #[.int .i64 0, .int .i64 0, .slice none 0 0]) 3 40 Try.underlying22 hi' hz0' hz1' hz2' rfl (by decide) _ _ _ rfl (hrow.alloc _) ⟨wr.heap.size, 0, none⟩ 1 1 [.int .i64 4, .int .i64 0, .slice (some ⟨w.heap.size, 0, none⟩) N N] rfl rfl (World.news_of_block (heap_alloc_new _ _)) (by simp [Value.oneCell']) (by unfold maxLen; omega) (by omega) (by simp; omega) ?_; intro v' w3 hown' hgrow _; obtain ⟨g', cap', rfl⟩ := ownsRow_succ hown'; have hb3 := (hgrow.block (w1.heap.size + 1) (by simp; omega) (fun e => hne e.symm)).trans ((heap_alloc_old wr _ hpx).trans HBOX.out); obtain ⟨⟨m0, m1⟩, g0, g1⟩ := box2 hb3)
      have hlt2 := HROW.out.lt
      have hlow3 : Below w1.heap.size w1 w3 := (HLOW.out.alloc hsz _).grown hgrow (by simp; omega) (fun j e => by have := hlt2 j e; omega)
      have hst3 : LongSt w1 (w3.setCell ⟨w1.heap.size + 1, 1, none⟩ (.slice (some ⟨g', 0, none⟩) (k + 1 + 1) cap')) (w1.heap.size + 1) (.slice (some ⟨w.heap.size, 0, none⟩) N N) (.slice (some ⟨g', 0, none⟩) (k + 1 + 1) cap') N (k + 1) := by
        refine ⟨?_, by have := block_set hb3 (.slice (some ⟨g', 0, none⟩) (k + 1 + 1) cap') 1; simpa using this, hlow3.setCell (p := ⟨w1.heap.size + 1, 1, none⟩) (by show w1.heap.size ≤ w1.heap.size + 1; omega) _⟩
        rw [wide_cells]
        exact World.ownsRow.kept hown' (grownBy_set w3 (w1.heap.size + 1) 1 _) (.inr (own_ne_box hown' hb3 (by decide)))
      go_roundw
      case rel => exact ⟨k + 1, _, by omega, by go_num, hst3⟩
      case measure => simp [intOf]; omega
    · obtain rfl : k = K := by omega
      have d0 : decide ((k : Int) < 127) = false := decide_eq_false (by have := hK.out; omega)
      have hN1 := st.nodes hI1 HK1.out
      have HG := hid (wide_good N k HN.out hK.out)
      have HL := hid (wide_long N k 7000 HN.out hK.out rfl)
      obtain ⟨pv, cv, rfl, hdrop⟩ := id hN1
      clear hdrop
      have HE := hid (Encode_c 1 (wideL N k) _ wr hN1)
      go_wp2_with fail
      refine HE.out.mono ?_
      rintro e w3 ⟨vb, rfl, ho3, hb3⟩
      rw [HG.out.1]
      have hpk : peekR (encBytes ⟨1, wideL N k⟩) = (1, ((wideL N k).length : Int), 0) := peekR_enc HG.out.1
      rw [wideL_length] at hpk
      have hbl := HG.out.2
      rcases ho3 with ⟨_, h⟩ | ⟨g, cur2, rfl, hg1, hg2, hg3, hg4, hg5⟩
      · rw [h] at hbl; exact absurd hbl (by decide)
      have hby : BytesAt w3 (.slice (some ⟨g, 0, none⟩) (encBytes ⟨1, wideL N k⟩).length (encBytes ⟨1, wideL N k⟩).length) (encBytes ⟨1, wideL N k⟩) := bytes_of_take hg2 hg4
      generalize encBytes ⟨1, wideL N k⟩ = bs at *
      obtain ⟨nb, hnb⟩ : ∃ nb : Nat, nb = bs.length := ⟨_, rfl⟩
      rw [← hnb] at hby hbl
      have HNB := hid hnb
      have st3 := st.below hb3
      have HD := hid (Peek_c (some ⟨g, 0, none⟩) nb bs w3 (by rw [← hnb]; exact hby) (by omega) (by omega))
      rw [← hnb] at HD
      have HPK := hid hpk
      have HKK := hid (show (((k + 1 : Nat) : Int) != 128) = false by have := hK.out; simp; omega)
      have hbq : ((nb : Int) != 16764521) = false := by simp; omega
      have HBL := hid hbl
      have HG2 := hid hg2
      have HG4 := hid hg4
      clear hg1 hg2 hg3 hg4 hg5 hpk HE hb3 hnb hbl
      rw [show bs.length = nb from HNB.out.symm]
      go_wp2_with fail
      refine HD.out.mono ?_
      rintro e w4 ⟨rfl, hb4⟩
      rw [HPK.out]
      have st4 := st3.below hb4
      have hgw4 : w4.heap[g]? = some (.cells cur2 5 (0, 0)) := (hb4.block g (box_lt HG2.out)).trans HG2.out
      have HGW4 := hid hgw4
      have hkq := HKK.out
      obtain ⟨⟨c40, c41⟩, f40, f41⟩ := box2 st4.box
      have hsz4 := st4.low.size
      have hpx4 := box_lt st4.box
      have hk1 : k = 127 := hK.out
      have HK1' := hid hk1
      clear HD hby hb4 hgw4 st st3 c0 c1 f0 f1 hk1 hN1
      go_wp2_with fail
      clear hkq hbq
      refine Go.Proofs.Ytkfmblpcfgdgpaa.wp_region_L 9 6 (fun w' => w'.cell? ⟨w1.heap.size + 1, 1, none⟩ = some (.slice pv (wideL N k).length cv)) (by kernel_rfl) rfl (show w4.drew.cell? ⟨w1.heap.size + 1, 1, none⟩ = _ from c41) (fun hS => ?_)
      refine wpAnyL_pure (i := 0) (v := .pointer (some ⟨w1.heap.size + 1, 1, none⟩)) (by simp only [List.getElem?_toArray, List.getElem?_cons_zero, List.getElem?_cons_succ] <;> rfl) (by kernel_rfl) (by kernel_rfl) (by kernel_rfl) (by exact fun _ _ _ h => h) (by decide) hS (Or.inl ⟨by rfl, fun w _ => (by simp [execOp, go_sem, Act.eval])⟩) (fun hS => ?_)
      simp only [Act.put, List.setIfInBounds_toArray, List.set_cons_zero, List.set_cons_succ]
      refine wpAnyL_pure (i := 2) (v := .slice (some ⟨w.heap.size, 0, none⟩) N N) (by simp only [List.getElem?_toArray, List.getElem?_cons_zero, List.getElem?_cons_succ] <;> rfl) (by kernel_rfl) (by kernel_rfl) (by kernel_rfl) (by exact fun _ _ _ h => h) (by decide) hS (Or.inl ⟨by rfl, fun w _ => (by simp [execOp, go_sem, Act.eval])⟩) (fun hS => ?_)
      simp only [Act.put, List.setIfInBounds_toArray, List.set_cons_zero, List.set_cons_succ]
      have z7 : (7000 : Int) ≤ (N : Int) := by have := HN.out; omega
      have z8 : 7000 ≤ N := by have := HN.out; omega
      have z9 : ¬ (N : Int) < 7000 := by omega
      refine wpAnyL_pure (i := 3) (v := .slice (some ⟨w.heap.size, 0, none⟩) 7000 N) (by simp only [List.getElem?_toArray, List.getElem?_cons_zero, List.getElem?_cons_succ] <;> rfl) (by kernel_rfl) (by kernel_rfl) (by kernel_rfl) (by exact fun _ _ _ h => h) (by decide) hS (Or.inl ⟨by rfl, fun w _ => (by simp [execOp, go_sem, Act.eval, z7, z8, z9])⟩) (fun hS => ?_)
      simp only [Act.put, List.setIfInBounds_toArray, List.set_cons_zero, List.set_cons_succ]
      refine wpAnyL_pure (i := 4) (v := .agg #[.int .i64 4, .int .i64 0, .slice (some ⟨w.heap.size, 0, none⟩) 7000 N]) (by simp only [List.getElem?_toArray, List.getElem?_cons_zero, List.getElem?_cons_succ] <;> rfl) (by kernel_rfl) (by kernel_rfl) (by kernel_rfl) (by exact fun _ _ _ h => h) (by decide) hS (Or.inl ⟨by rfl, fun w _ => (by simp [execOp, go_sem, Act.eval])⟩) (fun hS => ?_)
      simp only [Act.put, List.setIfInBounds_toArray, List.set_cons_zero, List.set_cons_succ]
      refine wpAnyL_load (i := 1) (v := .slice pv (wideL N k).length cv) (by simp only [List.getElem?_toArray, List.getElem?_cons_zero, List.getElem?_cons_succ] <;> rfl) (by kernel_rfl) (by kernel_rfl) (by kernel_rfl) (by exact fun _ _ _ h => h) (by decide) ⟨_, rfl, ⟨1, .data⟩, by simp, rfl, rfl⟩ (by kernel_rfl) hS (Or.inl ⟨by rfl, fun w hw => (by have hw : w.cell? ⟨w1.heap.size + 1, 1, none⟩ = some (.slice pv (wideL N k).length cv) := hw; simp [execOp, go_sem, Act.eval, hw])⟩) (fun hS => ?_)
      simp only [Act.put, List.setIfInBounds_toArray, List.set_cons_zero, List.set_cons_succ]
      have c42 : (w4.drew.alloc (.cells #[.int .i64 4, .int .i64 0, .slice (some ⟨w.heap.size, 0, none⟩) 7000 N] 46)).cell? ⟨w1.heap.size + 1, 1, none⟩ = some (.slice pv (wideL N k).length cv) := by
        rw [World.cell?_alloc_lt w4.drew _ ⟨w1.heap.size + 1, 1, none⟩ hpx4]; exact c41
      refine wpAnyL_one (i := 5) (by kernel_rfl) (by simp only [List.getElem?_toArray, List.getElem?_cons_zero, List.getElem?_cons_succ] <;> rfl) (by rfl) ?_
      refine opwp_value (v := .slice (some ⟨w4.heap.size, 0, none⟩) 1 1) (w' := w4.drew.alloc (.cells #[.int .i64 4, .int .i64 0, .slice (some ⟨w.heap.size, 0, none⟩) 7000 N] 46)) (by simp [execOp, go_sem, Act.eval]) ⟨.inr c42, ?_⟩
      simp only [Act.put, List.setIfInBounds_toArray, List.set_cons_zero, List.set_cons_succ]
      refine wpAnyL_one (i := 6) (by kernel_rfl) (by simp only [List.getElem?_toArray, List.getElem?_cons_zero, List.getElem?_cons_succ] <;> rfl) (by rfl) ?_
      have hrow4 : w4.drew.ownsRow w1.heap.size 46 3 (.slice pv (wideL N k).length cv) (k + 1) (nodeCells (wideL N k) (wideV (.slice (some ⟨w.heap.size, 0, none⟩) N N) k)) := st4.row
      refine wp_append_lies _ _ _ 22 rfl w1.heap.size 46 i1 (.agg #[.int .i64 0, .int .i64 0, .slice none 0 0]) 3 40 Try.underlying22 hi' hz0' hz1' hz2' rfl (by decide) _ (k + 1) _ rfl (hrow4.alloc _) ⟨w4.heap.size, 0, none⟩ 1 1 [.int .i64 4, .int .i64 0, .slice (some ⟨w.heap.size, 0, none⟩) 7000 N] rfl (by simp) (World.news_of_block (heap_alloc_new w4.drew _)) (by simp [Value.oneCell']) (by omega) (by unfold maxLen; have := HK1'.out; omega) (by have := HK1'.out; omega) (by simp; omega) _ rfl ?_
      intro gg cap w6 hown6 hgrow6 hat6 hlt6
      have hne4 := own_ne_box st4.row st4.box (by decide)
      have hbox6 : w6.heap[w1.heap.size + 1]? = some (.cells #[.int .i64 1, .slice pv (wideL N k).length cv] 24 (0, 0)) :=
        (hgrow6.block (w1.heap.size + 1) (by simp; omega) (fun e => hne4 e.symm)).trans ((heap_alloc_old w4.drew _ hpx4).trans st4.box)
      obtain ⟨⟨c60, c61⟩, f60, f61⟩ := box2 hbox6
      have hlt4 := st4.row.lt
      have hlow6 : Below w1.heap.size w1 w6 := (st4.low.drew.alloc hsz4 _).grown hgrow6 (by simp; omega) (fun j e => by have := hlt4 j e; omega)
      refine ⟨.inl (by kernel_rfl), ?_⟩
      simp only [Act.put, List.setIfInBounds_toArray, List.set_cons_zero, List.set_cons_succ]
      refine wpAnyL_one (i := 7) (by kernel_rfl) (by simp only [List.getElem?_toArray, List.getElem?_cons_zero, List.getElem?_cons_succ] <;> rfl) (by rfl) ?_
      refine opwp_value (v := .pointer (some ⟨w1.heap.size + 1, 1, none⟩)) (w' := w6) (by simp [execOp, go_sem, Act.eval]) ⟨.inl (by kernel_rfl), ?_⟩
      simp only [Act.put, List.setIfInBounds_toArray, List.set_cons_zero, List.set_cons_succ]
      refine wpAnyL_one (i := 8) (by kernel_rfl) (by simp only [List.getElem?_toArray, List.getElem?_cons_zero, List.getElem?_cons_succ] <;> rfl) (by rfl) ?_
      refine opwp_skip (w' := w6.setCell ⟨w1.heap.size + 1, 1, none⟩ (.slice (some ⟨gg, 0, none⟩) (k + 1 + 1) cap)) (by simp [execOp, go_sem, Act.eval, c61, f61]) ⟨.inl (by kernel_rfl), ?_⟩
      simp only [Act.put]
      refine wpAnyL_done (by kernel_rfl) ?_ _
      have hcur1 : w1.heap[w.heap.size]? = some (.cells cur 3 (0, 0)) := hcur
      have hlow7 := hlow6.setCell (p := ⟨w1.heap.size + 1, 1, none⟩) (by show w1.heap.size ≤ w1.heap.size + 1; omega) (.slice (some ⟨gg, 0, none⟩) (k + 1 + 1) cap)
      have hown7 := World.ownsRow.kept hown6 (grownBy_set w6 (w1.heap.size + 1) 1 (.slice (some ⟨gg, 0, none⟩) (k + 1 + 1) cap)) (.inr (own_ne_box hown6 hbox6 (by decide)))
      have hbox7 := block_set hbox6 (.slice (some ⟨gg, 0, none⟩) (k + 1 + 1) cap) 1
      have hgp : g ≠ w1.heap.size + 1 := fun e => by
        have h1 := HGW4.out
        rw [e, st4.box] at h1
        injection h1 with h1; injection h1 with _ h2 _
        exact absurd h2 (by decide)
      have hneg := own_ne_box st4.row HGW4.out (by decide)
      have hg6 : w6.heap[g]? = some (.cells cur2 5 (0, 0)) := (hgrow6.block g (by have := box_lt HGW4.out; simp; omega) (fun e => hneg e.symm)).trans ((heap_alloc_old w4.drew _ (show g < w4.drew.heap.size from box_lt HGW4.out)).trans HGW4.out)
      have hg7 : (w6.setCell ⟨w1.heap.size + 1, 1, none⟩ (.slice (some ⟨gg, 0, none⟩) (k + 1 + 1) cap)).heap[g]? = some (.cells cur2 5 (0, 0)) := (Below.heap_setCell _ _ _ _ (by exact hgp)).trans hg6
      have hby7 : BytesAt (w6.setCell ⟨w1.heap.size + 1, 1, none⟩ (.slice (some ⟨gg, 0, none⟩) (k + 1 + 1) cap)) (.slice (some ⟨g, 0, none⟩) nb nb) bs := by
        rw [HNB.out]; exact bytes_of_take hg7 HG4.out
      clear hg7 hg6 hneg hgp
      clear hown6 hgrow6 hat6 hlt6 hbox6 c60 c61 f60 f61 hrow4 c42 c41 c40 f40 f41 hS hne4 hlow6
      generalize w6.setCell ⟨w1.heap.size + 1, 1, none⟩ (.slice (some ⟨gg, 0, none⟩) (k + 1 + 1) cap) = w7 at *
      have hI7 : IntsAt w7 (.slice (some ⟨w.heap.size, 0, none⟩) 7000 N) (zs 7000) := (ints_zs hcur1 htake 7000 N z8).below hlow7
      have hN7 := long_more hown7 (hI1.below hlow7) hI7 HK1.out (by decide)
      obtain ⟨⟨c70, c71⟩, f70, f71⟩ := box2 (by simpa using hbox7)
      have HE7 := hid (Encode_c 1 (wideL N k ++ [orN 7000]) _ w7 hN7)
      clear hown7 hbox7 hI7 hN7
      go_wp2_with fail
      refine HE7.out.mono ?_
      rintro e w8 ⟨v8, rfl, ho8, hb8⟩
      rw [HL.out]
      have hB7 : Below w.heap.size w w7 := hB1.trans (hlow7.mono hB1.size)
      have hB8 := hB7.trans (hb8.mono hB7.size)
      obtain ⟨Z, hZ, hZ0⟩ : ∃ Z : Nat, nb + Z = 16777217 ∧ 0 < Z := ⟨16777217 - nb, by have := HBL.out; omega, by have := HBL.out; omega⟩
      obtain ⟨v9, w9, hrun, ⟨c9, rfl, hc9, hm9⟩, hby9, hb9⟩ := append_zeros w8 g nb bs Z HNB.out.symm (hby7.below hb8) hZ0 (by omega) (by have := HBL.out; omega) 28
      have hB9 := hB8.trans (hb9.mono hB8.size)
      have hzz : (16777217 : Int) - (nb : Int) = (Z : Int) := by omega
      have hll : (bs ++ List.replicate Z (0 : UInt8)).length = nb + Z := by rw [List.length_append, List.length_replicate, ← HNB.out]
      have HLL := hid hll
      have hlong : 16777216 < (bs ++ List.replicate Z (0 : UInt8)).length := by rw [hll]; omega
      have HD1 := hid (dec_begins (beginsNo_long hlong) (by decide))
      have HP1 := hid (peekR_begins (b := bs ++ List.replicate Z (0 : UInt8)) (by rw [beginsNo_long hlong]; decide))
      rw [beginsNo_long hlong] at HP1
      have HZ := hid hZ
      have HBY9 := hid hby9
      clear hlong hll hby9 hZ ho8 hb8 hb9 hB7 hB8 HE7 hlow7 hby7 c70 c71 f70 f71 hZ0 z7 z8 z9 st4 hcur1 hsz4 hpx4 HG HG2 HG4 HGW4 HPK HKK HK1' hI1 hcur htake
      go_wp2_with (at_builtin; refine Lib.wpList_append_run _ rfl _ _ _ _ rfl _ _ rfl rfl _ _ hrun ?_)
      have hlb : (bs ++ List.replicate Z (0 : UInt8)).length ≤ 140737488355328 := by have := HLL.out; have := HZ.out; omega
      generalize hlo : bs ++ List.replicate Z (0 : UInt8) = lo at *
      have hlb2 : lo.length ≤ c9 := by have := HLL.out; omega
      have hD := Decode_c (some ⟨w8.heap.size, 0, none⟩) c9 lo w9 (by rw [HLL.out]; exact HBY9.out) hlb2 (by unfold maxLen at hm9; omega) hlb
      rw [HLL.out] at hD
      refine hD.mono ?_
      clear hD
      rintro e w10 ⟨v10, vs10, rfl, ho10, hb10⟩
      rw [HD1.out.1, HD1.out.2]
      rw [HD1.out.2] at ho10
      obtain ⟨p10, c10, e10, hdrop⟩ := ho10.nodes
      subst e10
      have hB10 := hB9.trans (hb10.mono hB9.size)
      have hby10 := HBY9.out.below hb10
      clear hdrop ho10 hb10 hB9
      have hbe := ((Below.refl _ w10).alloc (Nat.le_refl _) (.cells #[.int .i64 noNet.n, .slice p10 noNet.l.length c10] 24))
      have HP11 := hid (Peek_c (some ⟨w8.heap.size, 0, none⟩) c9 lo _ (by rw [HLL.out]; exact hby10.below hbe) hlb2 hlb)
      rw [HLL.out] at HP11
      have hB11 := hB10.trans (hbe.mono hB10.size)
      clear hbe hB10 hby10
      go_wp2_with fail
      refine HP11.out.mono ?_
      rintro e w12 ⟨rfl, hb12⟩
      rw [HP1.out]
      have hB12 := hB11.trans (hb12.mono hB11.size)
      clear hb12 hB11 HP11
      go_wp2_with fail
      refine (works_c _).mono ?_
      rintro e w14 ⟨rfl, hb14⟩
      have hB14 := hB12.trans (hb14.mono hB12.size)
      clear hb14 hB12
      go_wp2_with fail
      go_ret
      exact ⟨rfl, hB14⟩
end Go.Proofs.Ytkfmblpcfgdgpaa
