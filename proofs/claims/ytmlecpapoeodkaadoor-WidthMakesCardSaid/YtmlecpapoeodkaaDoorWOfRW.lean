/- The walk of the reference's Of. -/
import Derived.Test.YtmlecpapoeodkaaDoorWRef8
import Derived.Test.YtmlecpapoeodkaaDoorWOfW
namespace Go.Proofs.YtmlecpapoeodkaaDoor
open Go.RowKit
attribute [local go_sem ↓] run_eqlS run_neqS run_eqlS0 run_neqS0

theorem IntsAt.kept' {w w' : World} {v : Value} {l : List Int} {row : Option Nat} (h : IntsAt w v l) (hg : w.grownBy w' row) (hne : ∀ x n c, v = .slice (some x) n c → some x.block ≠ row) : IntsAt w' v l := by
  obtain ⟨p, c, rfl, h⟩ := h
  refine ⟨p, c, rfl, ?_⟩
  rcases h with h | ⟨b, off, rfl, hm⟩
  · exact .inl h
  · exact .inr ⟨b, off, rfl, fun i hi => (World.cell?_of_block (hg.block b (cell_lt (hm i hi)) (hne _ _ _ rfl))).trans (hm i hi)⟩
theorem mok_step {L : List VS} {l : List Int} {k : Nat} {M : List VS} (hml : M.length = L.length) (mok : ∀ u : Int, u ∉ l.take k → gOf M u = elS (gOf L) l k u) (hV : ValidG L) (hO : IsOrd l (L.length - 1)) (hk : k < l.length) {un : Nat} (hun : l[k] = (un : Int)) {s : VS} (hg : elS (gOf L) l k (un : Int) = s) :
    ((mems s).foldl (elStep s (un : Int)) M).length = L.length ∧ ∀ u : Int, u ∉ l.take (k + 1) → gOf ((mems s).foldl (elStep s (un : Int)) M) u = elS (gOf L) l (k + 1) u := by
  have hle := hV.le
  have hlen := ord_len hV hO
  have hgd : l.getD k 0 = (un : Int) := by rw [getD_at l k hk, hun]
  have hin : ∀ w, has s w = true → 0 ≤ w ∧ w < (L.length : Int) := fun w hw => by
    rw [← hg] at hw
    have h1 := (elS_in hV hO (by omega : k ≤ l.length) hw).1
    have := (hO.mem w).1 h1
    omega
  refine ⟨by rw [elFold_length, hml], fun u hu => ?_⟩
  rw [mem_take_succ hk, hgd] at hu
  have hu1 : u ∉ l.take k := fun e => hu (.inl e)
  have hu2 : u ≠ (un : Int) := fun e => hu (.inr e)
  rw [elFold_get s (un : Int) (mems s) M (mems_nodup s) (fun w hw => by rw [hml]; exact hin w ((mem_mems _ _).1 hw)), elS_succ _ l k hk, hgd, mok u hu1]
  unfold el
  rw [if_neg hu2, hg]
  by_cases e : has s u = true
  · rw [if_pos ((mem_mems _ _).2 e), if_pos e]
  · rw [if_neg (fun h => e ((mem_mems _ _).1 h)), if_neg e]
/-- A neighbour's row ahead of its turn has not itself. -/
theorem turn_irr {L : List VS} {l : List Int} {k a : Nat} {M : List VS} (hml : M.length = L.length) (mok : ∀ u : Int, u ∉ l.take k → gOf M u = elS (gOf L) l k u) (hV : ValidG L) (hO : IsOrd l (L.length - 1)) (hk : k < l.length) {un : Nat} (_hun : l[k] = (un : Int)) {s : VS} (hg : elS (gOf L) l k (un : Int) = s)
    (ha : a < (mems s).length) : has (gOf (((mems s).take a).foldl (elStep s (un : Int)) M) (mems s)[a]) (mems s)[a] = false := by
  have hlen := ord_len hV hO
  have hm : has s (mems s)[a] = true := (mem_mems _ _).1 (List.getElem_mem ha)
  have hnd := mems_nodup s
  have hnt : (mems s)[a] ∉ (mems s).take a := fun hc => by
    obtain ⟨j, hj, e⟩ := List.mem_iff_getElem.1 hc
    rw [List.length_take] at hj
    rw [List.getElem_take] at e
    have := nodup_inj hnd _ _ e
    omega
  have hnd2 : ((mems s).take a).Nodup := hnd.sublist (List.take_sublist _ _)
  have hin : ∀ w ∈ (mems s).take a, 0 ≤ w ∧ w < (M.length : Int) := fun w hw => by
    have hw2 := (mem_mems _ _).1 (List.mem_of_mem_take hw)
    rw [← hg] at hw2
    have h1 := (elS_in hV hO (by omega : k ≤ l.length) hw2).1
    have := (hO.mem w).1 h1
    omega
  rw [elFold_get s (un : Int) _ M hnd2 hin, if_neg hnt]
  have hsy := elS_sym hV.sym l k (by omega)
  have hm2 : has (elS (gOf L) l k (un : Int)) (mems s)[a] = true := by rw [hg]; exact hm
  rw [mok _ (elS_dead hV.sym l k (by omega) hm2).2]; exact hsy.irr _
set_option maxRecDepth 100000 in
set_option maxHeartbeats 16000000 in
theorem rOf_tree_c (v v2 : Value) (L : List VS) (l : List Int) (w : World) (hI : SetsAt w v L) (hJ : IntsAt w v2 l) (hL : L.length ≤ 140737488355328) (hl : l.length ≤ 140737488355328) :
    Calls Tryd.prog 22 #[v, v2] w (OfPost L l w) := by
  have HI := hid (fun w' (h : Below w.heap.size w w') => hI.below h)
  have HJ := hid (fun w' (h : Below w.heap.size w w') => hJ.below h)
  obtain ⟨p, c, rfl, hdrop⟩ := id hI
  obtain ⟨p2, c2, rfl, hdrop2⟩ := id hJ
  clear hdrop hdrop2 hI hJ
  have hb0 : Below w.heap.size w (w.alloc (.cells #[.slice none 0 0, .slice none 0 0] 33)) := (Below.refl _ w).alloc (Nat.le_refl _) _
  have hr0 := Box2.new w 33 (.slice none 0 0) (.slice none 0 0)
  have HV := hid (rValid_c _ L _ (HI.out _ hb0) hL)
  go_enter Tryd.func22, Tryd.ntmps22
  go_wp2_with fail
  generalize w.alloc (.cells #[.slice none 0 0, .slice none 0 0] 33) = w1 at *
  refine HV.out.mono ?_
  rintro e w2 ⟨rfl, hb2⟩
  have hB2 := hb0.trans (hb2.mono hb0.size)
  have hr2 := hr0.below hb2 hr0.lt
  clear HV hb0 hr0 hb2
  cases hv : validG L
  · have HN := hid hv
    obtain ⟨_, _, f0, f1⟩ := hr2.cells
    obtain ⟨c0, c1, _, _⟩ := hr2.cells
    clear hv
    go_wp2_with fail
    exact bodyPost_ret (results_boxR_e rfl rfl rfl (hr2.set01 (.slice none 0 0) (.slice none 0 0))) rfl ⟨below_01 hB2 (Nat.le_refl _) _ _, .inl ⟨HN.out, rfl⟩⟩
  · have HVL := hid (validG_iff.1 hv)
    have hp := HVL.out.pos
    have hle := HVL.out.le
    obtain ⟨nn, hnn⟩ : ∃ nn : Nat, nn = L.length - 1 := ⟨_, rfl⟩
    have HNN := hid hnn
    have hnn2 : (L.length : Int) - 1 = (nn : Int) := by omega
    have HOR := hid (rOrder_c _ l nn w2 (HJ.out _ hB2) (by omega) hl)
    have zl : IntKind.i64.wrap ((L.length : Int) - 1) = (nn : Int) := by rw [IntWalk.i64_in _ (by omega)]; exact hnn2
    clear hv hnn
    go_wp2_with fail
    refine HOR.out.mono ?_
    rintro e w3 ⟨r, rfl, hr, hb3⟩
    have hB3 := hB2.trans (hb3.mono hB2.size)
    have hr3 := hr2.below hb3 hr2.lt
    have HR := hid hr
    clear hB2 hr2 hb3 HOR hr hnn2
    cases r
    · have HN := hid (show ¬ IsOrd l (L.length - 1) from fun h => by have := HR.out.2 (by rw [HNN.out]; exact h); cases this)
      obtain ⟨_, _, f0, f1⟩ := hr3.cells
      obtain ⟨c0, c1, _, _⟩ := hr3.cells
      go_wp2_with fail
      exact bodyPost_ret (results_boxR_e rfl rfl rfl (hr3.set01 (.slice none 0 0) (.slice none 0 0))) rfl ⟨below_01 hB3 (Nat.le_refl _) _ _, .inr (.inl ⟨HVL.out, HN.out, rfl⟩)⟩
    · have hio : IsOrd l nn := HR.out.1 rfl
      have HIO := hid (show IsOrd l (L.length - 1) from by rw [← HNN.out]; exact hio)
      have hll : l.length ≤ 128 := by have := hio.len; have := HNN.out; omega
      have hI3 := HI.out _ hB3
      have hn9 : OwnSets w3 w3.heap.size (.slice none 0 0) [] := OwnSets.nil _ _
      clear hio HR
      go_wp2_with (at_builtin; refine wpList_append_S rfl _ _ rfl w3.heap.size (.slice none 0 0) [] rfl hn9 (.slice p L.length c) L rfl hI3 (by simp; omega) (by simp) ?_; intro v8 w8 ho8 hg8 hn8)
      rw [List.nil_append] at ho8
      have hb38 : Below w3.heap.size w3 w8 := (Below.refl _ w3).grown hg8 (Nat.le_refl _) (by intro k e; cases e)
      obtain ⟨g, c8, rfl, hgB, hrow8⟩ := ho8.row (by omega)
      have hB8 := hB3.trans (hb38.mono hB3.size)
      have hr8 := hr3.below hb38 hr3.lt
      have hm0 : RefMem w (w8.alloc (.cells #[.slice none 0 0, .slice none 0 0] 33)) g w8.heap.size L (.slice none 0 0) (.slice none 0 0) [] [] :=
        ⟨⟨Nat.lt_of_lt_of_le hr3.lt hgB, hrow8.lt⟩, hrow8.alloc _, Box2.new w8 33 _ _, OwnSets.nil _ _, OwnInts.nil _ _, hB8.alloc hB8.size _, hr8.alloc _, by simp⟩
      have HM0 := hid hm0
      generalize w8.alloc (.cells #[.slice none 0 0, .slice none 0 0] 33) = w9 at *
      have hgd : g < w8.heap.size := hrow8.lt
      generalize w8.heap.size = gd at *
      clear hn8 hg8 ho8 hb38 hrow8 hB8 hr8 hm0 hI3 hn9 hB3 hr3 hgB zl
      go_loopw [9] (fun i wr => ∃ (k : Nat) (M : List VS) (vB vU : Value), k ≤ l.length ∧ i = .int .i64 k ∧ Hid (RefMem w wr g gd M vB vU ((bagsP (gOf L) l).take k) ((upsP (gOf L) l).take k)) ∧ Hid (M.length = L.length ∧ ∀ u : Int, u ∉ l.take k → gOf M u = elS (gOf L) l k u)) (fun i _ => l.length - (intOf i).toNat)
      case atStart => exact ⟨0, L, _, _, Nat.zero_le _, rfl, HM0.out, rfl, fun u _ => by rw [elS_zero]⟩
      case round =>
        obtain ⟨k, M, vB, vU, hk, rfl, hm, hst⟩ := hrel
        by_cases hkl : k < l.length
        · obtain ⟨b2, o2, c', e', hbl, hcs⟩ := (HJ.out _ hm.out.low).form (by omega)
          injection e' with e1 _ e2
          subst e1; subst e2
          have hc := hcs k hkl
          have hrg := (HIO.out.mem l[k]).1 (List.getElem_mem hkl)
          obtain ⟨un, hun⟩ : ∃ un : Nat, l[k] = (un : Int) := ⟨l[k].toNat, by omega⟩
          rw [hun] at hc hrg
          have HLK := hid hun
          have hul : un < L.length := by omega
          obtain ⟨s, hs, q0, q1, _, _⟩ := hm.out.row.get un (by rw [hst.out.1]; exact hul)
          have HS := hid hs
          have zk : (0 : Int) ≤ (k : Int) ∧ (k : Int) < (l.length : Int) := by omega
          have zu : (0 : Int) ≤ (un : Int) ∧ (un : Int) < (L.length : Int) := by omega
          have z0 : (k : Int) < (nn : Int) := by have := HIO.out.len; have := HNN.out; omega
          have HLS := hid (rList_c s wr)
          clear hcs hun hs hbl
          go_wp2_with fail
          refine HLS.out.mono ?_
          rintro e w5 ⟨v5, rfl, hn5, hb5⟩
          obtain ⟨pm, cm, e4, hmm⟩ := hn5.ints
          subst e4
          have HM5 := hid (hm.out.below hb5)
          have HI5 := hid (hn5.ints)
          have hfaro : ∀ x n c', Value.slice pm (mems s).length cm = .slice (some x) n c' → some x.block ≠ vB.ownBlock := fun x n c' e e2 => by
            have h1 := (World.ownsRow.lt hn5.1 x.block (by rw [e]; rfl)).1
            have h2 := (hm.out.own.lt x.block e2.symm).2
            omega
          have HFARO := hid hfaro
          clear hfaro
          have HMM := hid hmm
          have hfarm : ∀ x n c', Value.slice pm (mems s).length cm = .slice (some x) n c' → gd < x.block := fun x n c' e => by
            have h1 := (World.ownsRow.lt hn5.1 x.block (by rw [e]; rfl)).1
            have h2 := hm.out.sz
            omega
          have HFARM := hid hfarm
          have HST := hst
          have hmlen := mems_length s
          clear hmm hn5 hb5 hfarm hm hst hc q0 q1 HLS
          obtain ⟨s', hs', q0, q1, _, _⟩ := HM5.out.row.get un (by rw [HST.out.1]; exact hul)
          obtain rfl : s = s' := HS.out.symm.trans hs'
          have DV : Hid (Box2 w5.drew gd 33 vB vU) := HM5.out.dv
          have RS : Hid (w5.drew.cell? ⟨g, un * 2, none⟩ = some (.int .u64 ((lw s).toNat : Int)) ∧ w5.drew.cell? ⟨g, un * 2 + 1, none⟩ = some (.int .u64 ((hw s).toNat : Int))) := ⟨q0, q1⟩
          have hset : elS (gOf L) l k (un : Int) = s := by
            rw [← HST.out.2 (un : Int) (fun hm => by
              obtain ⟨j, hj, e⟩ := List.mem_iff_getElem.1 hm
              rw [List.length_take] at hj
              rw [List.getElem_take, ← HLK.out] at e
              have := nodup_inj HIO.out.nodup _ _ e
              omega)]
            exact HS.out
          have HSET := hid hset
          have hbag := bagsP_take (gOf L) l k hkl
          rw [show bagAt (gOf L) l k = withV s (un : Int) from by unfold bagAt; rw [getD_at l k hkl, HLK.out, hset]] at hbag
          have HBAG := hid hbag
          clear hset hbag
          clear hs' q0 q1
          go_wp2_with fail
          refine Go.Proofs.YtmlecpapoeodkaaDoor.wp_region_L 12 9 (fun w' => Box2 w' (gd) 33 (vB) (vU) ∧ (w'.cell? ⟨g, un * 2, none⟩ = some (.int .u64 ((lw (s)).toNat : Int)) ∧ w'.cell? ⟨g, un * 2 + 1, none⟩ = some (.int .u64 ((hw (s)).toNat : Int)))) (by kernel_rfl) rfl ⟨DV.out, RS.out⟩ (fun _ => ?_)
          refine wpAnyL_pure (i := 0) (v := .pointer (some ⟨gd, 0, none⟩)) (by simp only [List.getElem?_toArray, List.getElem?_cons_zero] <;> rfl) (by kernel_rfl) (by kernel_rfl) (by kernel_rfl) (by exact fun _ _ _ h => h) (by decide) (.inr ⟨DV.out, RS.out⟩) (Or.inl ⟨by rfl, fun w _ => (by simp [execOp, go_sem, Act.eval])⟩) (fun _ => ?_)
          simp only [Act.put, List.setIfInBounds_toArray, List.set_cons_zero, List.set_cons_succ]
          refine wpAnyL_load2 (i := 1) (v := vB) (by simp only [List.getElem?_toArray, List.getElem?_cons_zero, List.getElem?_cons_succ] <;> rfl) (by kernel_rfl) (by kernel_rfl) (by kernel_rfl) (by exact fun _ _ _ h => h) (by decide) (Waits.one rfl ⟨⟨1, .data⟩, by simp, rfl, rfl⟩) (by kernel_rfl) (by kernel_rfl) (.inr ⟨DV.out, RS.out⟩) (Or.inl ⟨by rfl, fun w hw => (by obtain ⟨x0, _⟩ := hw; simp [execOp, go_sem, Act.eval, x0.cells.1])⟩) (fun _ => ?_)
          simp only [Act.put, List.setIfInBounds_toArray, List.set_cons_zero, List.set_cons_succ]
          refine wpAnyL_pure (i := 2) (v := .slice (some ⟨g, 0, none⟩) L.length c8) (by simp only [List.getElem?_toArray, List.getElem?_cons_zero, List.getElem?_cons_succ] <;> rfl) (by kernel_rfl) (by kernel_rfl) (by kernel_rfl) (by exact fun _ _ _ h => h) (by decide) (.inr ⟨DV.out, RS.out⟩) (Or.inl ⟨by rfl, fun w _ => (by simp [execOp, go_sem, Act.eval])⟩) (fun _ => ?_)
          simp only [Act.put, List.setIfInBounds_toArray, List.set_cons_zero, List.set_cons_succ]
          refine wpAnyL_pure (i := 3) (v := .int .i64 (un : Int)) (by simp only [List.getElem?_toArray, List.getElem?_cons_zero, List.getElem?_cons_succ] <;> rfl) (by kernel_rfl) (by kernel_rfl) (by kernel_rfl) (by exact fun _ _ _ h => h) (by decide) (.inr ⟨DV.out, RS.out⟩) (Or.inl ⟨by rfl, fun w _ => (by simp [execOp, go_sem, Act.eval])⟩) (fun _ => ?_)
          simp only [Act.put, List.setIfInBounds_toArray, List.set_cons_zero, List.set_cons_succ]
          refine wpAnyL_pure (i := 4) (v := .pointer (some ⟨g, un * 2, none⟩)) (by simp only [List.getElem?_toArray, List.getElem?_cons_zero, List.getElem?_cons_succ] <;> rfl) (by kernel_rfl) (by kernel_rfl) (by kernel_rfl) (by exact fun _ _ _ h => h) (by decide) (.inr ⟨DV.out, RS.out⟩) (Or.inl ⟨by rfl, fun w _ => (by simp [execOp, go_sem, Act.eval, zu])⟩) (fun _ => ?_)
          simp only [Act.put, List.setIfInBounds_toArray, List.set_cons_zero, List.set_cons_succ]
          refine wpAnyL_load2 (i := 5) (v := encS (s)) (by simp only [List.getElem?_toArray, List.getElem?_cons_zero, List.getElem?_cons_succ] <;> rfl) (by kernel_rfl) (by kernel_rfl) (by kernel_rfl) (by exact fun _ _ _ h => h) (by decide) (Waits.more (j := 7) rfl ⟨⟨7, .chain⟩, by simp, rfl, rfl⟩ (Waits.one rfl ⟨⟨5, .data⟩, by simp, rfl, rfl⟩)) (by kernel_rfl) (by kernel_rfl) (.inr ⟨DV.out, RS.out⟩) (Or.inl ⟨by rfl, fun w hw => (by obtain ⟨_, ⟨y1, z1⟩⟩ := hw; simp [execOp, go_sem, Act.eval, y1, z1])⟩) (fun _ => ?_)
          simp only [Act.put, List.setIfInBounds_toArray, List.set_cons_zero, List.set_cons_succ]
          refine wpAnyL_pure (i := 6) (v := .int .i64 (un : Int)) (by simp only [List.getElem?_toArray, List.getElem?_cons_zero, List.getElem?_cons_succ] <;> rfl) (by kernel_rfl) (by kernel_rfl) (by kernel_rfl) (by exact fun _ _ _ h => h) (by decide) (.inr ⟨DV.out, RS.out⟩) (Or.inl ⟨by rfl, fun w _ => (by simp [execOp, go_sem, Act.eval])⟩) (fun _ => ?_)
          simp only [Act.put, List.setIfInBounds_toArray, List.set_cons_zero, List.set_cons_succ]
          refine wpAnyL_one (i := 7) (by kernel_rfl) (by simp only [List.getElem?_toArray, List.getElem?_cons_zero, List.getElem?_cons_succ] <;> rfl) (by rfl) ?_
          refine opwp_call (f := 58) (args := #[encS (s), .int .i64 (un : Int)]) (w' := w5.drew) (by simp [go_sem, Act.eval]) ?_
          refine (rWith_c s (un : Int) w5.drew).mono ?_
          rintro e w6 ⟨rfl, hb6⟩
          have hc1_0 := hid (DV.out.below hb6 DV.out.lt)
          have hc1_1 := hid (show (w6.cell? ⟨g, un * 2, none⟩ = some (.int .u64 ((lw (s)).toNat : Int)) ∧ w6.cell? ⟨g, un * 2 + 1, none⟩ = some (.int .u64 ((hw (s)).toNat : Int))) from ⟨(hb6.cell (cell_lt RS.out.1)).trans RS.out.1, (hb6.cell (cell_lt RS.out.2)).trans RS.out.2⟩)
          refine .inl ⟨_, rfl, .inr ⟨hc1_0.out, hc1_1.out⟩, ?_⟩
          simp only [Act.put, List.setIfInBounds_toArray, List.set_cons_zero, List.set_cons_succ]
          have HM6 := hid ((HM5.out.below ((Below.refl _ w5).drew)).below hb6 |>.below ((Below.refl _ w6).alloc (Nat.le_refl _) (.cells #[.int .u64 ((lw (withV s (un : Int))).toNat : Int), .int .u64 ((hw (withV s (un : Int))).toNat : Int)] 32)))
          obtain ⟨s6, hs6, z0, z1, _, _⟩ := HM6.out.row.get un (by rw [HST.out.1]; exact hul)
          obtain rfl : s = s6 := HS.out.symm.trans hs6
          have fk1_0 : Hid (Box2 (w6.alloc (.cells #[.int .u64 ((lw (withV s (un : Int))).toNat : Int), .int .u64 ((hw (withV s (un : Int))).toNat : Int)] 32)) (gd) 33 (vB) (vU)) := hc1_0.out.alloc _
          have fk1_1 : Hid (((w6.alloc (.cells #[.int .u64 ((lw (withV s (un : Int))).toNat : Int), .int .u64 ((hw (withV s (un : Int))).toNat : Int)] 32)).cell? ⟨g, un * 2, none⟩ = some (.int .u64 ((lw (s)).toNat : Int)) ∧ (w6.alloc (.cells #[.int .u64 ((lw (withV s (un : Int))).toNat : Int), .int .u64 ((hw (withV s (un : Int))).toNat : Int)] 32)).cell? ⟨g, un * 2 + 1, none⟩ = some (.int .u64 ((hw (s)).toNat : Int)))) := ⟨z0, z1⟩
          clear hs6 z0 z1
          refine wpAnyL_one (i := 8) (by kernel_rfl) (by simp only [List.getElem?_toArray, List.getElem?_cons_zero, List.getElem?_cons_succ] <;> rfl) (by rfl) ?_
          refine opwp_value (v := .slice (some ⟨w6.heap.size, 0, none⟩) 1 1) (w' := (w6.alloc (.cells #[.int .u64 ((lw (withV s (un : Int))).toNat : Int), .int .u64 ((hw (withV s (un : Int))).toNat : Int)] 32))) (by simp [execOp, go_sem, Act.eval]) ⟨.inr ⟨fk1_0.out, fk1_1.out⟩, ?_⟩
          simp only [Act.put, List.setIfInBounds_toArray, List.set_cons_zero, List.set_cons_succ]
          refine wpAnyL_one (i := 9) (by kernel_rfl) (by simp only [List.getElem?_toArray, List.getElem?_cons_zero, List.getElem?_cons_succ] <;> rfl) (by rfl) ?_
          refine opwp_append_S _ _ rfl (gd + 1) vB _ rfl HM6.out.own _ [withV s (un : Int)] rfl (one_set w6 (withV s (un : Int))) (by rw [List.length_take, bagsP_length]; show min k l.length + 1 ≤ 16777216; omega) HM6.out.sz ?_
          intro vB2 w7 hown7 hg7 _
          rw [← HBAG.out] at hown7
          have DV7 := hid (fk1_0.out.kept hg7 (fun e => by have := (HM6.out.own.lt _ e.symm).1; omega))
          obtain ⟨p7, c7, e7, _⟩ := hown7.sets
          generalize ((bagsP (gOf L) l).take (k + 1)).length = len7 at e7
          subst e7
          refine ⟨.inl (by kernel_rfl), ?_⟩
          simp only [Act.put, List.setIfInBounds_toArray, List.set_cons_zero, List.set_cons_succ]
          refine wpAnyL_pure (i := 10) (v := .pointer (some ⟨gd, 0, none⟩)) (by simp only [List.getElem?_toArray, List.getElem?_cons_zero, List.getElem?_cons_succ] <;> rfl) (by kernel_rfl) (by kernel_rfl) (by kernel_rfl) (by exact fun _ _ _ h => h) (by decide) (.inl (by kernel_rfl)) (Or.inl ⟨by rfl, fun w _ => (by simp [execOp, go_sem, Act.eval])⟩) (fun _ => ?_)
          simp only [Act.put, List.setIfInBounds_toArray, List.set_cons_zero, List.set_cons_succ]
          obtain ⟨y0, _, y2, _⟩ := DV7.out.cells
          refine wpAnyL_one (i := 11) (by kernel_rfl) (by simp only [List.getElem?_toArray, List.getElem?_cons_zero, List.getElem?_cons_succ] <;> rfl) (by rfl) ?_
          refine opwp_skip (w' := (w7.setCell ⟨gd, 0, none⟩ (.slice p7 len7 c7))) (by simp [execOp, go_sem, Act.eval, y0, y2]) ⟨.inl (by kernel_rfl), ?_⟩
          simp only [Act.put]
          refine wpAnyL_done (by kernel_rfl) ?_ _
          have HM7 := hid (HM6.out.bags hg7 hown7)
          have hI6 := ((HI5.out.below (Below.refl _ w5).drew).below hb6).below ((Below.refl _ w6).alloc (Nat.le_refl _) (.cells #[.int .u64 ((lw (withV s (un : Int))).toNat : Int), .int .u64 ((hw (withV s (un : Int))).toNat : Int)] 32))
          have HI7 := hid ((hI6.kept' hg7 HFARO.out).kept' (show w7.grownBy (w7.setCell ⟨gd, 0, none⟩ (.slice p7 len7 c7)) (some gd) from ⟨rfl, rfl, rfl, by simp [World.setCell], fun k _ hne => Below.heap_setCell _ _ _ _ (by intro e; exact hne (by rw [e]))⟩) (fun x n c' e e2 => by have h1 := HFARM.out x n c' e; have h2 := Option.some.inj e2; omega))
          clear hI6 HI5 HFARO
          generalize w7.setCell ⟨gd, 0, none⟩ (.slice p7 len7 c7) = w8' at *
          clear y0 y2 hg7 hown7 HM5 HM6 DV RS DV7 hb6
          have hro0 := HM7.out.row
          have hsl : ∀ x, has s x = true → x < (L.length : Int) := fun x hx => by
            rw [← HSET.out] at hx
            have h2 := (elS_in HVL.out HIO.out (Nat.le_of_lt hkl) hx).1
            have h3 := (HIO.out.mem x).1 h2
            have := HNN.out
            omega
          have HSL := hid hsl
          clear hsl
          go_wp2_with fail
          go_loopw [12] (fun i wq => ∃ (a : Nat) (N : List VS), a ≤ (mems s).length ∧ i = .int .i64 a ∧ Hid (N = ((mems s).take a).foldl (elStep s (un : Int)) M) ∧ Hid (SetRow wq g N) ∧ Hid (w8'.grownBy wq (some g))) (fun i _ => (mems s).length - (intOf i).toNat)
          case atStart => exact ⟨0, M, Nat.zero_le _, rfl, rfl, hro0, World.grownBy.refl _ _⟩
          case round =>
            clear hro0
            obtain ⟨a, N, ha, rfl, hN, hroN, hgr⟩ := hrel
            by_cases hal : a < (mems s).length
            · obtain ⟨ua, hua⟩ : ∃ ua : Nat, (mems s)[a] = (ua : Int) := ⟨((mems s)[a]).toNat, by have := has_range ((mem_mems _ _).1 (List.getElem_mem hal)); omega⟩
              have HUA := hid hua
              have hual : ua < L.length := by
                have := HSL.out _ ((mem_mems _ _).1 (List.getElem_mem hal))
                omega
              have hNl : N.length = L.length := by rw [hN.out, elFold_length]; exact HST.out.1
              have HNL := hid hNl
              obtain ⟨t, ht⟩ : ∃ t, gOf N (ua : Int) = t := ⟨_, rfl⟩
              have HT := hid ht
              have hti : has t (ua : Int) = false := by
                have h1 := turn_irr HST.out.1 HST.out.2 HVL.out HIO.out hkl HLK.out HSET.out hal
                rw [hua, ← hN.out, ht] at h1
                exact h1
              have HTI := hid hti
              have zl : (a : Int) < ((mems s).length : Int) := by omega
              clear hua hNl ht hti
              go_wp2_with fail
              have hst0 : SetRow wr g (N.set ua (rowTo t (mems s) a 0)) := by
                rw [rowTo, ← HT.out]
                have : N.set ua (gOf N (ua : Int)) = N := by
                  rw [gOf_nat N ua (by rw [HNL.out]; exact hual)]
                  exact List.set_getElem_self _
                rw [this]; exact hroN.out
              have HR0 := hid hst0
              clear hst0
              go_loopw [13] (fun i wq => ∃ (b : Nat), b ≤ (mems s).length ∧ i = .int .i64 b ∧ Hid (SetRow wq g (N.set ua (rowTo t (mems s) a b))) ∧ Hid (w8'.grownBy wq (some g))) (fun i _ => (mems s).length - (intOf i).toNat)
              case atStart => exact ⟨0, Nat.zero_le _, rfl, HR0.out, hgr.out⟩
              case round =>
                clear HR0 hroN hgr
                obtain ⟨b, hb, rfl, hroB, hgrB⟩ := hrel
                have zl : (a : Int) < ((mems s).length : Int) := by omega
                have hIq := HI7.out.kept' hgrB.out (fun x n c' e e2 => by have h1 := HFARM.out x n c' e; have h2 := Option.some.inj e2; have := HM7.out.ord; omega)
                have HMq := hid (HM7.out.near hgrB.out hroB.out)
                have hslen : (N.set ua (rowTo t (mems s) a b)).length = L.length := by rw [List.length_set]; exact HNL.out
                have HSLEN := hid hslen
                obtain ⟨r, hr, r0, r1, _, _⟩ := hroB.out.get ua (by rw [hslen]; exact hual)
                have hr2 : r = rowTo t (mems s) a b := by
                  rw [← hr, gOf_nat _ ua (by rw [hslen]; exact hual), List.getElem_set, if_pos rfl]
                have RT : Hid (wr.drew.cell? ⟨g, ua * 2, none⟩ = some (.int .u64 ((lw r).toNat : Int)) ∧ wr.drew.cell? ⟨g, ua * 2 + 1, none⟩ = some (.int .u64 ((hw r).toNat : Int))) := ⟨r0, r1⟩
                have HR2 := hid hr2
                clear hslen hr hr2 r0 r1
                by_cases hbl : b < (mems s).length
                · obtain ⟨bm, om, cq, eq, hbm, hcs⟩ := hIq.form (by omega)
                  injection eq with e1 _ e2
                  subst e1; subst e2
                  obtain ⟨ub, hub⟩ : ∃ ub : Nat, (mems s)[b] = (ub : Int) := ⟨((mems s)[b]).toNat, by have := has_range ((mem_mems _ _).1 (List.getElem_mem hbl)); omega⟩
                  have ca := hcs a hal
                  have cb := hcs b hbl
                  rw [HUA.out] at ca
                  rw [hub] at cb
                  have HUB := hid hub
                  have zl2 : (b : Int) < ((mems s).length : Int) := by omega
                  clear hcs hub hIq
                  by_cases hab : a = b
                  · have zne : ((a : Int) != (b : Int)) = false := by subst hab; simp
                    have HRN := hid (show SetRow wr g (N.set ua (rowTo t (mems s) a (b + 1))) from by
                      rw [rowTo, if_pos hab]; exact hroB.out)
                    clear hab RT ca cb
                    go_wp2_with fail
                    go_roundw
                    case rel => exact ⟨b + 1, by omega, by go_num, HRN.out, hgrB.out⟩
                    case measure => simp [intOf]; omega
                  · have zne : ((a : Int) != (b : Int)) = true := by simp; omega
                    have RA : Hid (wr.drew.cell? ⟨bm, om + a, none⟩ = some (.int .i64 (ua : Int))) := ca
                    have RB : Hid (wr.drew.cell? ⟨bm, om + b, none⟩ = some (.int .i64 (ub : Int))) := cb
                    have za : (0 : Int) ≤ (a : Int) ∧ (a : Int) < ((mems s).length : Int) := by omega
                    have zb : (0 : Int) ≤ (b : Int) ∧ (b : Int) < ((mems s).length : Int) := by omega
                    have zu2 : (0 : Int) ≤ (ua : Int) ∧ (ua : Int) < (L.length : Int) := by omega
                    have HNE := hid hab
                    have HROB := hid hroB.out
                    clear hab ca cb
                    go_wp2_with fail
                    refine Go.Proofs.YtmlecpapoeodkaaDoor.wp_region_L 19 18 (fun w' => w'.cell? ⟨bm, om + a, none⟩ = some (.int .i64 (ua : Int)) ∧ w'.cell? ⟨bm, om + b, none⟩ = some (.int .i64 (ub : Int)) ∧ (w'.cell? ⟨g, ua * 2, none⟩ = some (.int .u64 ((lw (r)).toNat : Int)) ∧ w'.cell? ⟨g, ua * 2 + 1, none⟩ = some (.int .u64 ((hw (r)).toNat : Int)))) (by kernel_rfl) rfl ⟨RA.out, RB.out, RT.out⟩ (fun _ => ?_)
                    refine wpAnyL_pure (i := 0) (v := .slice (some ⟨g, 0, none⟩) L.length c8) (by simp only [List.getElem?_toArray, List.getElem?_cons_zero] <;> rfl) (by kernel_rfl) (by kernel_rfl) (by kernel_rfl) (by exact fun _ _ _ h => h) (by decide) (.inr ⟨RA.out, RB.out, RT.out⟩) (Or.inl ⟨by rfl, fun w _ => (by simp [execOp, go_sem, Act.eval])⟩) (fun _ => ?_)
                    simp only [Act.put, List.setIfInBounds_toArray, List.set_cons_zero, List.set_cons_succ]
                    refine wpAnyL_pure (i := 1) (v := .slice (some ⟨bm, om, none⟩) (mems s).length cm) (by simp only [List.getElem?_toArray, List.getElem?_cons_zero, List.getElem?_cons_succ] <;> rfl) (by kernel_rfl) (by kernel_rfl) (by kernel_rfl) (by exact fun _ _ _ h => h) (by decide) (.inr ⟨RA.out, RB.out, RT.out⟩) (Or.inl ⟨by rfl, fun w _ => (by simp [execOp, go_sem, Act.eval])⟩) (fun _ => ?_)
                    simp only [Act.put, List.setIfInBounds_toArray, List.set_cons_zero, List.set_cons_succ]
                    refine wpAnyL_pure (i := 2) (v := .int .i64 (a : Int)) (by simp only [List.getElem?_toArray, List.getElem?_cons_zero, List.getElem?_cons_succ] <;> rfl) (by kernel_rfl) (by kernel_rfl) (by kernel_rfl) (by exact fun _ _ _ h => h) (by decide) (.inr ⟨RA.out, RB.out, RT.out⟩) (Or.inl ⟨by rfl, fun w _ => (by simp [execOp, go_sem, Act.eval])⟩) (fun _ => ?_)
                    simp only [Act.put, List.setIfInBounds_toArray, List.set_cons_zero, List.set_cons_succ]
                    refine wpAnyL_pure (i := 3) (v := .pointer (some ⟨bm, om + a, none⟩)) (by simp only [List.getElem?_toArray, List.getElem?_cons_zero, List.getElem?_cons_succ] <;> rfl) (by kernel_rfl) (by kernel_rfl) (by kernel_rfl) (by exact fun _ _ _ h => h) (by decide) (.inr ⟨RA.out, RB.out, RT.out⟩) (Or.inl ⟨by rfl, fun w _ => (by simp [execOp, go_sem, Act.eval, za])⟩) (fun _ => ?_)
                    simp only [Act.put, List.setIfInBounds_toArray, List.set_cons_zero, List.set_cons_succ]
                    refine wpAnyL_load2 (i := 4) (v := .int .i64 (ua : Int)) (by simp only [List.getElem?_toArray, List.getElem?_cons_zero, List.getElem?_cons_succ] <;> rfl) (by kernel_rfl) (by kernel_rfl) (by kernel_rfl) (by exact fun _ _ _ h => h) (by decide) (Waits.one rfl ⟨⟨4, .phase⟩, by simp, rfl, rfl⟩) (by kernel_rfl) (by kernel_rfl) (.inr ⟨RA.out, RB.out, RT.out⟩) (Or.inl ⟨by rfl, fun w hw => (by obtain ⟨x0, _, _⟩ := hw; simp [execOp, go_sem, Act.eval, x0])⟩) (fun _ => ?_)
                    simp only [Act.put, List.setIfInBounds_toArray, List.set_cons_zero, List.set_cons_succ]
                    refine wpAnyL_pure (i := 5) (v := .slice (some ⟨g, 0, none⟩) L.length c8) (by simp only [List.getElem?_toArray, List.getElem?_cons_zero, List.getElem?_cons_succ] <;> rfl) (by kernel_rfl) (by kernel_rfl) (by kernel_rfl) (by exact fun _ _ _ h => h) (by decide) (.inr ⟨RA.out, RB.out, RT.out⟩) (Or.inl ⟨by rfl, fun w _ => (by simp [execOp, go_sem, Act.eval])⟩) (fun _ => ?_)
                    simp only [Act.put, List.setIfInBounds_toArray, List.set_cons_zero, List.set_cons_succ]
                    refine wpAnyL_pure (i := 6) (v := .slice (some ⟨bm, om, none⟩) (mems s).length cm) (by simp only [List.getElem?_toArray, List.getElem?_cons_zero, List.getElem?_cons_succ] <;> rfl) (by kernel_rfl) (by kernel_rfl) (by kernel_rfl) (by exact fun _ _ _ h => h) (by decide) (.inr ⟨RA.out, RB.out, RT.out⟩) (Or.inl ⟨by rfl, fun w _ => (by simp [execOp, go_sem, Act.eval])⟩) (fun _ => ?_)
                    simp only [Act.put, List.setIfInBounds_toArray, List.set_cons_zero, List.set_cons_succ]
                    refine wpAnyL_pure (i := 7) (v := .int .i64 (a : Int)) (by simp only [List.getElem?_toArray, List.getElem?_cons_zero, List.getElem?_cons_succ] <;> rfl) (by kernel_rfl) (by kernel_rfl) (by kernel_rfl) (by exact fun _ _ _ h => h) (by decide) (.inr ⟨RA.out, RB.out, RT.out⟩) (Or.inl ⟨by rfl, fun w _ => (by simp [execOp, go_sem, Act.eval])⟩) (fun _ => ?_)
                    simp only [Act.put, List.setIfInBounds_toArray, List.set_cons_zero, List.set_cons_succ]
                    refine wpAnyL_pure (i := 8) (v := .pointer (some ⟨bm, om + a, none⟩)) (by simp only [List.getElem?_toArray, List.getElem?_cons_zero, List.getElem?_cons_succ] <;> rfl) (by kernel_rfl) (by kernel_rfl) (by kernel_rfl) (by exact fun _ _ _ h => h) (by decide) (.inr ⟨RA.out, RB.out, RT.out⟩) (Or.inl ⟨by rfl, fun w _ => (by simp [execOp, go_sem, Act.eval, za])⟩) (fun _ => ?_)
                    simp only [Act.put, List.setIfInBounds_toArray, List.set_cons_zero, List.set_cons_succ]
                    refine wpAnyL_load2 (i := 9) (v := .int .i64 (ua : Int)) (by simp only [List.getElem?_toArray, List.getElem?_cons_zero, List.getElem?_cons_succ] <;> rfl) (by kernel_rfl) (by kernel_rfl) (by kernel_rfl) (by exact fun _ _ _ h => h) (by decide) (Waits.one rfl ⟨⟨9, .phase⟩, by simp, rfl, rfl⟩) (by kernel_rfl) (by kernel_rfl) (.inr ⟨RA.out, RB.out, RT.out⟩) (Or.inl ⟨by rfl, fun w hw => (by obtain ⟨x0, _, _⟩ := hw; simp [execOp, go_sem, Act.eval, x0])⟩) (fun _ => ?_)
                    simp only [Act.put, List.setIfInBounds_toArray, List.set_cons_zero, List.set_cons_succ]
                    refine wpAnyL_pure (i := 10) (v := .pointer (some ⟨g, ua * 2, none⟩)) (by simp only [List.getElem?_toArray, List.getElem?_cons_zero, List.getElem?_cons_succ] <;> rfl) (by kernel_rfl) (by kernel_rfl) (by kernel_rfl) (by exact fun _ _ _ h => h) (by decide) (.inr ⟨RA.out, RB.out, RT.out⟩) (Or.inl ⟨by rfl, fun w _ => (by simp [execOp, go_sem, Act.eval, zu2])⟩) (fun _ => ?_)
                    simp only [Act.put, List.setIfInBounds_toArray, List.set_cons_zero, List.set_cons_succ]
                    refine wpAnyL_load2 (i := 11) (v := encS (r)) (by simp only [List.getElem?_toArray, List.getElem?_cons_zero, List.getElem?_cons_succ] <;> rfl) (by kernel_rfl) (by kernel_rfl) (by kernel_rfl) (by exact fun _ _ _ h => h) (by decide) (Waits.one rfl ⟨⟨11, .phase⟩, by simp, rfl, rfl⟩) (by kernel_rfl) (by kernel_rfl) (.inr ⟨RA.out, RB.out, RT.out⟩) (Or.inl ⟨by rfl, fun w hw => (by obtain ⟨_, _, ⟨y2, z2⟩⟩ := hw; simp [execOp, go_sem, Act.eval, y2, z2])⟩) (fun _ => ?_)
                    simp only [Act.put, List.setIfInBounds_toArray, List.set_cons_zero, List.set_cons_succ]
                    refine wpAnyL_pure (i := 12) (v := .slice (some ⟨bm, om, none⟩) (mems s).length cm) (by simp only [List.getElem?_toArray, List.getElem?_cons_zero, List.getElem?_cons_succ] <;> rfl) (by kernel_rfl) (by kernel_rfl) (by kernel_rfl) (by exact fun _ _ _ h => h) (by decide) (.inr ⟨RA.out, RB.out, RT.out⟩) (Or.inl ⟨by rfl, fun w _ => (by simp [execOp, go_sem, Act.eval])⟩) (fun _ => ?_)
                    simp only [Act.put, List.setIfInBounds_toArray, List.set_cons_zero, List.set_cons_succ]
                    refine wpAnyL_pure (i := 13) (v := .int .i64 (b : Int)) (by simp only [List.getElem?_toArray, List.getElem?_cons_zero, List.getElem?_cons_succ] <;> rfl) (by kernel_rfl) (by kernel_rfl) (by kernel_rfl) (by exact fun _ _ _ h => h) (by decide) (.inr ⟨RA.out, RB.out, RT.out⟩) (Or.inl ⟨by rfl, fun w _ => (by simp [execOp, go_sem, Act.eval])⟩) (fun _ => ?_)
                    simp only [Act.put, List.setIfInBounds_toArray, List.set_cons_zero, List.set_cons_succ]
                    refine wpAnyL_pure (i := 14) (v := .pointer (some ⟨bm, om + b, none⟩)) (by simp only [List.getElem?_toArray, List.getElem?_cons_zero, List.getElem?_cons_succ] <;> rfl) (by kernel_rfl) (by kernel_rfl) (by kernel_rfl) (by exact fun _ _ _ h => h) (by decide) (.inr ⟨RA.out, RB.out, RT.out⟩) (Or.inl ⟨by rfl, fun w _ => (by simp [execOp, go_sem, Act.eval, zb])⟩) (fun _ => ?_)
                    simp only [Act.put, List.setIfInBounds_toArray, List.set_cons_zero, List.set_cons_succ]
                    refine wpAnyL_load2 (i := 15) (v := .int .i64 (ub : Int)) (by simp only [List.getElem?_toArray, List.getElem?_cons_zero, List.getElem?_cons_succ] <;> rfl) (by kernel_rfl) (by kernel_rfl) (by kernel_rfl) (by exact fun _ _ _ h => h) (by decide) (Waits.one rfl ⟨⟨15, .phase⟩, by simp, rfl, rfl⟩) (by kernel_rfl) (by kernel_rfl) (.inr ⟨RA.out, RB.out, RT.out⟩) (Or.inl ⟨by rfl, fun w hw => (by obtain ⟨_, x1, _⟩ := hw; simp [execOp, go_sem, Act.eval, x1])⟩) (fun _ => ?_)
                    simp only [Act.put, List.setIfInBounds_toArray, List.set_cons_zero, List.set_cons_succ]
                    refine wpAnyL_one (i := 16) (by kernel_rfl) (by simp only [List.getElem?_toArray, List.getElem?_cons_zero, List.getElem?_cons_succ] <;> rfl) (by rfl) ?_
                    refine opwp_call (f := 58) (args := #[encS (r), .int .i64 (ub : Int)]) (w' := wr.drew) (by simp [go_sem, Act.eval]) ?_
                    refine (rWith_c r (ub : Int) wr.drew).mono ?_
                    rintro e w12 ⟨rfl, hb12⟩
                    have hc1_0 := hid ((hb12.cell (cell_lt RA.out)).trans RA.out)
                    have hc1_1 := hid ((hb12.cell (cell_lt RB.out)).trans RB.out)
                    have hc1_2 := hid (show (w12.cell? ⟨g, ua * 2, none⟩ = some (.int .u64 ((lw (r)).toNat : Int)) ∧ w12.cell? ⟨g, ua * 2 + 1, none⟩ = some (.int .u64 ((hw (r)).toNat : Int))) from ⟨(hb12.cell (cell_lt RT.out.1)).trans RT.out.1, (hb12.cell (cell_lt RT.out.2)).trans RT.out.2⟩)
                    refine .inl ⟨_, rfl, .inr ⟨hc1_0.out, hc1_1.out, hc1_2.out⟩, ?_⟩
                    simp only [Act.put, List.setIfInBounds_toArray, List.set_cons_zero, List.set_cons_succ]
                    refine wpAnyL_pure (i := 17) (v := .pointer (some ⟨g, ua * 2, none⟩)) (by simp only [List.getElem?_toArray, List.getElem?_cons_zero, List.getElem?_cons_succ] <;> rfl) (by kernel_rfl) (by kernel_rfl) (by kernel_rfl) (by exact fun _ _ _ h => h) (by decide) (.inr ⟨hc1_0.out, hc1_1.out, hc1_2.out⟩) (Or.inl ⟨by rfl, fun w _ => (by simp [execOp, go_sem, Act.eval, zu2])⟩) (fun _ => ?_)
                    simp only [Act.put, List.setIfInBounds_toArray, List.set_cons_zero, List.set_cons_succ]
                    have hbb := (Below.refl _ wr).drew.trans hb12
                    have hro12 := HROB.out.same (hbb.block g HROB.out.lt)
                    obtain ⟨t2, ht2, y0, y1, y2, y3⟩ := hro12.get ua (by rw [HSLEN.out]; exact hual)
                    refine wpAnyL_one (i := 18) (by kernel_rfl) (by simp only [List.getElem?_toArray, List.getElem?_cons_zero, List.getElem?_cons_succ] <;> rfl) (by rfl) ?_
                    refine opwp_skip (w' := ((w12.setCell ⟨g, ua * 2, none⟩ (.int .u64 ((lw (withV r (ub : Int))).toNat : Int))).setCell ⟨g, ua * 2 + 1, none⟩ (.int .u64 ((hw (withV r (ub : Int))).toNat : Int)))) (by simp [execOp, go_sem, Act.eval, y0, y1, y2, y3]) ⟨.inl (by kernel_rfl), ?_⟩
                    simp only [Act.put]
                    refine wpAnyL_done (by kernel_rfl) ?_ _
                    have hrow := hro12.store ua (by rw [HSLEN.out]; exact hual) (withV r (ub : Int))
                    have e9 : (N.set ua (rowTo t (mems s) a b)).set ua (withV r (ub : Int)) = N.set ua (rowTo t (mems s) a (b + 1)) := by
                      rw [List.set_set, rowTo, if_neg HNE.out, getD_at _ _ hbl, HUB.out, HR2.out]
                    rw [e9] at hrow
                    have hgr2 := grownBy_then (grownBy_then hgrB.out (grownBy_of_below' hbb _)) (grownBy_set2 w12 g (ua * 2) (ua * 2 + 1) (.int .u64 ((lw (withV r (ub : Int))).toNat : Int)) (.int .u64 ((hw (withV r (ub : Int))).toNat : Int)))
                    have HRN := hid hrow
                    have HG2 := hid hgr2
                    clear hrow hgr2 e9 hro12 y0 y1 y2 y3 hbb hb12 ht2
                    go_wp2_with fail
                    go_roundw
                    case rel => exact ⟨b + 1, by omega, by go_num, HRN.out, HG2.out⟩
                    case measure => simp [intOf]; omega
                · obtain rfl : b = (mems s).length := by omega
                  obtain ⟨bm, om, cq, eq, hbm, hcs⟩ := hIq.form (by omega)
                  injection eq with e1 _ e2
                  subst e1; subst e2
                  have ca := hcs a hal
                  rw [HUA.out] at ca
                  have RA : Hid (wr.drew.cell? ⟨bm, om + a, none⟩ = some (.int .i64 (ua : Int))) := ca
                  have za : (0 : Int) ≤ (a : Int) ∧ (a : Int) < ((mems s).length : Int) := by omega
                  have zu2 : (0 : Int) ≤ (ua : Int) ∧ (ua : Int) < (L.length : Int) := by omega
                  have HROB := hid hroB.out
                  clear hcs hIq ca
                  go_wp2_with fail
                  refine Go.Proofs.YtmlecpapoeodkaaDoor.wp_region_L 16 15 (fun w' => w'.cell? ⟨bm, om + a, none⟩ = some (.int .i64 (ua : Int)) ∧ (w'.cell? ⟨g, ua * 2, none⟩ = some (.int .u64 ((lw (r)).toNat : Int)) ∧ w'.cell? ⟨g, ua * 2 + 1, none⟩ = some (.int .u64 ((hw (r)).toNat : Int)))) (by kernel_rfl) rfl ⟨RA.out, RT.out⟩ (fun _ => ?_)
                  refine wpAnyL_pure (i := 0) (v := .slice (some ⟨g, 0, none⟩) L.length c8) (by simp only [List.getElem?_toArray, List.getElem?_cons_zero] <;> rfl) (by kernel_rfl) (by kernel_rfl) (by kernel_rfl) (by exact fun _ _ _ h => h) (by decide) (.inr ⟨RA.out, RT.out⟩) (Or.inl ⟨by rfl, fun w _ => (by simp [execOp, go_sem, Act.eval])⟩) (fun _ => ?_)
                  simp only [Act.put, List.setIfInBounds_toArray, List.set_cons_zero, List.set_cons_succ]
                  refine wpAnyL_pure (i := 1) (v := .slice (some ⟨bm, om, none⟩) (mems s).length cm) (by simp only [List.getElem?_toArray, List.getElem?_cons_zero, List.getElem?_cons_succ] <;> rfl) (by kernel_rfl) (by kernel_rfl) (by kernel_rfl) (by exact fun _ _ _ h => h) (by decide) (.inr ⟨RA.out, RT.out⟩) (Or.inl ⟨by rfl, fun w _ => (by simp [execOp, go_sem, Act.eval])⟩) (fun _ => ?_)
                  simp only [Act.put, List.setIfInBounds_toArray, List.set_cons_zero, List.set_cons_succ]
                  refine wpAnyL_pure (i := 2) (v := .int .i64 (a : Int)) (by simp only [List.getElem?_toArray, List.getElem?_cons_zero, List.getElem?_cons_succ] <;> rfl) (by kernel_rfl) (by kernel_rfl) (by kernel_rfl) (by exact fun _ _ _ h => h) (by decide) (.inr ⟨RA.out, RT.out⟩) (Or.inl ⟨by rfl, fun w _ => (by simp [execOp, go_sem, Act.eval])⟩) (fun _ => ?_)
                  simp only [Act.put, List.setIfInBounds_toArray, List.set_cons_zero, List.set_cons_succ]
                  refine wpAnyL_pure (i := 3) (v := .pointer (some ⟨bm, om + a, none⟩)) (by simp only [List.getElem?_toArray, List.getElem?_cons_zero, List.getElem?_cons_succ] <;> rfl) (by kernel_rfl) (by kernel_rfl) (by kernel_rfl) (by exact fun _ _ _ h => h) (by decide) (.inr ⟨RA.out, RT.out⟩) (Or.inl ⟨by rfl, fun w _ => (by simp [execOp, go_sem, Act.eval, za])⟩) (fun _ => ?_)
                  simp only [Act.put, List.setIfInBounds_toArray, List.set_cons_zero, List.set_cons_succ]
                  refine wpAnyL_load2 (i := 4) (v := .int .i64 (ua : Int)) (by simp only [List.getElem?_toArray, List.getElem?_cons_zero, List.getElem?_cons_succ] <;> rfl) (by kernel_rfl) (by kernel_rfl) (by kernel_rfl) (by exact fun _ _ _ h => h) (by decide) (Waits.one rfl ⟨⟨4, .phase⟩, by simp, rfl, rfl⟩) (by kernel_rfl) (by kernel_rfl) (.inr ⟨RA.out, RT.out⟩) (Or.inl ⟨by rfl, fun w hw => (by obtain ⟨x0, _⟩ := hw; simp [execOp, go_sem, Act.eval, x0])⟩) (fun _ => ?_)
                  simp only [Act.put, List.setIfInBounds_toArray, List.set_cons_zero, List.set_cons_succ]
                  refine wpAnyL_pure (i := 5) (v := .slice (some ⟨g, 0, none⟩) L.length c8) (by simp only [List.getElem?_toArray, List.getElem?_cons_zero, List.getElem?_cons_succ] <;> rfl) (by kernel_rfl) (by kernel_rfl) (by kernel_rfl) (by exact fun _ _ _ h => h) (by decide) (.inr ⟨RA.out, RT.out⟩) (Or.inl ⟨by rfl, fun w _ => (by simp [execOp, go_sem, Act.eval])⟩) (fun _ => ?_)
                  simp only [Act.put, List.setIfInBounds_toArray, List.set_cons_zero, List.set_cons_succ]
                  refine wpAnyL_pure (i := 6) (v := .slice (some ⟨bm, om, none⟩) (mems s).length cm) (by simp only [List.getElem?_toArray, List.getElem?_cons_zero, List.getElem?_cons_succ] <;> rfl) (by kernel_rfl) (by kernel_rfl) (by kernel_rfl) (by exact fun _ _ _ h => h) (by decide) (.inr ⟨RA.out, RT.out⟩) (Or.inl ⟨by rfl, fun w _ => (by simp [execOp, go_sem, Act.eval])⟩) (fun _ => ?_)
                  simp only [Act.put, List.setIfInBounds_toArray, List.set_cons_zero, List.set_cons_succ]
                  refine wpAnyL_pure (i := 7) (v := .int .i64 (a : Int)) (by simp only [List.getElem?_toArray, List.getElem?_cons_zero, List.getElem?_cons_succ] <;> rfl) (by kernel_rfl) (by kernel_rfl) (by kernel_rfl) (by exact fun _ _ _ h => h) (by decide) (.inr ⟨RA.out, RT.out⟩) (Or.inl ⟨by rfl, fun w _ => (by simp [execOp, go_sem, Act.eval])⟩) (fun _ => ?_)
                  simp only [Act.put, List.setIfInBounds_toArray, List.set_cons_zero, List.set_cons_succ]
                  refine wpAnyL_pure (i := 8) (v := .pointer (some ⟨bm, om + a, none⟩)) (by simp only [List.getElem?_toArray, List.getElem?_cons_zero, List.getElem?_cons_succ] <;> rfl) (by kernel_rfl) (by kernel_rfl) (by kernel_rfl) (by exact fun _ _ _ h => h) (by decide) (.inr ⟨RA.out, RT.out⟩) (Or.inl ⟨by rfl, fun w _ => (by simp [execOp, go_sem, Act.eval, za])⟩) (fun _ => ?_)
                  simp only [Act.put, List.setIfInBounds_toArray, List.set_cons_zero, List.set_cons_succ]
                  refine wpAnyL_load2 (i := 9) (v := .int .i64 (ua : Int)) (by simp only [List.getElem?_toArray, List.getElem?_cons_zero, List.getElem?_cons_succ] <;> rfl) (by kernel_rfl) (by kernel_rfl) (by kernel_rfl) (by exact fun _ _ _ h => h) (by decide) (Waits.one rfl ⟨⟨9, .phase⟩, by simp, rfl, rfl⟩) (by kernel_rfl) (by kernel_rfl) (.inr ⟨RA.out, RT.out⟩) (Or.inl ⟨by rfl, fun w hw => (by obtain ⟨x0, _⟩ := hw; simp [execOp, go_sem, Act.eval, x0])⟩) (fun _ => ?_)
                  simp only [Act.put, List.setIfInBounds_toArray, List.set_cons_zero, List.set_cons_succ]
                  refine wpAnyL_pure (i := 10) (v := .pointer (some ⟨g, ua * 2, none⟩)) (by simp only [List.getElem?_toArray, List.getElem?_cons_zero, List.getElem?_cons_succ] <;> rfl) (by kernel_rfl) (by kernel_rfl) (by kernel_rfl) (by exact fun _ _ _ h => h) (by decide) (.inr ⟨RA.out, RT.out⟩) (Or.inl ⟨by rfl, fun w _ => (by simp [execOp, go_sem, Act.eval, zu2])⟩) (fun _ => ?_)
                  simp only [Act.put, List.setIfInBounds_toArray, List.set_cons_zero, List.set_cons_succ]
                  refine wpAnyL_load2 (i := 11) (v := encS (r)) (by simp only [List.getElem?_toArray, List.getElem?_cons_zero, List.getElem?_cons_succ] <;> rfl) (by kernel_rfl) (by kernel_rfl) (by kernel_rfl) (by exact fun _ _ _ h => h) (by decide) (Waits.one rfl ⟨⟨11, .phase⟩, by simp, rfl, rfl⟩) (by kernel_rfl) (by kernel_rfl) (.inr ⟨RA.out, RT.out⟩) (Or.inl ⟨by rfl, fun w hw => (by obtain ⟨_, ⟨y1, z1⟩⟩ := hw; simp [execOp, go_sem, Act.eval, y1, z1])⟩) (fun _ => ?_)
                  simp only [Act.put, List.setIfInBounds_toArray, List.set_cons_zero, List.set_cons_succ]
                  refine wpAnyL_pure (i := 12) (v := .int .i64 (un : Int)) (by simp only [List.getElem?_toArray, List.getElem?_cons_zero, List.getElem?_cons_succ] <;> rfl) (by kernel_rfl) (by kernel_rfl) (by kernel_rfl) (by exact fun _ _ _ h => h) (by decide) (.inr ⟨RA.out, RT.out⟩) (Or.inl ⟨by rfl, fun w _ => (by simp [execOp, go_sem, Act.eval])⟩) (fun _ => ?_)
                  simp only [Act.put, List.setIfInBounds_toArray, List.set_cons_zero, List.set_cons_succ]
                  refine wpAnyL_one (i := 13) (by kernel_rfl) (by simp only [List.getElem?_toArray, List.getElem?_cons_zero, List.getElem?_cons_succ] <;> rfl) (by rfl) ?_
                  refine opwp_call (f := 59) (args := #[encS (r), .int .i64 (un : Int)]) (w' := wr.drew) (by simp [go_sem, Act.eval]) ?_
                  refine (rWithout_c r (un : Int) wr.drew).mono ?_
                  rintro e w12 ⟨rfl, hb12⟩
                  have hc1_0 := hid ((hb12.cell (cell_lt RA.out)).trans RA.out)
                  have hc1_1 := hid (show (w12.cell? ⟨g, ua * 2, none⟩ = some (.int .u64 ((lw (r)).toNat : Int)) ∧ w12.cell? ⟨g, ua * 2 + 1, none⟩ = some (.int .u64 ((hw (r)).toNat : Int))) from ⟨(hb12.cell (cell_lt RT.out.1)).trans RT.out.1, (hb12.cell (cell_lt RT.out.2)).trans RT.out.2⟩)
                  refine .inl ⟨_, rfl, .inr ⟨hc1_0.out, hc1_1.out⟩, ?_⟩
                  simp only [Act.put, List.setIfInBounds_toArray, List.set_cons_zero, List.set_cons_succ]
                  refine wpAnyL_pure (i := 14) (v := .pointer (some ⟨g, ua * 2, none⟩)) (by simp only [List.getElem?_toArray, List.getElem?_cons_zero, List.getElem?_cons_succ] <;> rfl) (by kernel_rfl) (by kernel_rfl) (by kernel_rfl) (by exact fun _ _ _ h => h) (by decide) (.inr ⟨hc1_0.out, hc1_1.out⟩) (Or.inl ⟨by rfl, fun w _ => (by simp [execOp, go_sem, Act.eval, zu2])⟩) (fun _ => ?_)
                  simp only [Act.put, List.setIfInBounds_toArray, List.set_cons_zero, List.set_cons_succ]
                  have hbb := (Below.refl _ wr).drew.trans hb12
                  have hro12 := HROB.out.same (hbb.block g HROB.out.lt)
                  obtain ⟨t2, ht2, y0, y1, y2, y3⟩ := hro12.get ua (by rw [HSLEN.out]; exact hual)
                  refine wpAnyL_one (i := 15) (by kernel_rfl) (by simp only [List.getElem?_toArray, List.getElem?_cons_zero, List.getElem?_cons_succ] <;> rfl) (by rfl) ?_
                  refine opwp_skip (w' := ((w12.setCell ⟨g, ua * 2, none⟩ (.int .u64 ((lw (withoutV r (un : Int))).toNat : Int))).setCell ⟨g, ua * 2 + 1, none⟩ (.int .u64 ((hw (withoutV r (un : Int))).toNat : Int)))) (by simp [execOp, go_sem, Act.eval, y0, y1, y2, y3]) ⟨.inl (by kernel_rfl), ?_⟩
                  simp only [Act.put]
                  refine wpAnyL_done (by kernel_rfl) ?_ _
                  have hrow := hro12.store ua (by rw [HSLEN.out]; exact hual) (withoutV r (un : Int))
                  have e9 : (N.set ua (rowTo t (mems s) a (mems s).length)).set ua (withoutV r (un : Int)) = ((mems s).take (a + 1)).foldl (elStep s (un : Int)) M := by
                    rw [List.take_succ_eq_append_getElem hal, List.foldl_append, ← hN.out, HUA.out]
                    show _ = elStep s (un : Int) N (ua : Int)
                    unfold elStep
                    rw [Int.toNat_natCast, List.set_set, HT.out, HR2.out, rowTo_step hal HUA.out HTI.out]
                  rw [e9] at hrow
                  have hgr2 := grownBy_then (grownBy_then hgrB.out (grownBy_of_below' hbb _)) (grownBy_set2 w12 g (ua * 2) (ua * 2 + 1) (.int .u64 ((lw (withoutV r (un : Int))).toNat : Int)) (.int .u64 ((hw (withoutV r (un : Int))).toNat : Int)))
                  have HRN := hid hrow
                  have HG2 := hid hgr2
                  clear hrow hgr2 e9 hro12 y0 y1 y2 y3 hbb hb12 ht2
                  go_wp2_with fail
                  go_roundw
                  case rel => exact ⟨a + 1, _, by omega, by go_num, rfl, HRN.out, HG2.out⟩
                  case measure => simp [intOf]; omega
            · obtain rfl : a = (mems s).length := by omega
              have hNN := hN.out
              rw [List.take_length] at hNN
              subst hNN
              have HMq := hid (HM7.out.near hgr.out hroN.out)
              have HIq := hid (HI7.out.kept' hgr.out (fun x n c' e e2 => by have h1 := HFARM.out x n c' e; have h2 := Option.some.inj e2; have := HM7.out.ord; omega))
              have HSTEP := hid (mok_step HST.out.1 HST.out.2 HVL.out HIO.out hkl HLK.out HSET.out)
              generalize (mems s).foldl (elStep s (un : Int)) M = N at *
              clear hN hroN hgr
              go_wp2_with fail
              go_loopw [14, 15] (fun u i wq => ∃ (a : Nat), a ≤ (mems s).length ∧ i = .int .i64 a ∧ u = .int .i64 (upMin l (mems s) (nn : Int) a) ∧ Hid (RefMem w wq g gd N (.slice p7 len7 c7) vU ((bagsP (gOf L) l).take (k + 1)) ((upsP (gOf L) l).take k)) ∧ Hid (IntsAt wq (.slice pm (mems s).length cm) (mems s))) (fun _ i _ => (mems s).length - (intOf i).toNat)
              case atStart => exact ⟨0, Nat.zero_le _, rfl, rfl, HMq.out, HIq.out⟩
              case round =>
                clear HMq HIq
                obtain ⟨a, ha, rfl, rfl, hmq, hiq⟩ := hrel
                have hub := upMin_le l (mems s) (nn : Int) a
                have hup := hub.1
                have hat := upMin_at l (mems s) (nn : Int) a
                have hpr : ∀ x, -1 ≤ posR l x ∧ posR l x ≤ 128 := fun x => by
                  unfold posR
                  split
                  · rename_i hx
                    have := posL_lt hx
                    omega
                  · omega
                have hlow : -1 ≤ upMin l (mems s) (nn : Int) a := by
                  rcases hat with h | ⟨b, _, h⟩
                  · omega
                  · rw [h]; exact (hpr _).1
                clear hub hat
                by_cases hal : a < (mems s).length
                · obtain ⟨bm, om, cq, eq, hbm, hcs⟩ := hiq.out.form (by omega)
                  injection eq with e1 _ e2
                  subst e1; subst e2
                  have ca := hcs a hal
                  have za : (0 : Int) ≤ (a : Int) ∧ (a : Int) < ((mems s).length : Int) := by omega
                  have HT := hid (show upMin l (mems s) (nn : Int) (a + 1) = min (upMin l (mems s) (nn : Int) a) (posR l (mems s)[a]) from by rw [upMin, getD_at _ _ hal])
                  have hp2 := hpr (mems s)[a]
                  have HP := hid (rPos_c _ l (mems s)[a] wr (HJ.out _ hmq.out.low) hl)
                  generalize upMin l (mems s) (nn : Int) a = m at *
                  generalize posR l (mems s)[a] = pr at *
                  generalize (mems s)[a] = x at *
                  clear hcs hpr
                  go_wp2_with fail
                  refine HP.out.mono ?_
                  rintro e w12 ⟨rfl, hb12⟩
                  have HM12 := hid (hmq.out.below hb12)
                  have HI12 := hid (hiq.out.below hb12)
                  clear HP hb12 ca hmq hiq
                  by_cases hd : pr < m
                  · have hd2 : ¬ m ≤ pr := by omega
                    have HE := hid (show upMin l (mems s) (nn : Int) (a + 1) = pr from by rw [HT.out]; omega)
                    go_wp2_with fail
                    go_roundw
                    case rel => exact ⟨a + 1, by omega, by go_num, by rw [HE.out], HM12.out, HI12.out⟩
                    case measure => simp [intOf]; omega
                  · have hd2 : m ≤ pr := by omega
                    have HE := hid (show upMin l (mems s) (nn : Int) (a + 1) = m from by rw [HT.out]; omega)
                    go_wp2_with fail
                    go_roundw
                    case rel => exact ⟨a + 1, by omega, by go_num, by rw [HE.out], HM12.out, HI12.out⟩
                    case measure => simp [intOf]; omega
                · obtain rfl : a = (mems s).length := by omega
                  have hnl : l.length = nn := HIO.out.len.trans HNN.out.symm
                  have HNL := hid hnl
                  have hnb : nn ≤ 128 ∧ 1 ≤ nn := by omega
                  have hgd : l.getD k 0 = (un : Int) := by rw [getD_at l k hkl, HLK.out]
                  have hUA : upAt (gOf L) l k = if k + 1 = l.length then -1 else if mems s = [] then (k : Int) + 1 else posL l (pick (posL l) (mems s)).1 := by
                    unfold upAt; rw [hgd, HSET.out]
                  have HUA := hid hUA
                  have HPK := hid (fun (hne : mems s ≠ []) => upMin_pick (l := l) hne (fun x hx => ⟨(has_range ((mem_mems _ _).1 hx)).1, by
                    have h1 := (mem_mems _ _).1 hx
                    rw [← HSET.out] at h1
                    exact (elS_in HVL.out HIO.out (Nat.le_of_lt hkl) h1).1⟩))
                  have HTK := hid (show (upsP (gOf L) l).take k ++ [upAt (gOf L) l k] = (upsP (gOf L) l).take (k + 1) from by
                    rw [List.take_succ_eq_append_getElem (by rw [upsP_length]; exact hkl)]
                    congr 2
                    simp [upsP])
                  have hul2 : ((upsP (gOf L) l).take k).length ≤ 1000 := by rw [List.length_take, upsP_length]; omega
                  obtain ⟨um, hum⟩ : ∃ um, um = upMin l (mems s) (nn : Int) (mems s).length := ⟨_, rfl⟩
                  have HUM := hid hum
                  rw [← hum] at hup hlow ⊢
                  clear hnl hgd hUA hum hpr
                  by_cases hem : mems s = []
                  · have zl0 : (((mems s).length : Int) == 0) = true := by rw [hem]; rfl
                    have HEM := hid hem
                    clear hem
                    by_cases hlast : k + 1 = l.length
                    · have zlast : ((k : Int) == (nn : Int) - 1) = true := by have := HNL.out; simp; omega
                      have HLA := hid hlast
                      clear hlast
                      have HUP := hid (show upAt (gOf L) l k = -1 from by rw [HUA.out, if_pos HLA.out])
                      have hna := (Below.refl _ wr).alloc (Nat.le_refl _) (.cells #[.int .i64 (-1)] 3)
                      have HMA := hid (hmq.out.below hna)
                      have HON := hid (one_int wr (-1) 3)
                      obtain ⟨d0, d1, _, _⟩ := hmq.out.dv.cells
                      obtain ⟨d0a, d1a, f0a, f1a⟩ := HMA.out.dv.cells
                      clear hna
                      go_wp2_with (at_builtin; refine wpList_append_I rfl _ _ rfl (gd + 1) vU _ rfl HMA.out.ownU _ [-1] rfl HON.out (by show _ + 1 ≤ 16777216; omega) HMA.out.sz ?_; intro vU2 w12 hown2 hg2 _; have dv2 := HMA.out.dv.kept hg2 (fun e => by have := (HMA.out.ownU.lt _ e.symm).1; omega); obtain ⟨y0, y1, y2, y3⟩ := dv2.cells; obtain ⟨p12, c12, e12, _⟩ := hown2.ints; generalize (List.take k (upsP (gOf L) l) ++ [-1]).length = len12 at e12; subst e12)
                      have HM12 := HMA.out.ups hg2 hown2
                      rw [← HUP.out, HTK.out] at HM12
                      have HX := hid HM12
                      clear HM12 hown2 hg2 dv2 y0 y1 y2 y3 d0 d1 d0a d1a f0a f1a
                      go_roundw
                      case rel => exact ⟨k + 1, N, _, _, by omega, by go_num, HX.out, HSTEP.out⟩
                      case measure => simp [intOf]; omega
                    · have zlast : ((k : Int) == (nn : Int) - 1) = false := by have := HNL.out; simp; omega
                      have HLA := hid hlast
                      clear hlast
                      have HUP := hid (show upAt (gOf L) l k = (k : Int) + 1 from by rw [HUA.out, if_neg HLA.out, if_pos HEM.out])
                      have hna := (Below.refl _ wr).alloc (Nat.le_refl _) (.cells #[.int .i64 ((k : Int) + 1)] 3)
                      have HMA := hid (hmq.out.below hna)
                      have HON := hid (one_int wr ((k : Int) + 1) 3)
                      obtain ⟨d0, d1, _, _⟩ := hmq.out.dv.cells
                      obtain ⟨d0a, d1a, f0a, f1a⟩ := HMA.out.dv.cells
                      clear hna
                      go_wp2_with (at_builtin; refine wpList_append_I rfl _ _ rfl (gd + 1) vU _ rfl HMA.out.ownU _ [(k : Int) + 1] rfl HON.out (by show _ + 1 ≤ 16777216; omega) HMA.out.sz ?_; intro vU2 w12 hown2 hg2 _; have dv2 := HMA.out.dv.kept hg2 (fun e => by have := (HMA.out.ownU.lt _ e.symm).1; omega); obtain ⟨y0, y1, y2, y3⟩ := dv2.cells; obtain ⟨p12, c12, e12, _⟩ := hown2.ints; generalize (List.take k (upsP (gOf L) l) ++ [(k : Int) + 1]).length = len12 at e12; subst e12)
                      have HM12 := HMA.out.ups hg2 hown2
                      rw [← HUP.out, HTK.out] at HM12
                      have HX := hid HM12
                      clear HM12 hown2 hg2 dv2 y0 y1 y2 y3 d0 d1 d0a d1a f0a f1a
                      go_roundw
                      case rel => exact ⟨k + 1, N, _, _, by omega, by go_num, HX.out, HSTEP.out⟩
                      case measure => simp [intOf]; omega
                  · have zl0 : (((mems s).length : Int) == 0) = false := by have := List.length_pos_iff.2 hem; simp; omega
                    have HEM := hid hem
                    clear hem
                    by_cases hlast : k + 1 = l.length
                    · have zlast : ((k : Int) == (nn : Int) - 1) = true := by have := HNL.out; simp; omega
                      have HLA := hid hlast
                      clear hlast
                      have HUP := hid (show upAt (gOf L) l k = -1 from by rw [HUA.out, if_pos HLA.out])
                      have hna := (Below.refl _ wr).alloc (Nat.le_refl _) (.cells #[.int .i64 (-1)] 3)
                      have HMA := hid (hmq.out.below hna)
                      have HON := hid (one_int wr (-1) 3)
                      obtain ⟨d0, d1, _, _⟩ := hmq.out.dv.cells
                      obtain ⟨d0a, d1a, f0a, f1a⟩ := HMA.out.dv.cells
                      clear hna
                      go_wp2_with (at_builtin; refine wpList_append_I rfl _ _ rfl (gd + 1) vU _ rfl HMA.out.ownU _ [-1] rfl HON.out (by show _ + 1 ≤ 16777216; omega) HMA.out.sz ?_; intro vU2 w12 hown2 hg2 _; have dv2 := HMA.out.dv.kept hg2 (fun e => by have := (HMA.out.ownU.lt _ e.symm).1; omega); obtain ⟨y0, y1, y2, y3⟩ := dv2.cells; obtain ⟨p12, c12, e12, _⟩ := hown2.ints; generalize (List.take k (upsP (gOf L) l) ++ [-1]).length = len12 at e12; subst e12)
                      have HM12 := HMA.out.ups hg2 hown2
                      rw [← HUP.out, HTK.out] at HM12
                      have HX := hid HM12
                      clear HM12 hown2 hg2 dv2 y0 y1 y2 y3 d0 d1 d0a d1a f0a f1a
                      go_roundw
                      case rel => exact ⟨k + 1, N, _, _, by omega, by go_num, HX.out, HSTEP.out⟩
                      case measure => simp [intOf]; omega
                    · have zlast : ((k : Int) == (nn : Int) - 1) = false := by have := HNL.out; simp; omega
                      have HLA := hid hlast
                      clear hlast
                      have HUP := hid (show upAt (gOf L) l k = um from by rw [HUA.out, if_neg HLA.out, if_neg HEM.out, HUM.out, ← HPK.out HEM.out, HNL.out])
                      have hna := (Below.refl _ wr).alloc (Nat.le_refl _) (.cells #[.int .i64 (um)] 3)
                      have HMA := hid (hmq.out.below hna)
                      have HON := hid (one_int wr (um) 3)
                      obtain ⟨d0, d1, _, _⟩ := hmq.out.dv.cells
                      obtain ⟨d0a, d1a, f0a, f1a⟩ := HMA.out.dv.cells
                      clear hna
                      go_wp2_with (at_builtin; refine wpList_append_I rfl _ _ rfl (gd + 1) vU _ rfl HMA.out.ownU _ [um] rfl HON.out (by show _ + 1 ≤ 16777216; omega) HMA.out.sz ?_; intro vU2 w12 hown2 hg2 _; have dv2 := HMA.out.dv.kept hg2 (fun e => by have := (HMA.out.ownU.lt _ e.symm).1; omega); obtain ⟨y0, y1, y2, y3⟩ := dv2.cells; obtain ⟨p12, c12, e12, _⟩ := hown2.ints; generalize (List.take k (upsP (gOf L) l) ++ [um]).length = len12 at e12; subst e12)
                      have HM12 := HMA.out.ups hg2 hown2
                      rw [← HUP.out, HTK.out] at HM12
                      have HX := hid HM12
                      clear HM12 hown2 hg2 dv2 y0 y1 y2 y3 d0 d1 d0a d1a f0a f1a
                      go_roundw
                      case rel => exact ⟨k + 1, N, _, _, by omega, by go_num, HX.out, HSTEP.out⟩
                      case measure => simp [intOf]; omega
        · obtain rfl : k = l.length := by omega
          have hm2 := hm.out
          rw [List.take_of_length_le (by rw [bagsP_length]; exact Nat.le_refl _), List.take_of_length_le (by rw [upsP_length]; exact Nat.le_refl _)] at hm2
          have HM := hid hm2
          have hnl : ¬ (l.length : Int) < (nn : Int) := by have := HIO.out.len; have := HNN.out; omega
          obtain ⟨d0, d1, _, _⟩ := hm2.dv.cells
          obtain ⟨e0, e1, f0, f1⟩ := hm2.rv.cells
          have hord := hm2.ord
          obtain ⟨pB, cB, eB, _⟩ := hm2.own.sets
          obtain ⟨pU, cU, eU, _⟩ := hm2.ownU.ints
          subst eB; subst eU
          clear hm hm2
          go_wp2_with fail
          have o1 := (HM.out.own.kept (grownBy_01 _ w.heap.size (.slice pB (bagsP (gOf L) l).length cB) (.slice pU (upsP (gOf L) l).length cU)) (own_far HM.out.own (by intro k e; cases e; omega)))
          have o2 := (HM.out.ownU.kept (grownBy_01 _ w.heap.size (.slice pB (bagsP (gOf L) l).length cB) (.slice pU (upsP (gOf L) l).length cU)) (own_far HM.out.ownU (by intro k e; cases e; omega)))
          exact bodyPost_ret (results_boxR_e rfl rfl rfl (HM.out.rv.set01 _ _)) rfl ⟨below_01 HM.out.low (Nat.le_refl _) _ _, .inr (.inr ⟨HVL.out, HIO.out, _, _, rfl, o1.mono (by omega), o2.mono (by omega)⟩)⟩
end Go.Proofs.YtmlecpapoeodkaaDoor
