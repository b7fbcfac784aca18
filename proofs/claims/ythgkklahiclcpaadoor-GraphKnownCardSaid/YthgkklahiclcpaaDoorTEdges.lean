/- Walk: the program's Edges. -/
import Derived.Test.YthgkklahiclcpaaDoorTCheck
import Derived.Test.YthgkklahiclcpaaDoorSForP
namespace Go.Proofs.YthgkklahiclcpaaDoor
open Go.RowKit
attribute [local go_sem ↓] run_eqlS run_neqS run_eqlS0 run_neqS0

/-- The variables of a clause. -/
def allC (c : List Int) : VS := c.foldl (fun s l => withV s (litV l)) 0
theorem allC_snoc (c : List Int) (l : Int) : allC (c ++ [l]) = withV (allC c) (litV l) := by unfold allC; rw [List.foldl_append]; rfl
theorem has_allC : ∀ (c : List Int) (u : Int), has (allC c) u = true ↔ 1 ≤ u ∧ ∃ l ∈ c, litV l = u := by
  intro c u
  have key : ∀ (c : List Int) (s : VS), has (c.foldl (fun s l => withV s (litV l)) s) u = true ↔ has s u = true ∨ (1 ≤ u ∧ ∃ l ∈ c, litV l = u) := by
    intro c
    induction c with
    | nil => intro s; simp
    | cons l c ih =>
      intro s
      rw [List.foldl_cons, ih]
      have hr := litV_range l
      rw [has_withV]
      simp only [Bool.or_eq_true, Bool.and_eq_true, decide_eq_true_eq, List.mem_cons, exists_eq_or_imp]
      constructor
      · rintro (h | h)
        · rcases h with h | h
          · exact .inl h
          · right; refine ⟨by omega, .inl (by omega)⟩
        · exact .inr ⟨h.1, .inr h.2⟩
      · rintro (h | ⟨h1, h | h⟩)
        · exact .inl (.inl h)
        · left; right; omega
        · exact .inr ⟨h1, h⟩
  rw [show allC c = c.foldl (fun s l => withV s (litV l)) 0 from rfl, key, has_zero]; simp
/-- Two variables are in one clause. -/
def RE (L : List (List Int)) (u x : Int) : Prop := u ≠ x ∧ ∃ c ∈ L, has (allC c) u = true ∧ has (allC c) x = true
theorem re_snoc (L : List (List Int)) (c : List Int) (u x : Int) : RE (L ++ [c]) u x ↔ RE L u x ∨ (u ≠ x ∧ has (allC c) u = true ∧ has (allC c) x = true) := by
  unfold RE
  simp only [List.mem_append, List.mem_singleton]
  constructor
  · rintro ⟨h1, d, h2 | h2, h3⟩
    · exact .inl ⟨h1, d, h2, h3⟩
    · subst h2; exact .inr ⟨h1, h3⟩
  · rintro (⟨h1, d, h2, h3⟩ | ⟨h1, h3⟩)
    · exact ⟨h1, d, .inl h2, h3⟩
    · exact ⟨h1, c, .inr rfl, h3⟩
def RI (R : Int → Int → Prop) (s : VS) (j : Nat) (u x : Int) : Prop := R u x ∨ (u ∈ (mems s).take j ∧ has s x = true ∧ x ≠ u)
theorem ri_step {R : Int → Int → Prop} {s : VS} {M : List VS} {j : Nat} (h : Says M (RI R s j)) (hj : j < (mems s).length) (vn : Nat) (hv : (mems s)[j] = (vn : Int)) (hl : vn < M.length) :
    Says (M.set vn (gOf M (vn : Int) ||| withoutV s (vn : Int))) (RI R s (j + 1)) := fun u x => by
  have hsv : has s (vn : Int) = true := hv ▸ (mem_mems _ _).1 (List.getElem_mem hj)
  rw [gOf_set M vn hl]
  unfold RI at *
  rw [List.take_succ_eq_append_getElem hj, List.mem_append, List.mem_singleton, hv]
  by_cases hu : u = (vn : Int)
  · rw [if_pos hu, has_or, Bool.or_eq_true, has_withoutV, Bool.and_eq_true, h (vn : Int) x, hu]
    simp only [ne_eq]
    constructor
    · rintro ((h1 | h1) | h1)
      · exact .inl h1
      · exact .inr ⟨.inl h1.1, h1.2⟩
      · exact .inr ⟨.inr trivial, by simpa using h1⟩
    · rintro (h1 | ⟨_, h1⟩)
      · exact .inl (.inl h1)
      · exact .inr (by simpa using h1)
  · rw [if_neg hu, h u x]
    constructor
    · rintro (h1 | h1)
      · exact .inl h1
      · exact .inr ⟨.inl h1.1, h1.2⟩
    · rintro (h1 | ⟨h1 | h1, h2⟩)
      · exact .inl h1
      · exact .inr ⟨h1, h2⟩
      · exact absurd h1 hu
def EdgPost (n : Int) (L : List (List Int)) (w : World) (e : Ending) (w' : World) : Prop :=
  Below w.heap.size w w' ∧ ((checkP n L ≠ 0 ∧ e = .returned (.tuple #[.slice none 0 0, .int .i64 (checkP n L)])) ∨
    (checkP n L = 0 ∧ ∃ g M, e = .returned (.tuple #[.slice (some ⟨g, 0, none⟩) M.length M.length, .int .i64 0]) ∧ w.heap.size ≤ g ∧ SetRow w' g M ∧ (M.length : Int) = n + 1 ∧ Says M (RE L)))
theorem lits_ok {n : Int} {L : List (List Int)} (h : checkP n L = 0) : 0 ≤ n ∧ n ≤ 128 ∧ L.length ≤ 4096 ∧ ∀ c ∈ L, c.length ≤ 128 ∧ ∀ l ∈ c, litOK n l = true := by
  unfold checkP at h
  split at h
  · omega
  · split at h
    · omega
    · refine ⟨by omega, by omega, by omega, ?_⟩
      have key : ∀ L : List (List Int), checkL n L = 0 → ∀ c ∈ L, c.length ≤ 128 ∧ ∀ l ∈ c, litOK n l = true := by
        intro L
        induction L with
        | nil => intro _ c hc; cases hc
        | cons d L ih =>
          intro hd c hc
          rw [checkL] at hd
          split at hd
          · rcases List.mem_cons.1 hc with rfl | hc
            · rename_i h0
              unfold clauseP at h0
              split at h0
              · omega
              · split at h0
                · rename_i ha; exact ⟨by omega, fun l hl => List.all_eq_true.1 ha l hl⟩
                · omega
            · exact ih hd c hc
          · rename_i h0; exact absurd hd h0
      exact key L h
theorem allC_le {n : Int} {c : List Int} (h : ∀ l ∈ c, litOK n l = true) {u : Int} (hu : has (allC c) u = true) : 1 ≤ u ∧ u ≤ n := by
  obtain ⟨h1, l, hl, e⟩ := (has_allC c u).1 hu
  have := h l hl
  unfold litOK at this
  rw [Bool.and_eq_true] at this
  have := of_decide_eq_true this.2
  omega
set_option maxRecDepth 100000 in
set_option maxHeartbeats 16000000 in
theorem Edges_c (n : Int) (u : Value) (L : List (List Int)) (w : World) (hT : TabAt w) (hI : LitsAt w u L) (hL : L.length ≤ 9223372036854775807) (hc : ∀ c ∈ L, c.length ≤ 9223372036854775807) :
    Calls Tryd.prog 31 #[.agg #[.int .i64 n, u]] w (EdgPost n L w) := by
  have hCK := fun w' (h : Below w.heap.size w w') => Check_c n u L w' (hI.below h) hL hc
  have HCK := hid hCK
  have HI := hid hI
  obtain ⟨p, cp, rfl, hdrop⟩ := id hI
  clear hdrop hI hCK hc
  have hB0 : Below w.heap.size w (w.alloc (.cells #[.int .i64 n, .slice p L.length cp] 48)) := (Below.refl _ w).alloc (Nat.le_refl _) _
  have HN0 : Hid ((w.alloc (.cells #[.int .i64 n, .slice p L.length cp] 48)).cell? ⟨w.heap.size, 0, none⟩ = some (.int .i64 n)) := by show _ = _; simp only [World.cell?, heap_alloc_new]; rfl
  have HN1 : Hid ((w.alloc (.cells #[.int .i64 n, .slice p L.length cp] 48)).cell? ⟨w.heap.size, 1, none⟩ = some (.slice p L.length cp)) := by show _ = _; simp only [World.cell?, heap_alloc_new]; rfl
  go_enter Tryd.func31, Tryd.ntmps31
  go_wp2_with fail
  refine (HCK.out _ hB0).mono ?_
  rintro e w1 ⟨rfl, hb1⟩
  have hB1 := hB0.trans (hb1.mono hB0.size)
  have hn0 := (hb1.cell (cell_lt HN0.out)).trans HN0.out
  have hn1 := (hb1.cell (cell_lt HN1.out)).trans HN1.out
  have hlw : w.heap.size < w1.heap.size := cell_lt hn0
  clear HN0 HN1 HCK hb1 hB0
  by_cases h0 : checkP n L = 0
  · have HCH := hid h0
    obtain ⟨a1, a2, a3, a4⟩ := lits_ok h0
    have HA4 := hid a4
    obtain ⟨nn, rfl⟩ : ∃ nn : Nat, n = (nn : Int) := ⟨n.toNat, by omega⟩
    have hmk := fun w' => make_sets w' (nn + 1) (by omega) ((nn : Int) + 1) ((nn : Int) + 1) rfl rfl
    rw [h0]
    clear h0 a4
    go_wp2_with fail
    go_loopw [25] (fun i wr => ∃ (k : Nat) (M : List VS), k ≤ L.length ∧ i = .int .i64 k ∧ M.length = nn + 1 ∧ SetRow wr w1.heap.size M ∧ Hid (Says M (RE (L.take k))) ∧ Below w1.heap.size w1 wr) (fun i _ => L.length - (intOf i).toNat)
    case atStart => exact ⟨0, List.replicate (nn + 1) 0, Nat.zero_le _, rfl, by simp, SetRow.made w1 _, (fun u x => by rw [says_zero (nn + 1) u x]; unfold RE; simp), (Below.refl _ _).alloc (Nat.le_refl _) _⟩
    case round =>
      obtain ⟨k, M, hk, rfl, hml, hR, HS, hB⟩ := hrel
      clear hmk
      by_cases hkl : k < L.length
      · have hBw := hB1.trans (hB.mono hB1.size)
        obtain ⟨p', c', e', hh⟩ := HI.out
        injection e' with e1 _ e2
        subst e1; subst e2
        obtain ⟨b, off, rfl, hh2⟩ := hh.resolve_left (by rintro rfl; simp at hkl)
        obtain ⟨u, hcu, hiu⟩ := hh2 k hkl
        have hcu2 := (hBw.cell (cell_lt hcu)).trans hcu
        have hiu2 := hiu.below hBw
        obtain ⟨hcl, hok⟩ := HA4.out _ (List.getElem_mem hkl)
        have HTK := hid (List.take_succ_eq_append_getElem hkl)
        have zk : (0 : Int) ≤ (k : Int) ∧ (k : Int) < (L.length : Int) := by omega
        generalize L[k] = c at *
        obtain ⟨pc, cc, rfl, hdrop⟩ := id hiu2
        have HIU := hid hiu2
        have HOK := hid hok
        have HML := hid hml
        have HR := hid hR
        have HB := hid hB
        have HBW := hid hBw
        obtain ⟨wo, hwo⟩ : ∃ wo : World, wo = wr := ⟨_, rfl⟩
        clear hdrop hh hh2 hcu hiu hiu2 hok hml hR hB hBw
        subst hwo
        go_wp2_with fail
        go_loopw [31] (fun j wq => ∃ q : Nat, q ≤ c.length ∧ j = .int .i64 q ∧ SetVar wq wo.heap.size (allC (c.take q)) ∧ Below wo.heap.size wo wq) (fun j _ => c.length - (intOf j).toNat)
        case atStart => exact ⟨0, Nat.zero_le _, rfl, by rw [List.take_zero]; exact SetVar.new wo 0 35, (Below.refl _ _).alloc (Nat.le_refl _) _⟩
        case round =>
          obtain ⟨q, hq, rfl, hs, hBq⟩ := hrel
          by_cases hql : q < c.length
          · obtain ⟨b2, o2, c2, e2, hcx⟩ := HIU.out.get hql
            injection e2 with e2 _ e3
            subst e2; subst e3
            have hcx2 := (hBq.cell (cell_lt hcx)).trans hcx
            have HAS := hid (show allC (c.take (q + 1)) = withV (allC (c.take q)) (litV c[q]) by rw [List.take_succ_eq_append_getElem hql, allC_snoc])
            have zq : (0 : Int) ≤ (q : Int) ∧ (q : Int) < (c.length : Int) := by omega
            generalize c[q] = x at *
            generalize allC (c.take q) = s at *
            obtain ⟨x0, x1, y0, y1⟩ := hs.cells
            clear hcx y0 y1
            go_wp2_with fail
            refine Go.Proofs.YthgkklahiclcpaaDoor.wp_region_L 5 3 (fun w' => w'.cell? ⟨wo.heap.size, 0, none⟩ = some (.int .u64 ((lw s).toNat : Int)) ∧ w'.cell? ⟨wo.heap.size, 1, none⟩ = some (.int .u64 ((hw s).toNat : Int))) (by kernel_rfl) rfl ⟨x0, x1⟩ (fun hS => ?_)
            refine wpAnyL_load (i := 0) (v := encS s) (by simp only [List.getElem?_toArray, List.getElem?_cons_zero] <;> rfl) (by kernel_rfl) (by kernel_rfl) (by kernel_rfl) (by exact fun _ _ _ h => h) (by decide) ⟨_, rfl, ⟨0, .data⟩, by simp, rfl, rfl⟩ (by kernel_rfl) hS (Or.inl ⟨by rfl, fun w hw => (by obtain ⟨x0, x1⟩ := hw; simp [execOp, go_sem, Act.eval, x0, x1, encS])⟩) (fun hS => ?_)
            simp only [Act.put, List.setIfInBounds_toArray, List.set_cons_zero, List.set_cons_succ]
            refine wpAnyL_pure (i := 1) (v := .int .i64 x) (by simp only [List.getElem?_toArray, List.getElem?_cons_zero, List.getElem?_cons_succ] <;> rfl) (by kernel_rfl) (by kernel_rfl) (by kernel_rfl) (by exact fun _ _ _ h => h) (by decide) hS (Or.inl ⟨by rfl, fun w _ => (by simp [execOp, go_sem, Act.eval])⟩) (fun hS => ?_)
            simp only [Act.put, List.setIfInBounds_toArray, List.set_cons_zero, List.set_cons_succ]
            refine wpAnyL_one (i := 2) (by kernel_rfl) (by simp only [List.getElem?_toArray, List.getElem?_cons_zero, List.getElem?_cons_succ] <;> rfl) (by rfl) ?_
            refine opwp_call (f := 58) (args := #[.int .i64 x]) (w' := wr.drew) (by simp [go_sem, Act.eval]) ?_
            refine (litVar_c x wr.drew).mono ?_
            rintro e w5 ⟨rfl, hb5⟩
            refine .inl ⟨_, rfl, .inr ⟨(hb5.cell (cell_lt x0)).trans x0, (hb5.cell (cell_lt x1)).trans x1⟩, ?_⟩
            simp only [Act.put, List.setIfInBounds_toArray, List.set_cons_zero, List.set_cons_succ]
            refine wpAnyL_one (i := 3) (by kernel_rfl) (by simp only [List.getElem?_toArray, List.getElem?_cons_zero, List.getElem?_cons_succ] <;> rfl) (by rfl) ?_
            refine opwp_call (f := 57) (args := #[encS s, .int .i64 (litV x)]) (w' := w5) (by simp [go_sem, Act.eval]) ?_
            refine (With_c s (litV x) w5).mono ?_
            rintro e w6 ⟨rfl, hb6⟩
            refine .inl ⟨_, rfl, .inl (by kernel_rfl), ?_⟩
            simp only [Act.put, List.setIfInBounds_toArray, List.set_cons_zero, List.set_cons_succ]
            have hb06 := ((Below.refl wr.heap.size wr).drew.trans hb5).trans (hb6.mono hb5.size)
            have hs6 := hs.below hb06 hs.lt
            obtain ⟨a0, a1', b0, b1⟩ := hs6.cells
            refine wpAnyL_one (i := 4) (by kernel_rfl) (by simp only [List.getElem?_toArray, List.getElem?_cons_zero, List.getElem?_cons_succ] <;> rfl) (by rfl) ?_
            refine opwp_skip (w' := (w6.setCell ⟨wo.heap.size, 0, none⟩ (.int .u64 ((lw (withV s (litV x))).toNat : Int))).setCell ⟨wo.heap.size, 1, none⟩ (.int .u64 ((hw (withV s (litV x))).toNat : Int))) (by simp [execOp, go_sem, Act.eval, a0, a1', b0, b1, encS]) ⟨.inl (by kernel_rfl), ?_⟩
            simp only [Act.put]
            refine wpAnyL_done (by kernel_rfl) ?_ _
            have hs7 := hs6.store (withV s (litV x))
            have hB7 := ((hBq.trans (hb06.mono hBq.size)).setCell (p := ⟨wo.heap.size, 0, none⟩) (Nat.le_refl _) (.int .u64 ((lw (withV s (litV x))).toNat : Int))).setCell (p := ⟨wo.heap.size, 1, none⟩) (Nat.le_refl _) (.int .u64 ((hw (withV s (litV x))).toNat : Int))
            rw [← HAS.out] at hs7 hB7 ⊢
            have HS7 := hid hs7
            have HB7 := hid hB7
            clear hS x0 x1 hb5 hb6 hb06 hs6 a0 a1' b0 b1 hs hBq hs7 hB7 hcx2
            go_wp2_with fail
            go_roundw
            case rel => exact ⟨q + 1, by omega, by go_num, HS7.out, HB7.out⟩
            case measure => simp [intOf]; omega
          · obtain rfl : q = c.length := by omega
            rw [List.take_length] at hs
            have HRE : Hid (∀ u x, RE (L.take (k + 1)) u x ↔ RE (L.take k) u x ∨ (u ≠ x ∧ has (allC c) u = true ∧ has (allC c) x = true)) := fun u x => by rw [HTK.out]; exact re_snoc _ _ u x
            have HLE : Hid (∀ u, has (allC c) u = true → 1 ≤ u ∧ u ≤ (nn : Int)) := fun u hu => allC_le HOK.out hu
            generalize allC c = s at *
            obtain ⟨x0, x1, y0, y1⟩ := hs.cells
            have hms := mems_length s
            have HLI := hid (List_c s wr (hT.below hT.lt (HBW.out.trans (hBq.mono HBW.out.size))))
            clear y0 y1
            go_wp2_with fail
            refine HLI.out.mono ?_
            rintro e w3 ⟨v3, rfl, hn3, hb3⟩
            have hs3 := hs.below hb3 hs.lt
            have hsz13 := HB.out.size
            have hrl := HR.out.lt
            have hR3 := (HR.out.below hBq HR.out.lt).below hb3 (Nat.lt_of_lt_of_le HR.out.lt hBq.size)
            have hB3 := hBq.trans (hb3.mono hBq.size)
            obtain ⟨pm, cm, e4, hm⟩ := hn3.ints
            subst e4
            have HFAR := hid (show ∀ b n c', Value.slice pm (mems s).length cm = .slice (some b) n c' → b.block ≠ w1.heap.size from fun b n c' e => by
              have h1 := (World.ownsRow.lt hn3.1 b.block (by rw [e]; rfl)).1
              have h2 := hBq.size
              omega)
            have HM := hid hm
            have HS3 := hid hs3
            have HB3 := hid hB3
            clear x0 x1 hs hs3 hn3 hb3 hBq hm hB3 HLI
            go_wp2_with fail
            go_loopw [43] (fun j wq => ∃ (q : Nat) (N : List VS), q ≤ (mems s).length ∧ j = .int .i64 q ∧ N.length = nn + 1 ∧ SetRow wq w1.heap.size N ∧ Hid (Says N (RI (RE (L.take k)) s q)) ∧ w3.grownBy wq (some w1.heap.size)) (fun j _ => (mems s).length - (intOf j).toNat)
            case atStart => exact ⟨0, M, Nat.zero_le _, rfl, HML.out, hR3, (fun u x => by rw [HS.out u x]; unfold RI; simp), World.grownBy.refl _ _⟩
            case round =>
              clear hR3
              obtain ⟨q, N, hq, rfl, hnl, hR, HSN, hg⟩ := hrel
              by_cases hql : q < (mems s).length
              · obtain ⟨bm, om, rfl, hm⟩ := HM.out.resolve_left (by intro e; rw [e] at hql; simp at hql)
                have hcq := hm q hql
                rw [List.getElem?_eq_getElem hql, Option.getD_some] at hcq
                have hcq2 := (World.cell?_of_block (w := w3) (hg.block bm (cell_lt hcq) (by simpa using HFAR.out _ _ _ rfl))).trans hcq
                have hmem : has s (mems s)[q] = true := (mem_mems _ _).1 (List.getElem_mem hql)
                have hrg := HLE.out _ hmem
                obtain ⟨vn, hvn⟩ : ∃ vn : Nat, (mems s)[q] = (vn : Int) := ⟨((mems s)[q]).toNat, by omega⟩
                have hvl : vn < N.length := by omega
                have HST := hid (ri_step HSN.out hql vn hvn hvl)
                have HQL := hid hql
                rw [hvn] at hcq2 hrg
                have zq : (0 : Int) ≤ (q : Int) ∧ (q : Int) < ((mems s).length : Int) := by omega
                have zu : (0 : Int) ≤ (vn : Int) ∧ (vn : Int) < (nn : Int) + 1 := by omega
                have hsr : SetVar wr wo.heap.size s := by
                  obtain ⟨T, hT'⟩ := HS3.out
                  exact ⟨T, (hg.block wo.heap.size HS3.out.lt (by intro e; injection e with e; omega)).trans hT'⟩
                obtain ⟨x0, x1, y0, y1⟩ := hsr.cells
                obtain ⟨t, ht, r0, r1, f0, f1⟩ := hR.get vn hvl
                have HTT := hid ht
                clear hm hcq hmem hvn y0 y1 f0 f1 ht
                go_wp2_with fail
                refine Go.Proofs.YthgkklahiclcpaaDoor.wp_region_L 12 9 (fun w' => (w'.cell? ⟨w1.heap.size, vn * 2, none⟩ = some (.int .u64 ((lw t).toNat : Int)) ∧ w'.cell? ⟨w1.heap.size, vn * 2 + 1, none⟩ = some (.int .u64 ((hw t).toNat : Int))) ∧ w'.cell? ⟨wo.heap.size, 0, none⟩ = some (.int .u64 ((lw s).toNat : Int)) ∧ w'.cell? ⟨wo.heap.size, 1, none⟩ = some (.int .u64 ((hw s).toNat : Int))) (by kernel_rfl) rfl ⟨⟨r0, r1⟩, x0, x1⟩ (fun hS => ?_)
                refine wpAnyL_pure (i := 0) (v := .slice (some ⟨w1.heap.size, 0, none⟩) (nn + 1) (nn + 1)) (by simp only [List.getElem?_toArray, List.getElem?_cons_zero] <;> rfl) (by kernel_rfl) (by kernel_rfl) (by kernel_rfl) (by exact fun _ _ _ h => h) (by decide) hS (Or.inl ⟨by rfl, fun w _ => (by simp [execOp, go_sem, Act.eval])⟩) (fun hS => ?_)
                simp only [Act.put, List.setIfInBounds_toArray, List.set_cons_zero, List.set_cons_succ]
                refine wpAnyL_pure (i := 1) (v := .int .i64 (vn : Int)) (by simp only [List.getElem?_toArray, List.getElem?_cons_zero, List.getElem?_cons_succ] <;> rfl) (by kernel_rfl) (by kernel_rfl) (by kernel_rfl) (by exact fun _ _ _ h => h) (by decide) hS (Or.inl ⟨by rfl, fun w _ => (by simp [execOp, go_sem, Act.eval])⟩) (fun hS => ?_)
                simp only [Act.put, List.setIfInBounds_toArray, List.set_cons_zero, List.set_cons_succ]
                refine wpAnyL_pure (i := 2) (v := .slice (some ⟨w1.heap.size, 0, none⟩) (nn + 1) (nn + 1)) (by simp only [List.getElem?_toArray, List.getElem?_cons_zero, List.getElem?_cons_succ] <;> rfl) (by kernel_rfl) (by kernel_rfl) (by kernel_rfl) (by exact fun _ _ _ h => h) (by decide) hS (Or.inl ⟨by rfl, fun w _ => (by simp [execOp, go_sem, Act.eval])⟩) (fun hS => ?_)
                simp only [Act.put, List.setIfInBounds_toArray, List.set_cons_zero, List.set_cons_succ]
                refine wpAnyL_pure (i := 3) (v := .int .i64 (vn : Int)) (by simp only [List.getElem?_toArray, List.getElem?_cons_zero, List.getElem?_cons_succ] <;> rfl) (by kernel_rfl) (by kernel_rfl) (by kernel_rfl) (by exact fun _ _ _ h => h) (by decide) hS (Or.inl ⟨by rfl, fun w _ => (by simp [execOp, go_sem, Act.eval])⟩) (fun hS => ?_)
                simp only [Act.put, List.setIfInBounds_toArray, List.set_cons_zero, List.set_cons_succ]
                refine wpAnyL_pure (i := 4) (v := .pointer (some ⟨w1.heap.size, vn * 2, none⟩)) (by simp only [List.getElem?_toArray, List.getElem?_cons_zero, List.getElem?_cons_succ] <;> rfl) (by kernel_rfl) (by kernel_rfl) (by kernel_rfl) (by exact fun _ _ _ h => h) (by decide) hS (Or.inl ⟨by rfl, fun w _ => (by simp [execOp, go_sem, Act.eval, zu])⟩) (fun hS => ?_)
                simp only [Act.put, List.setIfInBounds_toArray, List.set_cons_zero, List.set_cons_succ]
                refine wpAnyL_load (i := 5) (v := encS t) (by simp only [List.getElem?_toArray, List.getElem?_cons_zero, List.getElem?_cons_succ] <;> rfl) (by kernel_rfl) (by kernel_rfl) (by kernel_rfl) (by exact fun _ _ _ h => h) (by decide) ⟨_, rfl, ⟨5, .data⟩, by simp, rfl, rfl⟩ (by kernel_rfl) hS (Or.inl ⟨by rfl, fun w hw => (by obtain ⟨⟨x0, x1⟩, x2, x3⟩ := hw; simp [execOp, go_sem, Act.eval, x0, x1, encS])⟩) (fun hS => ?_)
                simp only [Act.put, List.setIfInBounds_toArray, List.set_cons_zero, List.set_cons_succ]
                refine wpAnyL_load2 (i := 6) (v := encS s) (by simp only [List.getElem?_toArray, List.getElem?_cons_zero, List.getElem?_cons_succ] <;> rfl) (by kernel_rfl) (by kernel_rfl) (by kernel_rfl) (by exact fun _ _ _ h => h) (by decide) (.more (o := _) rfl ⟨⟨8, .data⟩, by simp, rfl, rfl⟩ (.one rfl ⟨⟨6, .data⟩, by simp, rfl, rfl⟩)) (by kernel_rfl) (by kernel_rfl) hS (Or.inl ⟨by rfl, fun w hw => (by obtain ⟨⟨x0, x1⟩, x2, x3⟩ := hw; simp [execOp, go_sem, Act.eval, x2, x3, encS])⟩) (fun hS => ?_)
                simp only [Act.put, List.setIfInBounds_toArray, List.set_cons_zero, List.set_cons_succ]
                refine wpAnyL_pure (i := 7) (v := .int .i64 (vn : Int)) (by simp only [List.getElem?_toArray, List.getElem?_cons_zero, List.getElem?_cons_succ] <;> rfl) (by kernel_rfl) (by kernel_rfl) (by kernel_rfl) (by exact fun _ _ _ h => h) (by decide) hS (Or.inl ⟨by rfl, fun w _ => (by simp [execOp, go_sem, Act.eval])⟩) (fun hS => ?_)
                simp only [Act.put, List.setIfInBounds_toArray, List.set_cons_zero, List.set_cons_succ]
                refine wpAnyL_one (i := 8) (by kernel_rfl) (by simp only [List.getElem?_toArray, List.getElem?_cons_zero, List.getElem?_cons_succ] <;> rfl) (by rfl) ?_
                refine opwp_call (f := 60) (args := #[encS s, .int .i64 (vn : Int)]) (w' := wr.drew) (by simp [go_sem, Act.eval]) ?_
                refine (Without_c s (vn : Int) wr.drew).mono ?_
                rintro e w5 ⟨rfl, hb5⟩
                refine .inl ⟨_, rfl, .inr ⟨⟨(hb5.cell (cell_lt r0)).trans r0, (hb5.cell (cell_lt r1)).trans r1⟩, (hb5.cell (cell_lt x0)).trans x0, (hb5.cell (cell_lt x1)).trans x1⟩, ?_⟩
                simp only [Act.put, List.setIfInBounds_toArray, List.set_cons_zero, List.set_cons_succ]
                refine wpAnyL_one (i := 9) (by kernel_rfl) (by simp only [List.getElem?_toArray, List.getElem?_cons_zero, List.getElem?_cons_succ] <;> rfl) (by rfl) ?_
                refine opwp_call (f := 59) (args := #[encS t, encS (withoutV s (vn : Int))]) (w' := w5) (by simp [go_sem, Act.eval]) ?_
                refine (Union_c t (withoutV s (vn : Int)) w5).mono ?_
                rintro e w6 ⟨rfl, hb6⟩
                refine .inl ⟨_, rfl, .inl (by kernel_rfl), ?_⟩
                simp only [Act.put, List.setIfInBounds_toArray, List.set_cons_zero, List.set_cons_succ]
                refine wpAnyL_one (i := 10) (by kernel_rfl) (by simp only [List.getElem?_toArray, List.getElem?_cons_zero, List.getElem?_cons_succ] <;> rfl) (by rfl) ?_
                refine opwp_value (v := .pointer (some ⟨w1.heap.size, vn * 2, none⟩)) (w' := w6) (by simp [execOp, go_sem, Act.eval, zu]) ⟨.inl (by kernel_rfl), ?_⟩
                simp only [Act.put, List.setIfInBounds_toArray, List.set_cons_zero, List.set_cons_succ]
                have hb06 := ((Below.refl wr.heap.size wr).drew.trans hb5).trans (hb6.mono hb5.size)
                have hR6 := hR.below hb06 hR.lt
                obtain ⟨t6, ht6, a0, a1', b0, b1⟩ := hR6.get vn hvl
                refine wpAnyL_one (i := 11) (by kernel_rfl) (by simp only [List.getElem?_toArray, List.getElem?_cons_zero, List.getElem?_cons_succ] <;> rfl) (by rfl) ?_
                refine opwp_skip (w' := (w6.setCell ⟨w1.heap.size, vn * 2, none⟩ (.int .u64 ((lw (t ||| withoutV s (vn : Int))).toNat : Int))).setCell ⟨w1.heap.size, vn * 2 + 1, none⟩ (.int .u64 ((hw (t ||| withoutV s (vn : Int))).toNat : Int))) (by simp [execOp, go_sem, Act.eval, a0, a1', b0, b1, encS]) ⟨.inl (by kernel_rfl), ?_⟩
                simp only [Act.put]
                refine wpAnyL_done (by kernel_rfl) ?_ _
                obtain rfl : t = t6 := HTT.out.symm.trans ht6
                have hR7 := hR6.store vn hvl (t ||| withoutV s (vn : Int))
                have hg7 := grownBy_then (grownBy_then hg (grownBy_of_below' hb06 (some w1.heap.size))) (grownBy_set2 w6 w1.heap.size (vn * 2) (vn * 2 + 1) (.int .u64 ((lw (t ||| withoutV s (vn : Int))).toNat : Int)) (.int .u64 ((hw (t ||| withoutV s (vn : Int))).toNat : Int)))
                have hst := HST.out
                rw [HTT.out] at hst
                have HR7 := hid hR7
                have HG7 := hid hg7
                have HST7 := hid hst
                clear hS x0 x1 r0 r1 hb5 hb6 hb06 hR6 a0 a1' b0 b1 hR hg hR7 hg7 hst hcq2 hsr ht6
                go_wp2_with fail
                go_roundw
                case rel => exact ⟨q + 1, _, by have := HQL.out; omega, by go_num, by simpa using hnl, HR7.out, HST7.out, HG7.out⟩
                case measure => simp [intOf]; have := HQL.out; omega
              · obtain rfl : q = (mems s).length := by omega
                have hfin : Hid (Says N (RE (L.take (k + 1)))) := fun u x => by
                  rw [HSN.out u x, HRE.out u x]
                  unfold RI
                  rw [List.take_length, mem_mems]
                  constructor
                  · rintro (h1 | ⟨h1, h2, h3⟩)
                    · exact .inl h1
                    · exact .inr ⟨fun e => h3 e.symm, h1, h2⟩
                  · rintro (h1 | ⟨h1, h2, h3⟩)
                    · exact .inl h1
                    · exact .inr ⟨h2, h3, fun e => h1 e.symm⟩
                have hB9 := (HB.out.trans (HB3.out.mono HB.out.size)).grown hg (by exact (HB.out.trans (HB3.out.mono HB.out.size)).size) (fun j e => by cases e; exact Nat.le_refl _)
                have HB9 := hid hB9
                clear hg hB9 HSN
                go_wp2_with fail
                go_roundw
                case rel => exact ⟨k + 1, N, by omega, by go_num, hnl, hR, hfin.out, HB9.out⟩
                case measure => simp [intOf]; omega
      · obtain rfl : k = L.length := by omega
        have HS' := HS.out
        rw [List.take_length] at HS'
        have HSF := hid HS'
        have HB9 := hid (hB1.trans (hB.mono hB1.size))
        have HML := hid hml
        have hle := hB1.size
        clear HS' hB hml HS
        go_wp2_with fail
        go_ret2
        exact ⟨HB9.out, .inr ⟨HCH.out, w1.heap.size, M, by rw [HML.out]; rfl, hle, hR, by rw [HML.out]; rfl, HSF.out⟩⟩
  · have hne : (checkP n L != 0) = true := by simpa using h0
    have HNE := hid h0
    clear h0
    generalize hy : checkP n L = y at *
    have HY := hid hy
    clear hy
    go_wp2_with fail
    go_ret2
    exact ⟨hB1, .inl ⟨by rw [HY.out]; exact HNE.out, by rw [HY.out]; rfl⟩⟩
end Go.Proofs.YthgkklahiclcpaaDoor
