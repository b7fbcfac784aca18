/- The walk of the law GraphWide. -/
import Derived.Test.YthgkklahiclcpaaDoorSForP
import Derived.Test.YthgkklahiclcpaaDoorSMoreP2
import Derived.Test.YthgkklahiclcpaaDoorSLink
namespace Go.Proofs.YthgkklahiclcpaaDoor
open Go.RowKit
def RW (d : Int → Int) (k : Nat) (u x : Int) : Prop := 1 ≤ u ∧ u ≤ (k : Int) ∧ 1 ≤ x ∧ x ≤ (k : Int) ∧ (u = x + 1 ∨ x = u + 1 ∨ (x = 1 ∧ u ≠ 1 ∧ d u = 0) ∨ (u = 1 ∧ x ≠ 1 ∧ d x = 0))
theorem rw_no {d : Int → Int} {k : Nat} (hk : 1 ≤ k) (hd : d ((k : Int) + 1) ≠ 0) (u x : Int) : RW d (k + 1) u x ↔ RW d k u x ∨ (u = (k : Int) + 1 ∧ x = (k : Int)) ∨ (u = (k : Int) ∧ x = (k : Int) + 1) := by
  unfold RW
  by_cases hu : u = (k : Int) + 1
  · subst hu
    by_cases hx : x = (k : Int) + 1
    · subst hx; push_cast; omega
    · push_cast; omega
  · by_cases hx : x = (k : Int) + 1
    · subst hx; push_cast; omega
    · push_cast; omega
theorem rw_yes {d : Int → Int} {k : Nat} (hk : 1 ≤ k) (hd : d ((k : Int) + 1) = 0) (u x : Int) : RW d (k + 1) u x ↔ (RW d k u x ∨ (u = (k : Int) + 1 ∧ x = (k : Int)) ∨ (u = (k : Int) ∧ x = (k : Int) + 1)) ∨ (u = (k : Int) + 1 ∧ x = 1) ∨ (u = 1 ∧ x = (k : Int) + 1) := by
  unfold RW
  by_cases hu : u = (k : Int) + 1
  · subst hu
    by_cases hx : x = (k : Int) + 1
    · subst hx; push_cast; omega
    · push_cast; omega
  · by_cases hx : x = (k : Int) + 1
    · subst hx; push_cast; omega
    · push_cast; omega
structure WiIn (m : Nat) (d : Int → Int) (k : Nat) (M : List VS) : Prop where
  len : M.length = m + 1
  says : m ≤ 128 → Says M (RW d k)
theorem WiIn.start (m : Nat) (d : Int → Int) : WiIn m d 1 (List.replicate (m + 1) 0) :=
  ⟨by simp, fun _ u x => by rw [says_zero (m + 1) u x]; unfold RW; constructor; · intro h; exact h.elim
                            · intro h; omega⟩
theorem WiIn.no {m : Nat} {d : Int → Int} {k : Nat} {M : List VS} (h : WiIn m d k M) (hk : 1 ≤ k) (hkm : k + 1 ≤ m) (hd : d ((k : Int) + 1) ≠ 0) : WiIn m d (k + 1) (linkG M ((k : Int) + 1) (k : Int)) := by
  have hl := h.len
  exact ⟨by rw [linkG_length]; exact hl, fun hm u x => by
    rw [(h.says hm).link (a := (k : Int) + 1) (b := (k : Int)) (by omega) (by omega) (by omega) (by omega) (by omega) u x, rw_no hk hd u x]⟩
theorem WiIn.yes {m : Nat} {d : Int → Int} {k : Nat} {M : List VS} (h : WiIn m d k M) (hk : 1 ≤ k) (hkm : k + 1 ≤ m) (hd : d ((k : Int) + 1) = 0) : WiIn m d (k + 1) (linkG (linkG M ((k : Int) + 1) (k : Int)) ((k : Int) + 1) 1) := by
  have hl := h.len
  exact ⟨by rw [linkG_length, linkG_length]; exact hl, fun hm u x => by
    have h1 := (h.says hm).link (a := (k : Int) + 1) (b := (k : Int)) (by omega) (by omega) (by omega) (by omega) (by omega)
    have hl2 : (linkG M ((k : Int) + 1) (k : Int)).length = m + 1 := by rw [linkG_length]; exact hl
    rw [h1.link (a := (k : Int) + 1) (b := 1) (by omega) (by omega) (by omega) (by omega) (by omega) u x, rw_yes hk hd u x]⟩
theorem len_two {s : VS} {a b : Int} (ha : has s a = true) (hb : has s b = true) (hne : a ≠ b) : 2 ≤ len s := by
  rcases Int.lt_or_le (len s) 2 with h | h
  · exact absurd (len_one (by omega) ha hb) hne
  · exact h
theorem len_one_one (p : Int) : len (one p) ≤ 1 := by
  have e := len_with_le 0 p
  rw [len_zero] at e
  have e2 : withV 0 p = one p := by
    apply ext_has; intro u _ _; rw [has_withV, has_zero, has_one]; simp
  rw [e2] at e
  split at e <;> omega
theorem len_le_two {s : VS} {p q : Int} (h : ∀ x, has s x = true → x = p ∨ x = q) : len s ≤ 2 := by
  have hm := len_mono (a := s) (b := one p ||| one q) (fun v hv => by
    have hr := has_range hv
    rw [has_or, has_one, has_one]
    rcases h v hv with e | e <;> subst e <;> simp [hr.1, hr.2])
  have := len_or_le (one p) (one q)
  have := len_one_one p
  have := len_one_one q
  omega
/-- Where only the first vertex has far neighbours, the descending order is two wide at most. -/
theorem fan_width : ∀ (n : Nat) (g : Gr), SymG g → (∀ u x, has (g u) x = true → x ≤ (n : Int) ∧ (u = x + 1 ∨ x = u + 1 ∨ x = 1 ∨ u = 1)) → widthF g (desc n) ≤ 2
  | 0, _, _, _ => by simp [desc, widthF]
  | n + 1, g, hg, h => by
    unfold desc
    simp only [widthF]
    have hd : ∀ x, has (g ((n : Int) + 1)) x = true → x = (n : Int) ∨ x = 1 := fun x hx => by
      have h1 := h _ _ hx
      have h2 := hg.ne hx
      have h3 := (has_range hx).1
      push_cast at h1; omega
    have h1 := len_le_two hd
    have h2 := fan_width n (el g ((n : Int) + 1)) (el_sym hg _) (fun u x hx => by
      obtain ⟨e1, e2, e3⟩ := (has_el hg _ _ _).1 hx
      rcases e3 with e3 | ⟨e3, e4, e5⟩
      · have := h _ _ e3; push_cast at this; omega
      · have a1 := hd _ e3
        have a2 := hd _ e4
        have a3 := (has_range e4).1
        have a4 := h _ _ e4
        push_cast at a4; omega)
    omega
theorem desc_nodup : ∀ n, (desc n).Nodup
  | 0 => by simp [desc]
  | n + 1 => by
    unfold desc
    refine List.nodup_cons.2 ⟨fun h => ?_, desc_nodup n⟩
    have := (mem_desc _ _).1 h; omega
theorem wide_valid {m : Nat} {d : Int → Int} {M : List VS} (hl : M.length = m + 1) (hm : m ≤ 128) (hS : Says M (RW d m)) : ValidG M :=
  says_valid hS (by omega) (by omega) (fun v h => by unfold RW at h; omega) (fun u x h => by unfold RW at *; omega) (fun u x h => by unfold RW at h; omega)
theorem wide_path {m : Nat} {d : Int → Int} {M : List VS} (hl : M.length = m + 1) (hm : m ≤ 128) (hS : Says M (RW d m)) (hd : ∀ x : Int, 1 ≤ x → x ≤ (m : Int) → d x = 0 → x = 2) :
    widthP M (desc m) = min 1 (max 0 ((m : Int) - 1)) ∧ widthP M (orderP degC M) = min 1 (max 0 ((m : Int) - 1)) ∧ widthP M (orderP fillC M) = min 1 (max 0 ((m : Int) - 1)) := by
  have hV := wide_valid hl hm hS
  have hF : Fo (gOf M) (M.length - 1) (fun u => u - 1) := ⟨hV.sym, fun u x e => by have := (hV.range e).2; omega, fun u x e hlt => by
    have h := (hS _ _).1 e
    unfold RW at h
    show x = u - 1
    by_cases hu : d u = 0
    · have := hd u (by omega) (by omega) hu; omega
    · omega⟩
  obtain ⟨h1, h2⟩ := forest_widths hV hF
  have h3 : widthF (gOf M) (desc (M.length - 1)) = min 1 (max 0 ((m : Int) - 1)) := by
    by_cases h2 : 2 ≤ m
    · have a1 := hF.perf.2
      have a2 := edge_width hV.sym (u := 2) (x := 1) ((hS _ _).2 (by unfold RW; omega)) (l := desc (M.length - 1)) ((mem_desc _ _).2 (by omega))
      omega
    · have := no_edge_width (desc (M.length - 1)) (gOf M) hV.sym (fun v => zero_of_none fun x => by
        cases e : has (gOf M v) x with
        | false => rfl
        | true => have h := (hS _ _).1 e; unfold RW at h; omega)
      omega
  have h4 : widthP M (desc m) = widthF (gOf M) (desc (M.length - 1)) := by
    rw [show m = M.length - 1 by omega]
    exact widthP_ord hV (desc_ord _)
  exact ⟨h4.trans h3, h2.trans h3, h1.trans h3⟩
theorem wide_cycle {m : Nat} {d : Int → Int} {M : List VS} (hl : M.length = m + 1) (hm : m ≤ 128) (hS : Says M (RW d m)) (q : Int) (h3 : 3 ≤ q) (hq : q ≤ (m : Int)) (hd : d q = 0) :
    widthP M (desc m) = 2 ∧ widthP M (orderP degC M) = 2 ∧ 2 ≤ widthP M (orderP fillC M) := by
  have hV := wide_valid hl hm hS
  have hlow : ∀ l : List Int, IsOrd l (M.length - 1) → 2 ≤ widthF (gOf M) l := fun l hlo => by
    refine core_width (d := 2) (c := allV q) l (gOf M) hV.sym (fun v hv => ?_) ⟨1, by rw [has_allV]; simp; omega, (hlo.mem 1).2 (by omega)⟩
    rw [has_allV, Bool.and_eq_true, Bool.and_eq_true] at hv
    have v1 := of_decide_eq_true hv.1.1
    have v2 := of_decide_eq_true hv.1.2
    have hin : ∀ x : Int, 1 ≤ x → x ≤ q → RW d m v x → has (gOf M v &&& allV q) x = true := fun x x1 x2 hr => by
      rw [has_and, (hS _ _).2 hr, has_allV]; simp; omega
    by_cases e1 : v = 1
    · subst e1
      exact len_two (hin 2 (by omega) (by omega) (by unfold RW; omega)) (hin q (by omega) (by omega) (by unfold RW; omega)) (by omega)
    · by_cases e2 : v = q
      · subst e2
        exact len_two (hin (v - 1) (by omega) (by omega) (by unfold RW; omega)) (hin 1 (by omega) (by omega) (by unfold RW; omega)) (by omega)
      · exact len_two (hin (v - 1) (by omega) (by omega) (by unfold RW; omega)) (hin (v + 1) (by omega) (by omega) (by unfold RW; omega)) (by omega)
  have hdesc := desc_ord (M.length - 1)
  have hfan : widthF (gOf M) (desc (M.length - 1)) ≤ 2 := fan_width _ _ hV.sym (fun u x e => by
    have h := (hS _ _).1 e
    unfold RW at h; omega)
  have h4 : widthP M (desc m) = widthF (gOf M) (desc (M.length - 1)) := by
    rw [show m = M.length - 1 by omega]
    exact widthP_ord hV (desc_ord _)
  have h5 := hlow _ hdesc
  have h6 := hlow _ (orderP_ord (cost := degC) hV)
  have h7 := hlow _ (orderP_ord (cost := fillC) hV)
  have hle := hV.le
  have h8 : widthF (gOf M) (orderP degC M) ≤ 2 := by
    rw [orderP_yes (validG_yes hV)]
    exact minDeg_two _ _ _ hV.sym (by rw [len_allL hV]; omega) (gOf_dead hV) _ (desc_nodup (M.length - 1)) (ord_all hV hdesc) hfan
  rw [h4, widthP_ord hV (orderP_ord hV), widthP_ord hV (orderP_ord hV)]
  omega
attribute [local go_sem ↓] run_eqlS run_neqS run_eqlS0 run_neqS0

theorem make_ints (w : World) (n : Nat) (hn : n ≤ 1000) (x y : Int) (hx : x = (n : Int)) (hy : y = (n : Int)) :
    (Instr.makeSlice 25 (.int .i64 x) (.int .i64 y)).run Tryd.prog w = .ok (.slice (some ⟨w.heap.size, 0, none⟩) n n) (w.alloc (.cells (madeCells #[.int .i64 0] n) 3)) := by
  subst hx; subst hy
  obtain ⟨i0, hi, hz0, hz1, hz2⟩ := info_parts info_int
  have := run_makeSlice (P := Tryd.prog) w 25 3 i0 (.int .i64 0) Tryd.underlying25 hi hz0 .i64 .i64 (n : Int) (n : Int) (by omega) (Int.le_refl _) (by rw [hz1, Int.toNat_natCast]; omega) (by rw [hz2]; omega) (by omega)
  rw [hz1, Int.toNat_natCast, Nat.mul_one] at this
  exact this
/-- The first k cells of a row of m count down. -/
def DownRow (w : World) (g m k : Nat) : Prop := ∃ cur, w.heap[g]? = some (.cells cur 3 (0, 0)) ∧ cur.size = m ∧ ∀ j, j < k → cur[j]? = some (.int .i64 ((m : Int) - (j : Int)))
theorem DownRow.made (w : World) (m : Nat) : DownRow (w.alloc (.cells (madeCells #[.int .i64 0] m) 3)) w.heap.size m 0 := ⟨_, heap_alloc_new w _, by simp [size_madeCells], fun j hj => by omega⟩
theorem DownRow.facts {w : World} {g m k : Nat} (h : DownRow w g m k) (hk : k < m) : ∃ x, w.cell? ⟨g, k, none⟩ = some x ∧ w.frozen? ⟨g, k, none⟩ = false := by
  obtain ⟨cur, h1, h2, _⟩ := h
  exact ⟨cur[k]'(by omega), by simp [World.cell?, h1], by simp [World.frozen?, h1]⟩
theorem DownRow.store {w : World} {g m k : Nat} (h : DownRow w g m k) (hk : k < m) : DownRow (w.setCell ⟨g, k, none⟩ (.int .i64 ((m : Int) - (k : Int)))) g m (k + 1) := by
  obtain ⟨cur, h1, h2, h3⟩ := h
  refine ⟨cur.setIfInBounds k (.int .i64 ((m : Int) - (k : Int))), by simp [World.setCell, Array.getElem?_modify, h1], by simpa using h2, fun j hj => ?_⟩
  rw [Array.getElem?_setIfInBounds]
  by_cases e : k = j
  · subst e; rw [if_pos rfl, if_pos (by omega)]
  · rw [if_neg e]; exact h3 j (by omega)
theorem desc_get : ∀ (m j : Nat), j < m → (desc m)[j]?.getD 0 = (m : Int) - (j : Int)
  | 0, _, h => by omega
  | m + 1, 0, _ => by simp [desc]
  | m + 1, j + 1, h => by
    have := desc_get m j (by omega)
    simp only [desc, List.getElem?_cons_succ, this]; push_cast; omega
theorem DownRow.ints {w : World} {g m : Nat} (h : DownRow w g m m) : IntsAt w (.slice (some ⟨g, 0, none⟩) m m) (desc m) := by
  obtain ⟨cur, h1, h2, h3⟩ := h
  refine ⟨some ⟨g, 0, none⟩, m, by rw [desc_length], .inr ⟨g, 0, rfl, fun i hi => ?_⟩⟩
  rw [desc_length] at hi
  simp [World.cell?, h1, h3 i hi, desc_get m i hi]
set_option maxRecDepth 100000 in
set_option maxHeartbeats 16000000 in
theorem graphWide_walk (a b : Int) (w : World) (hT : TabAt w) (ha : 0 ≤ a ∧ a ≤ 255) (hb : 0 ≤ b ∧ b ≤ 255) :
    Calls Tryd.prog 5 #[.int .u8 a, .int .u8 b] w (LawPost w) := by
  have HW := hid (fun w' (h : Below w.heap.size w w') => works_c w' (hT.below hT.lt h))
  obtain ⟨an, rfl⟩ : ∃ an : Nat, a = (an : Int) := ⟨a.toNat, by omega⟩
  obtain ⟨bn, rfl⟩ : ∃ bn : Nat, b = (bn : Int) := ⟨b.toNat, by omega⟩
  obtain ⟨m, hm, hm130⟩ : ∃ m : Nat, (an : Int) % 131 = (m : Int) ∧ m ≤ 130 := ⟨an % 131, by omega, by omega⟩
  obtain ⟨r, hr, hr19⟩ : ∃ r : Nat, (bn : Int) % 20 = (r : Int) ∧ r ≤ 19 := ⟨bn % 20, by omega, by omega⟩
  obtain ⟨st, hst, hst2, hst21⟩ : ∃ st : Nat, 2 + (r : Int) = (st : Int) ∧ 2 ≤ st ∧ st ≤ 21 := ⟨2 + r, by omega, by omega, by omega⟩
  have htm1 : Int.tmod (an : Int) 131 = (m : Int) := by rw [Int.tmod_eq_emod_of_nonneg (by omega)]; exact hm
  have htm2 : Int.tmod (bn : Int) 20 = (r : Int) := by rw [Int.tmod_eq_emod_of_nonneg (by omega)]; exact hr
  have hmk := fun w' => make_sets w' (m + 1) (by omega) ((m : Int) + 1) ((m : Int) + 1) rfl rfl
  have hne : ((st : Int) == 0) = false := by simp; omega
  have hne2 : ¬ (st : Int) = 0 := by omega
  go_enter Tryd.func5, Tryd.ntmps5
  go_wp2_with fail
  go_loopw [7, 8] (fun e i wr => ∃ (k : Nat) (M : List VS), 1 ≤ k ∧ (k ≤ m ∨ k = 1) ∧ e = .slice (some ⟨w.heap.size, 0, none⟩) (m + 1) (m + 1) ∧ i = .int .i64 ((k : Int) + 1) ∧ SetRow wr w.heap.size M ∧ Hid (WiIn m (fun x => x % (st : Int)) k M) ∧ Below w.heap.size w wr) (fun _ i _ => m + 2 - (intOf i).toNat)
  case atStart => exact ⟨1, List.replicate (m + 1) 0, Nat.le_refl _, .inr rfl, rfl, rfl, SetRow.made w _, WiIn.start m _, (Below.refl _ _).alloc (Nat.le_refl _) _⟩
  case round =>
    obtain ⟨k, M, hk1, hkm, rfl, rfl, hR, HF, hB⟩ := hrel
    clear hmk htm1 htm2 hm hr hst
    by_cases hlt : (k : Int) + 1 ≤ (m : Int)
    · have hlen := HF.out.len
      have HL := hid (fun w' (h : SetRow w' w.heap.size M) => linked_c w.heap.size (m + 1) M ((k : Int) + 1) (k : Int) w' h (by omega) (by omega) (by omega))
      have HL2 := hid (fun w' (h : SetRow w' w.heap.size (linkG M ((k : Int) + 1) (k : Int))) => linked_c w.heap.size (m + 1) (linkG M ((k : Int) + 1) (k : Int)) ((k : Int) + 1) 1 w' h (by rw [linkG_length]; omega) (by rw [linkG_length]; omega) (by rw [linkG_length]; omega))
      rw [hlen] at HL
      rw [linkG_length, hlen] at HL2
      have HR := hid hR
      have hsz := hB.size
      have HBB := hid hB
      have HLEN := hid hlen
      clear hlen hR
      by_cases hd : ((k : Int) + 1) % (st : Int) = 0
      · have htm : Int.tmod ((k : Int) + 1) (st : Int) = 0 := by rw [Int.tmod_eq_emod_of_nonneg (by omega)]; exact hd
        have HF2 := hid (HF.out.yes hk1 (by omega) hd)
        go_wp2_with fail
        refine (HL.out _ (HR.out.same rfl)).mono ?_
        rintro e w2 ⟨rfl, hR2, hg2⟩
        rw [HLEN.out]
        have hB2 := HBB.out.grown hg2 (by exact hsz) (fun j e => by cases e; exact Nat.le_refl _)
        have hsz2 := hB2.size
        have HR2 := hid hR2
        clear HL hR2 HR HBB
        go_wp2_with fail
        refine (HL2.out _ (HR2.out.same rfl)).mono ?_
        rintro e w4 ⟨rfl, hR4, hg4⟩
        rw [linkG_length, HLEN.out]
        have hB4 := hB2.grown hg4 (by exact hsz2) (fun j e => by cases e; exact Nat.le_refl _)
        go_wp2_with fail
        go_roundw
        case rel => exact ⟨k + 1, _, by omega, .inl (by omega), rfl, by go_num, hR4, HF2.out, hB4⟩
        case measure => simp [intOf]; omega
      · obtain ⟨z, hz, hz0⟩ : ∃ z : Nat, ((k : Int) + 1) % (st : Int) = (z : Int) ∧ z ≠ 0 := ⟨(((k : Int) + 1) % (st : Int)).toNat, by have := Int.emod_nonneg ((k : Int) + 1) hne2; omega, by have := Int.emod_nonneg ((k : Int) + 1) hne2; omega⟩
        have htm : Int.tmod ((k : Int) + 1) (st : Int) = (z : Int) := by rw [Int.tmod_eq_emod_of_nonneg (by omega)]; exact hz
        have HF2 := hid (HF.out.no hk1 (by omega) hd)
        have hzz : ((z : Int) == 0) = false := by simp; omega
        clear hd HL2
        go_wp2_with fail
        refine (HL.out _ (HR.out.same rfl)).mono ?_
        rintro e w2 ⟨rfl, hR2, hg2⟩
        rw [HLEN.out]
        have hB2 := HBB.out.grown hg2 (by exact hsz) (fun j e => by cases e; exact Nat.le_refl _)
        clear HL HR HBB
        go_wp2_with fail
        go_roundw
        case rel => exact ⟨k + 1, _, by omega, .inl (by omega), rfl, by go_num, hR2, HF2.out, hB2⟩
        case measure => simp [intOf]; omega
    · have hlen := HF.out.len
      have HSAY : Hid (m ≤ 128 → Says M (RW (fun x => x % (st : Int)) m)) := fun h => by
        rcases hkm with e | e
        · rw [show m = k by omega]; exact HF.out.says h
        · intro u x
          rw [HF.out.says h u x]
          by_cases e2 : m = k
          · rw [e2]
          · unfold RW; subst e; have : m = 0 := by omega
            subst this; push_cast; omega
      have HLEN := hid hlen
      have HR := hid hR
      have HB := hid hB
      have hsz := hB.size
      have hmi := fun w' => make_ints w' m (by omega) (m : Int) (m : Int) rfl rfl
      clear hlen hR hB HF hkm hk1
      obtain ⟨wo, hwo⟩ : ∃ wo : World, wo = wr := ⟨_, rfl⟩
      subst hwo
      go_wp2_with fail
      go_loopw [10] (fun i wq => ∃ k : Nat, k ≤ m ∧ i = .int .i64 k ∧ DownRow wq wo.heap.size m k ∧ Below wo.heap.size wo wq) (fun i _ => m - (intOf i).toNat)
      case atStart => exact ⟨0, Nat.zero_le _, rfl, DownRow.made wo m, (Below.refl _ _).alloc (Nat.le_refl _) _⟩
      case round =>
        clear hmi
        obtain ⟨i, hi, rfl, hD, hBq⟩ := hrel
        by_cases him : (i : Int) < (m : Int)
        · obtain ⟨x, c0, f0⟩ := hD.facts (by omega)
          have HD2 := hid (hD.store (by omega))
          have hB2 := hBq.setCell (p := ⟨wo.heap.size, i, none⟩) (Nat.le_refl _) (.int .i64 ((m : Int) - (i : Int)))
          have zi : (0 : Int) ≤ (i : Int) ∧ (i : Int) < (m : Int) := by omega
          clear hD hBq
          go_wp2_with fail
          go_roundw
          case rel => exact ⟨i + 1, by omega, by go_num, HD2.out, hB2⟩
          case measure => simp [intOf]; omega
        · obtain rfl : i = m := by omega
          have hS0 := (HR.out.below hBq HR.out.lt).sets (i + 1)
          rw [HLEN.out] at hS0
          have HI := hid hD.ints
          have hBr := HB.out.trans (hBq.mono HB.out.size)
          have HS := hid hS0
          have HBQ := hid hBq
          have HM1 := hid (MinDegree_c _ M wr hS0 (hT.below hT.lt hBr) (by rw [HLEN.out]; omega))
          clear hS0 hD hBq HR HB
          go_wp2_with fail
          refine HM1.out.mono ?_
          rintro e w4 ⟨v4, rfl, hn4, hb4⟩
          have hB4 := hBr.trans (hb4.mono hBr.size)
          obtain ⟨p4, c4, rfl, hl4⟩ := id hn4.ints
          have HN4 := hid hn4.ints
          have HM2 := hid (MinFill_c _ M w4 (HS.out.below hb4) (hT.below hT.lt hB4) (by rw [HLEN.out]; omega))
          have HO1 := hid (orderP_length degC M)
          have HO2 := hid (orderP_length fillC M)
          clear hl4 hn4 HM1
          go_wp2_with fail
          refine HM2.out.mono ?_
          rintro e w5 ⟨v5, rfl, hn5, hb5⟩
          have hB5 := hB4.trans (hb5.mono hB4.size)
          have hb45 := hb4.trans (hb5.mono hb4.size)
          obtain ⟨p5, c5, rfl, hl5⟩ := id hn5.ints
          have HWO := hid (Width_c _ _ M (desc i) w5 (HS.out.below hb45) (HI.out.below hb45) (hT.below hT.lt hB5) (by rw [HLEN.out]; omega) (by rw [desc_length]; omega))
          have HWD := hid (fun w' (h : Below w5.heap.size w5 w') => Width_c _ _ M _ w' ((HS.out.below hb45).below h) ((HN4.out.below hb5).below h) (hT.below hT.lt (hB5.trans (h.mono hB5.size))) (by rw [HLEN.out]; omega) (by have := HO1.out; omega))
          have hi5 := hn5.ints
          have HWF := hid (fun w' (h : Below w5.heap.size w5 w') => Width_c _ _ M _ w' ((HS.out.below hb45).below h) (hi5.below h) (hT.below hT.lt (hB5.trans (h.mono hB5.size))) (by rw [HLEN.out]; omega) (by have := HO2.out; omega))
          have hml := HLEN.out
          clear hl5 hn5 hi5 HM2 hb4 hb5 hb45 hB4 hBr
          by_cases h128 : 128 < i
          · have hv : validG M = false := validG_no (fun h => by have := h.le; omega)
            have e0 : widthP M (desc i) = -1 := widthP_no1 hv
            have e1 : (orderP degC M).length = 0 := by rw [orderP_no hv]; rfl
            have e2 : (orderP fillC M).length = 0 := by rw [orderP_no hv]; rfl
            rw [e0] at HWO
            clear hml hv e0 HWD HWF
            go_wp2_with fail
            refine HWO.out.mono ?_
            rintro e w6 ⟨rfl, hb6⟩
            have hB6 := hB5.trans (hb6.mono hB5.size)
            go_wp2_with fail
            refine (HW.out w6 hB6).mono ?_
            rintro e w7 ⟨rfl, hb7⟩
            have hB7 := hB6.trans (hb7.mono hB6.size)
            go_wp2_with fail
            go_ret
            exact ⟨rfl, hB7⟩
          · have hS := HSAY.out (by omega)
            by_cases hs2 : st = 2
            · subst hs2
              by_cases h4 : (4 : Int) ≤ (i : Int)
              · obtain ⟨e0, e1, e2⟩ := wide_cycle hml (by omega) hS 4 (by omega) (by omega) (by decide)
                have HE2 := hid e2
                have HE1 := hid e1
                rw [e0] at HWO
                clear e0 e1 e2 hS
                have hx2 : 2 ≤ widthP M (orderP fillC M) := by have := HE2.out; omega
                generalize hg2 : widthP M (orderP fillC M) = X2 at HWF hx2
                have HML := hid hml
                clear hml hg2
                go_wp2_with fail
                refine HWO.out.mono ?_
                rintro e w6 ⟨rfl, hb6⟩
                have hB6 := hB5.trans (hb6.mono hB5.size)
                have HD6 := hid (HWD.out w6 hb6)
                rw [HE1.out] at HD6
                clear HWO HWD
                go_wp2_with fail
                refine HD6.out.mono ?_
                rintro e w7 ⟨rfl, hb7⟩
                have hb67 := hb6.trans (hb7.mono hb6.size)
                have hB7 := hB5.trans (hb67.mono hB5.size)
                have HF7 := hid (HWF.out w7 hb67)
                clear HWF HD6
                go_wp2_with fail
                refine HF7.out.mono ?_
                rintro e w8 ⟨rfl, hb8⟩
                have hB8 := hB7.trans (hb8.mono hB7.size)
                go_wp2_with fail
                refine (HW.out w8 hB8).mono ?_
                rintro e w9 ⟨rfl, hb9⟩
                have hB9 := hB8.trans (hb9.mono hB8.size)
                go_wp2_with fail
                go_ret
                exact ⟨rfl, hB9⟩
              · have hp := wide_path hml (by omega) hS (fun x x1 x2 hx => by have hx : x % 2 = 0 := hx; omega)
                by_cases h2 : (2 : Int) ≤ (i : Int)
                · rw [show min 1 (max 0 ((i : Int) - 1)) = (1 : Int) by omega] at hp
                  obtain ⟨e0, e1, e2⟩ := hp
                  have HE2 := hid e2
                  have HE1 := hid e1
                  rw [e0] at HWO
                  clear e0 e1 e2 hS
                  have hx2 : 1 ≤ widthP M (orderP fillC M) := by have := HE2.out; omega
                  generalize hg2 : widthP M (orderP fillC M) = X2 at HWF hx2
                  have HML := hid hml
                  clear hml hg2
                  go_wp2_with fail
                  refine HWO.out.mono ?_
                  rintro e w6 ⟨rfl, hb6⟩
                  have hB6 := hB5.trans (hb6.mono hB5.size)
                  have HD6 := hid (HWD.out w6 hb6)
                  rw [HE1.out] at HD6
                  clear HWO HWD
                  go_wp2_with fail
                  refine HD6.out.mono ?_
                  rintro e w7 ⟨rfl, hb7⟩
                  have hb67 := hb6.trans (hb7.mono hb6.size)
                  have hB7 := hB5.trans (hb67.mono hB5.size)
                  have HF7 := hid (HWF.out w7 hb67)
                  clear HWF HD6
                  go_wp2_with fail
                  refine HF7.out.mono ?_
                  rintro e w8 ⟨rfl, hb8⟩
                  have hB8 := hB7.trans (hb8.mono hB7.size)
                  go_wp2_with fail
                  refine (HW.out w8 hB8).mono ?_
                  rintro e w9 ⟨rfl, hb9⟩
                  have hB9 := hB8.trans (hb9.mono hB8.size)
                  go_wp2_with fail
                  go_ret
                  exact ⟨rfl, hB9⟩
                · rw [show min 1 (max 0 ((i : Int) - 1)) = (0 : Int) by omega] at hp
                  obtain ⟨e0, e1, e2⟩ := hp
                  have HE2 := hid e2
                  have HE1 := hid e1
                  rw [e0] at HWO
                  clear e0 e1 e2 hS
                  have hx2 : 0 ≤ widthP M (orderP fillC M) := by have := HE2.out; omega
                  generalize hg2 : widthP M (orderP fillC M) = X2 at HWF hx2
                  have HML := hid hml
                  clear hml hg2
                  go_wp2_with fail
                  refine HWO.out.mono ?_
                  rintro e w6 ⟨rfl, hb6⟩
                  have hB6 := hB5.trans (hb6.mono hB5.size)
                  have HD6 := hid (HWD.out w6 hb6)
                  rw [HE1.out] at HD6
                  clear HWO HWD
                  go_wp2_with fail
                  refine HD6.out.mono ?_
                  rintro e w7 ⟨rfl, hb7⟩
                  have hb67 := hb6.trans (hb7.mono hb6.size)
                  have hB7 := hB5.trans (hb67.mono hB5.size)
                  have HF7 := hid (HWF.out w7 hb67)
                  clear HWF HD6
                  go_wp2_with fail
                  refine HF7.out.mono ?_
                  rintro e w8 ⟨rfl, hb8⟩
                  have hB8 := hB7.trans (hb8.mono hB7.size)
                  go_wp2_with fail
                  refine (HW.out w8 hB8).mono ?_
                  rintro e w9 ⟨rfl, hb9⟩
                  have hB9 := hB8.trans (hb9.mono hB8.size)
                  go_wp2_with fail
                  go_ret
                  exact ⟨rfl, hB9⟩
            · have hs3 : max (st : Int) 3 = (st : Int) := by omega
              have hs4 : ((st : Int) == 2) = false := by simp; omega
              by_cases h4 : (st : Int) ≤ (i : Int)
              · obtain ⟨e0, e1, e2⟩ := wide_cycle hml (by omega) hS (st : Int) (by omega) (by omega) (Int.emod_self)
                have HE2 := hid e2
                have HE1 := hid e1
                rw [e0] at HWO
                clear e0 e1 e2 hS
                have hx2 : 2 ≤ widthP M (orderP fillC M) := by have := HE2.out; omega
                generalize hg2 : widthP M (orderP fillC M) = X2 at HWF hx2
                have HML := hid hml
                clear hml hg2
                go_wp2_with fail
                refine HWO.out.mono ?_
                rintro e w6 ⟨rfl, hb6⟩
                have hB6 := hB5.trans (hb6.mono hB5.size)
                have HD6 := hid (HWD.out w6 hb6)
                rw [HE1.out] at HD6
                clear HWO HWD
                go_wp2_with fail
                refine HD6.out.mono ?_
                rintro e w7 ⟨rfl, hb7⟩
                have hb67 := hb6.trans (hb7.mono hb6.size)
                have hB7 := hB5.trans (hb67.mono hB5.size)
                have HF7 := hid (HWF.out w7 hb67)
                clear HWF HD6
                go_wp2_with fail
                refine HF7.out.mono ?_
                rintro e w8 ⟨rfl, hb8⟩
                have hB8 := hB7.trans (hb8.mono hB7.size)
                go_wp2_with fail
                refine (HW.out w8 hB8).mono ?_
                rintro e w9 ⟨rfl, hb9⟩
                have hB9 := hB8.trans (hb9.mono hB8.size)
                go_wp2_with fail
                go_ret
                exact ⟨rfl, hB9⟩
              · have hp := wide_path hml (by omega) hS (fun x x1 x2 hx => by have hx : x % (st : Int) = 0 := hx; rw [Int.emod_eq_of_lt (by omega) (by omega)] at hx; omega)
                by_cases h2 : (2 : Int) ≤ (i : Int)
                · rw [show min 1 (max 0 ((i : Int) - 1)) = (1 : Int) by omega] at hp
                  obtain ⟨e0, e1, e2⟩ := hp
                  have HE2 := hid e2
                  have HE1 := hid e1
                  rw [e0] at HWO
                  clear e0 e1 e2 hS
                  have hx2 : 1 ≤ widthP M (orderP fillC M) := by have := HE2.out; omega
                  generalize hg2 : widthP M (orderP fillC M) = X2 at HWF hx2
                  have HML := hid hml
                  clear hml hg2
                  go_wp2_with fail
                  refine HWO.out.mono ?_
                  rintro e w6 ⟨rfl, hb6⟩
                  have hB6 := hB5.trans (hb6.mono hB5.size)
                  have HD6 := hid (HWD.out w6 hb6)
                  rw [HE1.out] at HD6
                  clear HWO HWD
                  go_wp2_with fail
                  refine HD6.out.mono ?_
                  rintro e w7 ⟨rfl, hb7⟩
                  have hb67 := hb6.trans (hb7.mono hb6.size)
                  have hB7 := hB5.trans (hb67.mono hB5.size)
                  have HF7 := hid (HWF.out w7 hb67)
                  clear HWF HD6
                  go_wp2_with fail
                  refine HF7.out.mono ?_
                  rintro e w8 ⟨rfl, hb8⟩
                  have hB8 := hB7.trans (hb8.mono hB7.size)
                  go_wp2_with fail
                  refine (HW.out w8 hB8).mono ?_
                  rintro e w9 ⟨rfl, hb9⟩
                  have hB9 := hB8.trans (hb9.mono hB8.size)
                  go_wp2_with fail
                  go_ret
                  exact ⟨rfl, hB9⟩
                · rw [show min 1 (max 0 ((i : Int) - 1)) = (0 : Int) by omega] at hp
                  obtain ⟨e0, e1, e2⟩ := hp
                  have HE2 := hid e2
                  have HE1 := hid e1
                  rw [e0] at HWO
                  clear e0 e1 e2 hS
                  have hx2 : 0 ≤ widthP M (orderP fillC M) := by have := HE2.out; omega
                  generalize hg2 : widthP M (orderP fillC M) = X2 at HWF hx2
                  have HML := hid hml
                  clear hml hg2
                  go_wp2_with fail
                  refine HWO.out.mono ?_
                  rintro e w6 ⟨rfl, hb6⟩
                  have hB6 := hB5.trans (hb6.mono hB5.size)
                  have HD6 := hid (HWD.out w6 hb6)
                  rw [HE1.out] at HD6
                  clear HWO HWD
                  go_wp2_with fail
                  refine HD6.out.mono ?_
                  rintro e w7 ⟨rfl, hb7⟩
                  have hb67 := hb6.trans (hb7.mono hb6.size)
                  have hB7 := hB5.trans (hb67.mono hB5.size)
                  have HF7 := hid (HWF.out w7 hb67)
                  clear HWF HD6
                  go_wp2_with fail
                  refine HF7.out.mono ?_
                  rintro e w8 ⟨rfl, hb8⟩
                  have hB8 := hB7.trans (hb8.mono hB7.size)
                  go_wp2_with fail
                  refine (HW.out w8 hB8).mono ?_
                  rintro e w9 ⟨rfl, hb9⟩
                  have hB9 := hB8.trans (hb9.mono hB8.size)
                  go_wp2_with fail
                  go_ret
                  exact ⟨rfl, hB9⟩
end Go.Proofs.YthgkklahiclcpaaDoor
