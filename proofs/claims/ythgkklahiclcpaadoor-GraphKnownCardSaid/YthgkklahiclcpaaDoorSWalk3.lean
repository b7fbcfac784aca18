/- Walks: the costs, widths. -/
import Derived.Test.YthgkklahiclcpaaDoorSWalk2
namespace Go.Proofs.YthgkklahiclcpaaDoor
open Go.RowKit
attribute [local go_sem ↓] run_eqlS run_neqS run_eqlS0 run_neqS0

theorem len_le (s : VS) : len s ≤ 128 := by have := mems_length s; unfold len; omega
theorem sum_range {a b : Int} : ∀ {l : List Int}, (∀ x ∈ l, a ≤ x ∧ x ≤ b) → a * (l.length : Int) ≤ l.sum ∧ l.sum ≤ b * (l.length : Int)
  | [], _ => by simp
  | x :: l, h => by
    obtain ⟨h1, h2⟩ := sum_range (l := l) (fun y hy => h y (by simp [hy]))
    have h3 := h x (by simp)
    rw [List.sum_cons, List.length_cons]
    push_cast
    rw [Int.mul_add, Int.mul_add]
    omega
def fillTo (g : Gr) (v : Int) (k : Nat) : Int := (((mems (g v)).take k).map fun w => len (minus (g v) (g w)) - 1).sum
theorem fillTo_all (g : Gr) (v : Int) : fillTo g v (mems (g v)).length = fillC g v := by unfold fillTo fillC; rw [List.take_length]
theorem fillTo_succ (g : Gr) (v : Int) (k : Nat) (h : k < (mems (g v)).length) : fillTo g v (k + 1) = fillTo g v k + (len (minus (g v) (g (mems (g v))[k])) - 1) := by
  unfold fillTo
  rw [List.take_succ_eq_append_getElem h, List.map_append, List.sum_append]
  simp
theorem fillTo_range (g : Gr) (v : Int) (k : Nat) : -128 ≤ fillTo g v k ∧ fillTo g v k ≤ 16384 := by
  have h := sum_range (a := -1) (b := 127) (l := ((mems (g v)).take k).map fun w => len (minus (g v) (g w)) - 1) (fun x hx => by
    obtain ⟨w, _, rfl⟩ := List.mem_map.1 hx
    have := len_pos (s := minus (g v) (g w))
    have := len_le (minus (g v) (g w))
    constructor <;> omega)
  have hl := mems_length (g v)
  rw [List.length_map, List.length_take] at h
  unfold fillTo
  omega
/-- What a cost's function does. -/
def CostIs (f : FuncId) (cost : Gr → Int → Int) : Prop := ∀ (g c : Nat) (L : List VS) (vn : Nat) (w : World), SetRow w g L → TabAt w → ValidG L → vn < L.length →
  Calls Tryd.prog f #[.slice (some ⟨g, 0, none⟩) L.length c, .int .i64 (vn : Int)] w fun e w' => e = .returned (.int .i64 (cost (gOf L) (vn : Int))) ∧ Below w.heap.size w w'
set_option maxRecDepth 100000 in
set_option maxHeartbeats 4000000 in
theorem degree_c : CostIs 44 degC := by
  intro g c L vn w hR hT hV hv
  obtain ⟨t, hgt, r0, r1, _, _⟩ := hR.get vn hv
  have z1 : (0 : Int) ≤ (vn : Int) ∧ (vn : Int) < (L.length : Int) := by omega
  have HG := hid hgt
  clear hgt
  go_enter Tryd.func44, Tryd.ntmps44
  go_wp2_with fail
  refine (Len_c t _).mono ?_
  rintro e w2 ⟨rfl, hb2⟩
  go_wp2_with fail
  go_ret
  exact ⟨by unfold degC; rw [HG.out]; rfl, hb2⟩
set_option maxRecDepth 100000 in
set_option maxHeartbeats 4000000 in
theorem fill_c : CostIs 39 fillC := by
  intro g c L vn w hR hT hV hv
  obtain ⟨s, hgs, r0, r1, _, _⟩ := hR.get vn hv
  have z1 : (0 : Int) ≤ (vn : Int) ∧ (vn : Int) < (L.length : Int) := by omega
  have HG := hid hgs
  have HR := hid (fun u (h : has s u = true) => (hV.range (v := (vn : Int)) (by rw [hgs]; exact h)).2)
  have hlt := hR.lt
  clear hgs hV
  go_enter Tryd.func39, Tryd.ntmps39
  go_wp2_with fail
  refine (List_c s _ hT).mono ?_
  rintro e w3 ⟨v3, rfl, hn3, hb3⟩
  have hR3 := hR.below hb3 hlt
  obtain ⟨pm, cm, e4, hm⟩ := hn3.ints
  subst e4
  have HM := hid hm
  have hml := mems_length s
  clear hm hn3 r0 r1
  go_wp2_with fail
  go_loopw [5, 14] (fun x i wr => ∃ k : Nat, k ≤ (mems s).length ∧ i = .int .i64 k ∧ x = .int .i64 (fillTo (gOf L) (vn : Int) k) ∧ Below w3.heap.size w3 wr) (fun _ i _ => (mems s).length - (intOf i).toNat)
  case atStart => exact ⟨0, Nat.zero_le _, rfl, by simp [fillTo], Below.refl _ _⟩
  case round =>
    obtain ⟨k, hk, rfl, rfl, hB⟩ := hrel
    by_cases hkl : k < (mems s).length
    · obtain ⟨bm, om, rfl, hm⟩ := HM.out.resolve_left (by intro e; rw [e] at hkl; simp at hkl)
      have hc := hm k hkl
      rw [List.getElem?_eq_getElem hkl, Option.getD_some] at hc
      have hc2 := (hB.cell (cell_lt hc)).trans hc
      have hmem : has s (mems s)[k] = true := (mem_mems _ _).1 (List.getElem_mem hkl)
      have hrg := has_range hmem
      have hru := HR.out _ hmem
      obtain ⟨un, hun⟩ : ∃ un : Nat, (mems s)[k] = (un : Int) := ⟨((mems s)[k]).toNat, by omega⟩
      have hsc := fillTo_succ (gOf L) (vn : Int) k (by rw [HG.out]; exact hkl)
      simp only [HG.out] at hsc
      rw [hun] at hc2 hrg hru hsc
      have hlu : un < L.length := by omega
      have zu : (0 : Int) ≤ (un : Int) ∧ (un : Int) < (L.length : Int) := by omega
      have zk : (0 : Int) ≤ (k : Int) ∧ (k : Int) < ((mems s).length : Int) := by omega
      have hRr := hR3.below hB hR3.lt
      obtain ⟨t, hgt, r0, r1, _, _⟩ := hRr.get un hlu
      obtain ⟨s2, hgs2, q0, q1, _, _⟩ := hRr.get vn hv
      obtain rfl : s2 = s := hgs2.symm.trans HG.out
      rw [hgt] at hsc
      have hra := fillTo_range (gOf L) (vn : Int) k
      have HSC := hid hsc
      have lb : g < wr.heap.size := hRr.lt
      have hlp := len_pos (s := minus s2 t)
      have hll := len_le (minus s2 t)
      have p1 := fun x => Minus_c s2 t (ext wr x)
      have p2 := fun x => Len_c (minus s2 t) (ext wr x)
      clear hm hc hrg hru hun hsc hgt hgs2 hmem hRr
      generalize fillTo (gOf L) (vn : Int) k = S at *
      generalize hlen : len (minus s2 t) = d at *
      go_wp2_with fail
      refine wp_region_pure (by kernel_rfl) (by kernel_rfl) ?_
      repeat (go_big_quiet_step ((first | (go_at_call 42; exact Calls.ext_of (p1 _)) | (go_at_call 41; exact Calls.ext_of (p2 _)))))
      refine wpQuiet_nil ?_
      intro w5 hb5
      go_wp2_with fail
      go_roundw
      case rel => exact ⟨k + 1, by omega, by go_num, by rw [HSC.out], hB.trans (hb5.mono hB.size)⟩
      case measure => simp [intOf]; omega
    · obtain rfl : k = (mems s).length := by omega
      have HA : Hid (fillTo (gOf L) (vn : Int) (mems s).length = fillC (gOf L) (vn : Int)) := by
        have := fillTo_all (gOf L) (vn : Int)
        rw [HG.out] at this; exact this
      go_wp2_with fail
      go_ret
      exact ⟨by rw [← HA.out]; rfl, hb3.trans (hB.mono hb3.size)⟩
end Go.Proofs.YthgkklahiclcpaaDoor
