/- Walks: the writer of nodes, with inputs. -/
import Derived.Test.YtkfmblpcfgdgpaaFWrite2
namespace Go.Proofs.Ytkfmblpcfgdgpaa
open Go.RowKit

theorem encIns_snoc (i : Nat) : ∀ (l : List Int) (k : Int), encIns i (l ++ [k]) = encIns i l ++ encNum ((i : Int) - k).toNat
  | [], k => by simp [encIns]
  | a :: l, k => by
    show encNum _ ++ encIns i (l ++ [k]) = _
    rw [encIns_snoc i l k]
    show _ = (encNum _ ++ encIns i l) ++ _
    rw [List.append_assoc]
theorem encNum10 {n : Nat} (h : n < 9223372036854775808) : (encNum n).length ≤ 10 := encNum_len (j := 9) (by omega)
theorem encIns_len10 (i : Nat) (hi : i < 9223372036854775808) : ∀ (l : List Int), (∀ k ∈ l, 0 ≤ k) → (encIns i l).length ≤ 10 * l.length
  | [], _ => by simp [encIns]
  | a :: l, h => by
    have h1 := h a (by simp)
    have := encIns_len10 i hi l (fun k hk => h k (by simp [hk]))
    have := encNum10 (n := ((i : Int) - a).toNat) (by omega)
    simp only [encIns, List.length_append, List.length_cons]
    omega
set_option maxRecDepth 100000 in
set_option maxHeartbeats 2000000 in
theorem wnode3_c (i : Nat) (hi0 : i < 9223372036854775808) (kn : Nat) (hk : kn = 3 ∨ kn = 4) (xl : Int) (xi : List Int) (hx : ∀ k ∈ xi, 0 ≤ k ∧ k < (i : Int)) (v : Value) (base pw : Nat) (l : List UInt8) (w : World) (h : Wr w base pw l)
    (hI : ∀ w', Below base w w' → IntsAt w' v xi) (hl : l.length + 11 * xi.length ≤ 70368744177000) (hb : base ≤ w.heap.size) :
    Calls Try.prog 30 #[.pointer (some ⟨pw, 0, none⟩), .int .i64 i, .agg #[.int .i64 (kn : Int), .int .i64 xl, v]] w (WrPost w base pw (l ++ encNum kn ++ encNum xi.length ++ encIns i xi)) := by
  have hst := node_start (kn : Int) xl v h hb
  have HL := hid (encIns_len10 i hi0)
  have HX := hid hx
  clear hx
  obtain ⟨p, c, rfl, _⟩ := hI w (Below.refl _ _)
  have HI := hid hI
  clear hI
  go_enter Try.func30, Try.ntmps30
  go_wp2_with fail
  generalize w.alloc (.cells #[.int .i64 (kn : Int), .int .i64 xl, .slice p xi.length c] 46) = w0 at *
  refine (number_c kn (by omega) base pw l w0 hst.hW0 (by omega) hst.hs).mono ?_
  rintro e w1 ⟨rfl, hW1, hB1, hK1⟩
  obtain ⟨c0, c1, c2, hB, hs, hK⟩ := hst.cells hB1 hK1
  have hl1 : (l ++ encNum kn).length ≤ l.length + 1 := by rw [encNum_lt (by omega)]; simp
  generalize hll : l ++ encNum kn = l1 at *
  obtain rfl | rfl := hk <;>
  · go_wp2_with fail
    refine (number_c xi.length (by omega) base pw l1 w1 hW1 (by omega) hs).mono ?_
    rintro e w2 ⟨rfl, hW2, hB2, hK2⟩
    have hl2 : (l1 ++ encNum xi.length).length ≤ l1.length + 10 := by have := encNum10 (n := xi.length) (by omega); simp; omega
    have hs2 : base ≤ w2.heap.size := Nat.le_trans hs hB2.size
    obtain ⟨_, _, c2', hB', _, hK3⟩ := hst.cells (hB1.trans hB2) (hK1.trans hK2)
    have hK' := hid hK3
    clear hst hK3
    generalize l1 ++ encNum xi.length = l2 at *
    go_wp2_with fail
    go_loopw [7, 37] (fun _ j wr => ∃ k : Nat, k ≤ xi.length ∧ j = .int .i64 k ∧ Wr wr base pw (l2 ++ encIns i (xi.take k)) ∧ Below base w wr ∧ base ≤ wr.heap.size ∧ Hid (KeepsT w wr pw)) (fun _ j _ => xi.length - (intOf j).toNat)
    case atStart => exact ⟨0, Nat.zero_le _, rfl, by simpa [encIns] using hW2, hB', hs2, hK'⟩
    case round =>
      obtain ⟨k, hk, rfl, hW, hBr, hsr, hKr⟩ := hrel
      by_cases hlt : k < xi.length
      · obtain ⟨p', c', e', hI0⟩ := HI.out wr hBr
        injection e' with e1 e2 e3
        obtain ⟨b, off, e4, hI⟩ := hI0.resolve_left (by intro e; rw [e] at hlt; simp at hlt)
        clear hI0
        have hc1 := hI k hlt
        subst e1
        subst e4
        rw [List.getElem?_eq_getElem hlt, Option.getD_some] at hc1
        have hxk := HX.out xi[k] (List.getElem_mem hlt)
        have hlen : (l2 ++ encIns i (xi.take k)).length ≤ 70368744177664 := by
          have := HL.out (xi.take k) (fun j hj => (HX.out j (List.mem_of_mem_take hj)).1)
          have h3 : (xi.take k).length ≤ xi.length := by simp; omega
          simp only [List.length_append]; omega
        have HS : Hid (l2 ++ encIns i (xi.take (k + 1)) = l2 ++ encIns i (xi.take k) ++ encNum ((i : Int) - xi[k]).toNat) := by
          show _ = _
          rw [List.take_succ_eq_append_getElem hlt, encIns_snoc, List.append_assoc]
        clear hI e3 e2
        generalize xi[k] = x at hc1 hxk HS
        obtain ⟨z1, z2⟩ := hxk
        obtain ⟨d, hd⟩ : ∃ d : Nat, (i : Int) - x = (d : Int) := ⟨((i : Int) - x).toNat, by omega⟩
        have hd2 : ((i : Int) - x).toNat = d := by omega
        rw [hd2] at HS
        have hdi : d < 9223372036854775808 := by omega
        have HD := hid hd
        clear hd hd2
        go_wp2_with fail
        rw [HD.out]
        refine (number_c d hdi base pw _ wr hW hlen hsr).mono ?_
        rintro e w3 ⟨rfl, hW3, hB3, hK3⟩
        rw [← HS.out] at hW3
        have hsr3 : base ≤ w3.heap.size := Nat.le_trans hsr hB3.size
        have hK4 := hid (hKr.out.trans hK3)
        go_wp2_with fail
        go_roundw
        case rel => exact ⟨k + 1, by omega, by go_num, hW3, hBr.trans hB3, hsr3, hK4⟩
        case measure => simp [intOf]; omega
      · obtain rfl : k = xi.length := by omega
        rw [List.take_length] at hW
        go_wp2_with fail
        go_end0
        exact ⟨rfl, hW, hBr, hKr.out⟩
/-- The writer of nodes, of a node that is well formed. -/
theorem wnode_c (i : Nat) (hi0 : i < 9223372036854775808) (xk xl : Int) (xi : List Int) (v : Value) (n : Int) (hf : formed ⟨xk, xl, xi⟩ n i = true) (base pw : Nat) (l : List UInt8) (w : World) (h : Wr w base pw l)
    (hI : ∀ w', Below base w w' → IntsAt w' v xi) (hl : l.length + 11 * xi.length ≤ 70368744177000) (hb : base ≤ w.heap.size) :
    Calls Try.prog 30 #[.pointer (some ⟨pw, 0, none⟩), .int .i64 i, .agg #[.int .i64 xk, .int .i64 xl, v]] w (WrPost w base pw (l ++ encNode i ⟨xk, xl, xi⟩)) := by
  obtain ⟨hins, hparts⟩ := formed_parts hf
  rcases hparts with ⟨hk, _, _⟩ | ⟨hk, hlit, _⟩ | ⟨hk, _⟩
  · have hk : xk = 0 ∨ xk = 1 := hk
    obtain ⟨kn, rfl⟩ : ∃ kn : Nat, xk = (kn : Int) := ⟨xk.toNat, by omega⟩
    have e : encNode i ⟨(kn : Int), xl, xi⟩ = encNum kn := by
      unfold encNode
      have h2 : ¬ (kn : Int) = 2 := by omega
      have h3 : ¬ ((kn : Int) = 3 ∨ (kn : Int) = 4) := by omega
      simp only [h2, h3, if_false, List.append_nil, Int.toNat_natCast]
    rw [e]
    exact wnode0_c i kn (by omega) xl v base pw l w h (by omega) hb
  · have hk : xk = 2 := hk
    subst hk
    obtain ⟨r0, r1, r2⟩ := litValid_range hlit
    have e : encNode i ⟨2, xl, xi⟩ = encNum 2 ++ encNum (litCode xl) := by
      unfold encNode
      simp
    rw [e, ← List.append_assoc]
    exact wnode2_c i xl r0 r1 r2 v base pw l w h (by omega) hb
  · have hk : xk = 3 ∨ xk = 4 := hk
    obtain ⟨kn, rfl⟩ : ∃ kn : Nat, xk = (kn : Int) := ⟨xk.toNat, by omega⟩
    have e : encNode i ⟨(kn : Int), xl, xi⟩ = encNum kn ++ encNum xi.length ++ encIns i xi := by
      unfold encNode
      have h2 : ¬ (kn : Int) = 2 := by omega
      simp only [h2, hk, if_false, if_true, Int.toNat_natCast, List.append_assoc]
    rw [e, ← List.append_assoc, ← List.append_assoc]
    exact wnode3_c i hi0 kn (by omega) xl xi hins v base pw l w h hI hl hb
end Go.Proofs.Ytkfmblpcfgdgpaa
