/- Walks: the reference's nodes as bytes. -/
import Derived.Test.YtkfmblpcfgdgpaaFRef
namespace Go.Proofs.Ytkfmblpcfgdgpaa
open Go.RowKit

theorem newB_base {w w0 w' : World} {v : Value} {l : List UInt8} (h0 : Below w.heap.size w w0) (hr : Row w' w0.heap.size v l) (hb : Below w0.heap.size w0 w') : NewB w l (.returned v) w' :=
  ⟨v, rfl, hr.base h0.size, h0.trans (hb.mono h0.size)⟩
/-- One Number more. -/
theorem row_step {w0 wa wb : World} {l : List UInt8} {u : Value} (hB : Below w0.heap.size w0 wa) (hu : Row wb wa.heap.size u l) (hb : Below wa.heap.size wa wb) : Below w0.heap.size w0 wb ∧ BytesAt wb u l := ⟨hB.trans (hb.mono hB.size), hu.bytes⟩
theorem kinds_of {y : NodeT} {n i : Int} (hf : formed y n i = true) : (y.kind = 0 ∨ y.kind = 1) ∨ (y.kind = 2 ∧ 0 < y.lit ∧ y.lit ≤ 128) ∨ (y.kind = 2 ∧ y.lit < 0 ∧ -128 ≤ y.lit) ∨ (y.kind = 3 ∨ y.kind = 4) := by
  obtain ⟨_, h | h | h⟩ := formed_parts hf
  · exact .inl h.1
  · have := litValid_range h.2.1
    omega
  · exact .inr (.inr (.inr h.1))
/-- Blocks of other types than bytes are as they were. -/
theorem Row.keeps {w w' : World} {base : Nat} {v : Value} {l : List UInt8} (h : Row w base v l) (hg : w.grownBy w' v.ownBlock) {k : Nat} {cs : Array Value} {t : TypeId} {fr : Nat × Nat} (hk : w.heap[k]? = some (.cells cs t fr)) (ht : t ≠ 5) : w'.heap[k]? = some (.cells cs t fr) := by
  rw [hg.block k (Array.getElem?_eq_some_iff.1 hk).1 (fun e => ?_), hk]
  rcases h.cells with ⟨rfl, _⟩ | ⟨g, c, cur, fz, rfl, _, hg2, _⟩
  · simp [Value.ownBlock] at e
  · obtain rfl : k = g := by simpa [Value.ownBlock] using e
    rw [hk] at hg2
    injection hg2 with hg2; injection hg2 with _ e2 _
    exact ht e2
/-- What stands in a round: the bytes so far, the node's variable. -/
structure St (w0 w : World) (b : Value) (l : List UInt8) (bx : Nat) (cs : Array Value) : Prop where
  row : Row w w0.heap.size b l
  B : Below w0.heap.size w0 w
  box : w.heap[bx]? = some (.cells cs 46 (0, 0))
theorem St.called {w0 w w' : World} {b : Value} {l : List UInt8} {bx : Nat} {cs : Array Value} (h : St w0 w b l bx cs) (hb : Below w.heap.size w w') : St w0 w' b l bx cs :=
  ⟨h.row.below hb, h.B.trans (hb.mono h.B.size), (hb.block bx (Array.getElem?_eq_some_iff.1 h.box).1).trans h.box⟩
theorem St.appended {w0 w w' : World} {b b' : Value} {l l' : List UInt8} {bx : Nat} {cs : Array Value} (h : St w0 w b l bx cs) (hr : Row w' w0.heap.size b' l') (hb : Below w0.heap.size w w') (hg : w.grownBy w' b.ownBlock) : St w0 w' b' l' bx cs :=
  ⟨hr, h.B.trans hb, h.row.keeps hg h.box (by decide)⟩
theorem St.cells {w0 w : World} {b : Value} {l : List UInt8} {bx : Nat} {a1 a2 a3 : Value} (h : St w0 w b l bx #[a1, a2, a3]) : w.cell? ⟨bx, 0, none⟩ = some a1 ∧ w.cell? ⟨bx, 1, none⟩ = some a2 ∧ w.cell? ⟨bx, 2, none⟩ = some a3 := by
  refine ⟨?_, ?_, ?_⟩ <;> simp [World.cell?, h.box]
theorem encIns_append (i : Nat) : ∀ (a b : List Int), encIns i (a ++ b) = encIns i a ++ encIns i b
  | [], b => by simp [encIns]
  | x :: a, b => by simp only [List.cons_append, encIns, encIns_append i a b, List.append_assoc]
theorem encIns_take (i : Nat) (l : List Int) (m : Nat) : (encIns i (l.take m)).length ≤ (encIns i l).length := by
  have := encIns_append i (l.take m) (l.drop m)
  rw [List.take_append_drop] at this
  rw [this, List.length_append]; omega
set_option maxRecDepth 100000 in
set_option maxHeartbeats 4000000 in
theorem rnodes_c (n : Int) (L : List NodeT) (v : Value) (w : World) (hN : NodesAt w v L) (hF : formedTo n L L.length) (hL : L.length ≤ 65536) (hlen : (encFrom 0 L).length ≤ 70368744177000) :
    Calls Try.prog 34 #[.agg #[.int .i64 n, v]] w (NewB w (encFrom 0 L)) := by
  have hB1 : Below w.heap.size w (w.alloc (.cells #[.int .i64 n, v] 24)) := (Below.refl _ w).alloc (Nat.le_refl _) _
  have hx := NetVar.new w n v 24
  replace hN := hN.below hB1
  have HB1 := hid hB1
  have HF := hid hF
  obtain ⟨p, c, rfl, hN0⟩ := hN
  have HN := hid hN0
  clear hN0 hF hB1
  go_enter Try.func34, Try.ntmps34
  go_wp2_with fail
  generalize w.alloc (.cells #[.int .i64 n, .slice p L.length c] 24) = w0 at *
  have hlt0 : w.heap.size < w0.heap.size := cell_lt hx.n
  have hr0 : Row w0 w0.heap.size (.slice none 0 0) (encFrom 0 (L.take 0)) := .inl ⟨rfl, .inl ⟨rfl, rfl⟩⟩
  obtain ⟨xn, xl0⟩ := hx
  go_loopw [3, 4] (fun o i wr => ∃ k : Nat, k ≤ L.length ∧ i = .int .i64 k ∧ Row wr w0.heap.size o (encFrom 0 (L.take k)) ∧ Below w0.heap.size w0 wr) (fun _ i _ => L.length - (intOf i).toNat)
  case atStart => exact ⟨0, Nat.zero_le _, rfl, hr0, Below.refl _ _⟩
  case round =>
    clear hr0
    obtain ⟨k, hk, rfl, hrow, hB⟩ := hrel
    have hsr := hB.size
    have yl := (hB.cell (p := ⟨w.heap.size, 1, none⟩) hlt0).trans xl0
    by_cases hlt2 : k < L.length
    · obtain ⟨b, off, rfl, hN⟩ := HN.out.resolve_left (by intro e; rw [e] at hlt2; simp at hlt2)
      obtain ⟨u, hu⟩ := hN k hlt2
      have hu' := hu.below hB
      have d0 := hu'.kind
      have d1 := hu'.lit
      have d2 := hu'.ins
      have hI := hu'.ints
      have hil := hu'.len
      have hI1 := hu.ints
      have hfm : formed L[k] n k = true := HF.out k hlt2 hlt2
      have z1 : (0 : Int) ≤ (k : Int) ∧ (k : Int) < (L.length : Int) := by omega
      have HS := hid (encFrom_snoc L k hlt2)
      have hup : (encFrom 0 (L.take (k + 1))).length ≤ (encFrom 0 L).length := by
        have := encFrom_append (L.take (k + 1)) (L.drop (k + 1)) 0
        rw [List.take_append_drop] at this
        rw [this, List.length_append]; omega
      rw [HS.out, List.length_append] at hup
      have hkk := kinds_of hfm
      have HFM := hid hfm
      clear hu hu' hfm hN
      generalize encFrom 0 (L.take k) = lk at *
      generalize hxx : L[k] = x at *
      clear hxx
      obtain ⟨xk, xl, xi⟩ := x
      obtain ⟨p2, cp, e2, hdrop⟩ := id hI
      clear hdrop
      subst e2
      have hil : xi.length ≤ 140737488355328 := hil
      have hkk : (xk = 0 ∨ xk = 1) ∨ (xk = 2 ∧ 0 < xl ∧ xl ≤ 128) ∨ (xk = 2 ∧ xl < 0 ∧ -128 ≤ xl) ∨ (xk = 3 ∨ xk = 4) := hkk
      have HI1 := hid hI1
      clear hI1
      have s5 : St w0 (wr.alloc (.cells #[.int .i64 xk, .int .i64 xl, .slice p2 xi.length cp] 46)) u3 lk wr.heap.size #[.int .i64 xk, .int .i64 xl, .slice p2 xi.length cp] :=
        ⟨hrow.alloc _, hB.alloc hsr _, heap_alloc_new wr _⟩
      clear hrow
      have hnl : ∀ m, (encNum m).length ≤ 10 → True := fun _ _ => trivial
      rcases hkk with hk01 | ⟨rfl, hp1, hp2⟩ | ⟨rfl, hp1, hp2⟩ | hk34
      · obtain ⟨kn, rfl⟩ : ∃ kn : Nat, xk = (kn : Int) := ⟨xk.toNat, by omega⟩
        have hkn : kn < 9223372036854775808 := by omega
        have e : encNode k ⟨(kn : Int), xl, xi⟩ = encNum kn := by
          unfold encNode
          rw [if_neg (by show ¬ (kn : Int) = 2; omega), if_neg (by show ¬ ((kn : Int) = 3 ∨ (kn : Int) = 4); omega)]; simp
        rw [e] at HS hup
        have q2 : ((kn : Int) == 2) = false := by simp; omega
        have q3 : ((kn : Int) == 3) = false := by simp; omega
        have q4 : ((kn : Int) == 4) = false := by simp; omega
        clear hk01 e
        go_wp2_with fail
        generalize wr.alloc (.cells #[.int .i64 (kn : Int), .int .i64 xl, .slice p2 xi.length cp] 46) = w5 at *
        refine (Number_c kn hkn w5).mono ?_
        rintro e w6 ⟨u6, rfl, hu6, hb6⟩
        have s6 := s5.called hb6
        have hn6 := hu6.bytes
        go_wp2_with (at_builtin; refine wpList_append_bytes rfl _ _ rfl w0.heap.size _ lk rfl s6.row _ (encNum kn) rfl hn6 (by omega) s6.B.size ?_; intro v' w7 hrow hb7 hg7; have s7 := s6.appended hrow hb7 hg7; obtain ⟨c0, c1, c2⟩ := s7.cells; clear hrow hb7 hg7)
        go_roundw
        case rel => exact ⟨k + 1, by omega, by go_num, by rw [HS.out]; exact s7.row, s7.B⟩
        case measure => simp [intOf]; omega
      · have hcd : (litCode xl : Nat) < 9223372036854775808 := by have := litCode_le (l := xl) ⟨by omega, by omega⟩; omega
        have HE : Hid (2 * xl = ((litCode xl : Nat) : Int)) := by show _ = _; unfold litCode; split <;> omega
        have e : encNode k ⟨2, xl, xi⟩ = encNum 2 ++ encNum (litCode xl) := by unfold encNode; simp
        rw [e, List.length_append] at hup
        rw [e, ← List.append_assoc] at HS
        clear e
        go_wp2_with fail
        generalize wr.alloc (.cells #[.int .i64 2, .int .i64 xl, .slice p2 xi.length cp] 46) = w5 at *
        refine (Number_c 2 (by omega) w5).mono ?_
        rintro e w6 ⟨u6, rfl, hu6, hb6⟩
        have s6 := s5.called hb6
        have hn6 := hu6.bytes
        go_wp2_with (at_builtin; refine wpList_append_bytes rfl _ _ rfl w0.heap.size _ lk rfl s6.row _ (encNum 2) rfl hn6 (by omega) s6.B.size ?_; intro v' w7 hrow hb7 hg7; have s7 := s6.appended hrow hb7 hg7; obtain ⟨c0, c1, c2⟩ := s7.cells; clear hrow hb7 hg7)
        rw [HE.out]
        refine (Number_c (litCode xl) hcd w7).mono ?_
        rintro e w8 ⟨u8, rfl, hu8, hb8⟩
        have s8 := s7.called hb8
        have hn8 := hu8.bytes
        have hl8 : (lk ++ encNum 2).length + (encNum (litCode xl)).length ≤ 140737488355328 := by rw [List.length_append]; omega
        go_wp2_with (at_builtin; refine wpList_append_bytes rfl _ _ rfl w0.heap.size _ (lk ++ encNum 2) rfl s8.row _ (encNum (litCode xl)) rfl hn8 hl8 s8.B.size ?_; intro v' w9 hrow hb9 hg9; have s9 := s8.appended hrow hb9 hg9; obtain ⟨c0, c1, c2⟩ := s9.cells; clear hrow hb9 hg9)
        go_roundw
        case rel => exact ⟨k + 1, by omega, by go_num, by rw [HS.out]; exact s9.row, s9.B⟩
        case measure => simp [intOf]; omega
      · have hcd : (litCode xl : Nat) < 9223372036854775808 := by have := litCode_le (l := xl) ⟨by omega, by omega⟩; omega
        have HE : Hid (-2 * xl + 1 = ((litCode xl : Nat) : Int)) := by show _ = _; unfold litCode; split <;> omega
        have e : encNode k ⟨2, xl, xi⟩ = encNum 2 ++ encNum (litCode xl) := by unfold encNode; simp
        rw [e, List.length_append] at hup
        rw [e, ← List.append_assoc] at HS
        clear e
        go_wp2_with fail
        generalize wr.alloc (.cells #[.int .i64 2, .int .i64 xl, .slice p2 xi.length cp] 46) = w5 at *
        refine (Number_c 2 (by omega) w5).mono ?_
        rintro e w6 ⟨u6, rfl, hu6, hb6⟩
        have s6 := s5.called hb6
        have hn6 := hu6.bytes
        go_wp2_with (at_builtin; refine wpList_append_bytes rfl _ _ rfl w0.heap.size _ lk rfl s6.row _ (encNum 2) rfl hn6 (by omega) s6.B.size ?_; intro v' w7 hrow hb7 hg7; have s7 := s6.appended hrow hb7 hg7; obtain ⟨c0, c1, c2⟩ := s7.cells; clear hrow hb7 hg7)
        rw [HE.out]
        refine (Number_c (litCode xl) hcd w7).mono ?_
        rintro e w8 ⟨u8, rfl, hu8, hb8⟩
        have s8 := s7.called hb8
        have hn8 := hu8.bytes
        have hl8 : (lk ++ encNum 2).length + (encNum (litCode xl)).length ≤ 140737488355328 := by rw [List.length_append]; omega
        go_wp2_with (at_builtin; refine wpList_append_bytes rfl _ _ rfl w0.heap.size _ (lk ++ encNum 2) rfl s8.row _ (encNum (litCode xl)) rfl hn8 hl8 s8.B.size ?_; intro v' w9 hrow hb9 hg9; have s9 := s8.appended hrow hb9 hg9; obtain ⟨c0, c1, c2⟩ := s9.cells; clear hrow hb9 hg9)
        go_roundw
        case rel => exact ⟨k + 1, by omega, by go_num, by rw [HS.out]; exact s9.row, s9.B⟩
        case measure => simp [intOf]; omega
      · obtain ⟨kn, rfl⟩ : ∃ kn : Nat, xk = (kn : Int) := ⟨xk.toNat, by omega⟩
        have hkn : kn < 9223372036854775808 := by omega
        have e : encNode k ⟨(kn : Int), xl, xi⟩ = encNum kn ++ (encNum xi.length ++ encIns k xi) := by
          unfold encNode
          rw [if_neg (by show ¬ (kn : Int) = 2; omega), if_pos (by exact hk34)]; simp
        rw [e, List.length_append, List.length_append] at hup
        rw [e, ← List.append_assoc, ← List.append_assoc] at HS
        have hkn2 : kn = 3 ∨ kn = 4 := by omega
        have hins := hid (formed_parts HFM.out).1
        clear hk34 e
        obtain rfl | rfl := hkn2
        all_goals
          go_wp2_with fail
          refine (Number_c _ hkn _).mono ?_
          rintro e w6 ⟨u6, rfl, hu6, hb6⟩
          have s6 := s5.called hb6
          have hn6 := hu6.bytes
          go_wp2_with (at_builtin; refine wpList_append_bytes rfl _ _ rfl w0.heap.size _ lk rfl s6.row _ (encNum _) rfl hn6 (by omega) s6.B.size ?_; intro v' w7 hrow hb7 hg7; have s7 := s6.appended hrow hb7 hg7; obtain ⟨c0, c1, c2⟩ := s7.cells; clear hrow hb7 hg7)
          refine (Number_c xi.length (by omega) w7).mono ?_
          rintro e w8 ⟨u8, rfl, hu8, hb8⟩
          have s8 := s7.called hb8
          have hn8 := hu8.bytes
          generalize hlk2 : lk ++ encNum _ = lk2 at *
          have hl2 : lk2.length + (encNum xi.length).length + (encIns k xi).length ≤ (encFrom 0 L).length := by rw [← hlk2, List.length_append]; omega
          have hl8 : lk2.length + (encNum xi.length).length ≤ 140737488355328 := by omega
          clear hlk2
          go_wp2_with (at_builtin; refine wpList_append_bytes rfl _ _ rfl w0.heap.size _ lk2 rfl s8.row _ (encNum xi.length) rfl hn8 hl8 s8.B.size ?_; intro v' w9 hrow hb9 hg9; have s9 := s8.appended hrow hb9 hg9; clear hrow hb9 hg9)
          generalize hlk3 : lk2 ++ encNum xi.length = lk3 at *
          have hl3 : lk3.length + (encIns k xi).length ≤ (encFrom 0 L).length := by rw [← hlk3, List.length_append]; omega
          clear hlk3 s5 s6 s7 s8 yl d0 d1 d2 hsr hB
          obtain ⟨wo, rfl⟩ : ∃ wo : World, wo = wr := ⟨_, rfl⟩
          go_loopw [3, 6] (fun o j wq => ∃ m : Nat, m ≤ xi.length ∧ j = .int .i64 m ∧ St w0 wq o (lk3 ++ encIns k (xi.take m)) wo.heap.size #[.int .i64 _, .int .i64 xl, .slice p2 xi.length cp]) (fun _ j _ => xi.length - (intOf j).toNat)
          case atStart => exact ⟨0, Nat.zero_le _, rfl, by simpa [encIns] using s9⟩
          case round =>
            clear s9
            obtain ⟨m, hm, rfl, s10⟩ := hrel
            obtain ⟨c0, c1, c2⟩ := s10.cells
            by_cases hlt3 : m < xi.length
            · obtain ⟨p', c', e', hI0⟩ := HI1.out.below s10.B
              injection e' with e1 e2 e3
              obtain ⟨b3, off3, e4, hIf⟩ := hI0.resolve_left (by intro e; rw [e] at hlt3; simp at hlt3)
              clear hI0
              have hc1 := hIf m hlt3
              subst e1
              subst e4
              rw [List.getElem?_eq_getElem hlt3, Option.getD_some] at hc1
              have hxk := hins.out xi[m] (List.getElem_mem hlt3)
              have HS3 := hid (show lk3 ++ encIns k (xi.take (m + 1)) = lk3 ++ encIns k (xi.take m) ++ encNum ((k : Int) - xi[m]).toNat by
                rw [List.take_succ_eq_append_getElem hlt3, encIns_snoc, List.append_assoc])
              have hl9 : (lk3 ++ encIns k (xi.take m)).length + (encNum ((k : Int) - xi[m]).toNat).length ≤ 140737488355328 := by
                have h1 : (lk3 ++ encIns k (xi.take (m + 1))).length = (lk3 ++ encIns k (xi.take m)).length + (encNum ((k : Int) - xi[m]).toNat).length := by rw [HS3.out, List.length_append]
                rw [← h1, List.length_append]
                have h2 := encIns_take k xi (m + 1)
                omega
              clear hIf e2 e3
              have hxk1 := hxk.1
              have hxk2 : xi[m] < (k : Int) := hxk.2
              clear hxk
              generalize xi[m] = x at hc1 hxk1 hxk2 HS3 hl9
              obtain ⟨d, hd⟩ : ∃ d : Nat, (k : Int) - x = (d : Int) := ⟨((k : Int) - x).toNat, by omega⟩
              have hd2 : ((k : Int) - x).toNat = d := by omega
              rw [hd2] at HS3 hl9
              have hdi : d < 9223372036854775808 := by omega
              have HD := hid hd
              clear hd hd2
              generalize lk3 ++ encIns k (xi.take m) = lk4 at *
              go_wp2_with fail
              rw [HD.out]
              refine (Number_c d hdi _).mono ?_
              rintro e w11 ⟨u11, rfl, hu11, hb11⟩
              have s11 := s10.called hb11
              have hn11 := hu11.bytes
              go_wp2_with (at_builtin; refine wpList_append_bytes rfl _ _ rfl w0.heap.size _ lk4 rfl s11.row _ (encNum d) rfl hn11 hl9 s11.B.size ?_; intro v' w12 hrow hb12 hg12; have s12 := s11.appended hrow hb12 hg12; clear hrow hb12 hg12)
              go_roundw
              case rel => exact ⟨m + 1, by omega, by go_num, by rw [HS3.out]; exact s12⟩
              case measure => simp [intOf]; omega
            · obtain rfl : m = xi.length := by omega
              rw [List.take_length] at s10
              go_wp2_with fail
              go_roundw
              case rel => exact ⟨k + 1, by omega, by go_num, by rw [HS.out]; exact s10.row, s10.B⟩
              case measure => simp [intOf]; omega
    · obtain rfl : k = L.length := by omega
      rw [List.take_length] at hrow
      go_wp2_with fail
      go_ret
      exact newB_base HB1.out hrow hB
end Go.Proofs.Ytkfmblpcfgdgpaa
