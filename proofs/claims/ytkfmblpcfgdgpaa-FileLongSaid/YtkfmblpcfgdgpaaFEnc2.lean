/- Walks: Encode. -/
import Derived.Test.YtkfmblpcfgdgpaaFEnc
import Derived.Test.YtkfmblpcfgdgpaaFStr
import Derived.Deep.AppendLies
namespace Go.Proofs.Ytkfmblpcfgdgpaa
open Go.RowKit

/-- The post of Encode. -/
def EncPost (x : NetT) (w : World) (e : Ending) (w' : World) : Prop := ∃ vb, e = .returned (.tuple #[vb, .int .i64 (encNo x)]) ∧ OwnBytes w' w.heap.size vb (encBytes x) ∧ Below w.heap.size w w'
theorem encPost_no {x : NetT} {w w' : World} {n : Int} (h : encNo x = n ∧ encBytes x = []) (hB : Below w.heap.size w w') : EncPost x w (.returned (.tuple #[.slice none 0 0, .int .i64 n])) w' :=
  ⟨.slice none 0 0, by rw [h.1], by rw [h.2]; exact .inl ⟨rfl, rfl⟩, hB⟩
theorem encPost_yes {x : NetT} {w w' : World} {vb : Value} {bs : List UInt8} (h : encNo x = 0 ∧ encBytes x = bs) (ho : OwnBytes w' w.heap.size vb bs) (hB : Below w.heap.size w w') : EncPost x w (.returned (.tuple #[vb, .int .i64 0])) w' :=
  ⟨vb, by rw [h.1], by rw [h.2]; exact ho, hB⟩
theorem make_func (fn : Fn) (first cap : Array Value) (w : World) : (Instr.makeFunc fn first cap).run Try.prog w = .ok (.func fn first cap) w := rfl
theorem wr_start (w : World) (fz : Nat × Nat) : Wr ((w.alloc (.cells #[.int .u8 67, .int .u8 78, .int .u8 69, .int .u8 84] 5 fz)).alloc (.cells #[.slice (some ⟨w.heap.size, 0, none⟩) 4 4] 51)) w.heap.size (w.heap.size + 1) magic := by
  refine ⟨.slice (some ⟨w.heap.size, 0, none⟩) 4 4, ?_, ?_, by omega⟩
  · have := Boxed.new (w.alloc (.cells #[.int .u8 67, .int .u8 78, .int .u8 69, .int .u8 84] 5 fz)) 51 (.slice (some ⟨w.heap.size, 0, none⟩) 4 4)
    rw [show (w.alloc (.cells #[.int .u8 67, .int .u8 78, .int .u8 69, .int .u8 84] 5 fz)).heap.size = w.heap.size + 1 by simp] at this
    exact this
  · refine .inr ⟨w.heap.size, #[.int .u8 67, .int .u8 78, .int .u8 69, .int .u8 84], fz, rfl, Nat.le_refl _, ?_, by decide, rfl⟩
    rw [show ∀ (W : World) (o : Obj), (W.alloc o).heap = W.heap.push o from fun _ _ => rfl, show ∀ (W : World) (o : Obj), (W.alloc o).heap = W.heap.push o from fun _ _ => rfl, Array.getElem?_push]
    simp
theorem Wr.later {w w' : World} {base pw : Nat} {l : List UInt8} (h : Wr w base pw l) (hb : Below w.heap.size w w') : Wr w' base pw l := by
  obtain ⟨v, h1, h2, h3⟩ := h
  exact ⟨v, (show w'.heap[pw]? = _ from (hb.block pw h1.lt).trans h1), h2.below hb, h3⟩
/-- The bytes of a check sum as the walk spells them. -/
theorem le32_walk (s : BitVec 32) : (le32 s).map encB = [.int .u8 ((s.toNat : Int) % 256), .int .u8 ((s.toNat : Int) / 256 % 256), .int .u8 ((s.toNat : Int) / 65536 % 256), .int .u8 ((s.toNat : Int) / 16777216)] := by
  rw [le32_enc]
  have := s.isLt
  have e : (s.toNat : Int) / 16777216 % 256 = (s.toNat : Int) / 16777216 := by omega
  rw [e]
theorem ownsRow_four {W : World} {base : Nat} {e : TypeId} {size : Nat} {v : Value} {k : Nat} {xs : List Value} (h : W.ownsRow base e size v (k + 4) xs) : ∃ g cap, v = .slice (some ⟨g, 0, none⟩) (k + 4) cap := by
  rcases h.2 with ⟨_, h0⟩ | ⟨g, cap, _, rfl, _⟩
  · omega
  · exact ⟨g, cap, rfl⟩
/-- A clipped row. -/
theorem own_of_row {w : World} {base g cap : Nat} {l : List UInt8} (h : w.ownsRow base 5 1 (.slice (some ⟨g, 0, none⟩) l.length cap) l.length (l.map encB)) : OwnBytes w base (.slice (some ⟨g, 0, none⟩) l.length l.length) l ∧ l.length ≤ cap ∧ cap ≤ maxLen := by
  rcases h.2 with ⟨h, _⟩ | ⟨g', cap', cur, e, hb, hg, hn, hm, hs, ht⟩
  · cases h
  · injection e with e1 _ e3
    injection e1 with e1
    injection e1 with e1 _ _
    subst e1 e3
    exact ⟨.inr ⟨g, cur, rfl, hb, hg, by omega, by simpa using ht, by omega⟩, hn, hm⟩
theorem row_room {w : World} {base g cap n : Nat} {e : TypeId} {xs : List Value} (h : w.ownsRow base e 1 (.slice (some ⟨g, 0, none⟩) n cap) n xs) : n ≤ cap ∧ cap ≤ maxLen := by
  rcases h.2 with ⟨h, _⟩ | ⟨g', cap', cur, e, hb, hg, hn, hm, hs, ht⟩
  · cases h
  · injection e with _ _ e3
    subst e3
    exact ⟨hn, hm⟩
set_option maxRecDepth 100000 in
set_option maxHeartbeats 2000000 in
theorem Encode_c (n : Int) (L : List NodeT) (v : Value) (w : World) (hN : NodesAt w v L) :
    Calls Try.prog 17 #[.agg #[.int .i64 n, v]] w (EncPost ⟨n, L⟩ w) := by
  have hB1 : Below w.heap.size w (w.alloc (.cells #[.int .i64 n, v] 24)) := (Below.refl _ w).alloc (Nat.le_refl _) _
  have hx := NetVar.new w n v 24
  replace hN := hN.below hB1
  have hsz := hB1.size
  cases hv : validNet ⟨n, L⟩
  · have hno := hid (enc_bad hv)
    have hck := checkNo_f hv
    go_enter Try.func17, Try.ntmps17
    go_wp2_with fail
    refine (Check_c n L v _ hN).mono ?_
    rintro e w1 ⟨rfl, hb1⟩
    rw [hck]
    go_wp2_with fail
    go_ret2
    exact encPost_no hno.out (hB1.trans (hb1.mono hsz))
  · have hck := checkNo_t hv
    have HV := hid ((validNet_iff _).1 hv)
    have hcv := conv_bytes
    have hmf := make_func
    go_enter Try.func17, Try.ntmps17
    go_wp2_with fail
    refine (Check_c n L v _ hN).mono ?_
    rintro e w1 ⟨rfl, hb1⟩
    rw [hck]
    have hBa := hB1.trans (hb1.mono hsz)
    have hxa := hx.below hb1
    have hNa := hN.below hb1
    clear hB1 hx hN hb1 hsz
    have hlt : w.heap.size < w1.heap.size := cell_lt hxa.n
    have hs1 : w.heap.size ≤ w1.heap.size := hBa.size
    have hn0 : 0 ≤ n ∧ n ≤ 128 ∧ 1 ≤ L.length ∧ L.length ≤ 65536 := HV.out.1
    obtain ⟨xn, xl⟩ := hxa
    obtain ⟨nn, rfl⟩ : ∃ nn : Nat, n = (nn : Int) := ⟨n.toNat, by omega⟩
    have hHL := headOf_len ⟨(nn : Int), L⟩ (by show (nn : Int).toNat < _; omega) (by show L.length < _; omega)
    obtain ⟨p, c, rfl, hN0⟩ := hNa
    obtain ⟨b, off, rfl, hN⟩ := hN0.resolve_left (by intro e; rw [e] at hn0; simp at hn0)
    clear hN0
    have HN := hid hN
    have HF := hid HV.out.2
    clear hN hck HV
    go_wp2_with fail
    have hW2 := wr_start w1 (4, 5)
    have hB2 : Below w1.heap.size w1 ((w1.alloc (.cells #[.int .u8 67, .int .u8 78, .int .u8 69, .int .u8 84] 5 (4, 5))).alloc (.cells #[.slice (some ⟨w1.heap.size, 0, none⟩) 4 4] 51)) := ((Below.refl _ w1).alloc (Nat.le_refl _) _).alloc (by simp) _
    generalize (w1.alloc (.cells #[.int .u8 67, .int .u8 78, .int .u8 69, .int .u8 84] 5 (4, 5))).alloc (.cells #[.slice (some ⟨w1.heap.size, 0, none⟩) 4 4] 51) = w2 at *
    refine (number_c nn (by omega) w1.heap.size (w1.heap.size + 1) magic w2 hW2 (by decide) hB2.size).mono ?_
    rintro e w3 ⟨rfl, hW3, hb3, _⟩
    have hB3 := hB2.trans hb3
    clear hW2 hB2 hb3
    have hl3 : (magic ++ encNum nn).length ≤ 70368744177664 := by have := encNum10 (n := nn) (by omega); simp [magic]; omega
    have yl := (hB3.cell (p := ⟨w.heap.size, 1, none⟩) hlt).trans xl
    go_wp2_with fail
    refine (number_c L.length (by omega) w1.heap.size (w1.heap.size + 1) _ w3 hW3 hl3 hB3.size).mono ?_
    rintro e w4 ⟨rfl, hW4, hb4, _⟩
    have hB4 := hB3.trans hb4
    clear hb4
    rw [show magic ++ encNum nn ++ encNum L.length = upTo ⟨(nn : Int), L⟩ 0 from by rw [upTo_zero]; unfold headOf; simp] at hW4
    clear hW3 hB3 yl xn hl3
    replace xl := (hB4.cell (p := ⟨w.heap.size, 1, none⟩) hlt).trans xl
    have hs4 := hB4.size
    go_wp2_with fail
    have HP : Hid (∀ W' : World, Below w1.heap.size w1 W' → Below w.heap.size w W') := hid fun W' h => hBa.trans (h.mono hs1)
    have hl4 : (upTo ⟨(nn : Int), L⟩ 0).length ≤ 200000000 := by rw [upTo_zero]; omega
    go_loopw [33] (fun j wr => ∃ k : Nat, k ≤ L.length ∧ j = .int .i64 k ∧ Wr wr w1.heap.size (w1.heap.size + 1) (upTo ⟨(nn : Int), L⟩ k) ∧ Below w1.heap.size w1 wr ∧ (upTo ⟨(nn : Int), L⟩ k).length ≤ 200000000) (fun j _ => L.length - (intOf j).toNat)
    case atStart => exact ⟨0, Nat.zero_le _, rfl, hW4, hB4, hl4⟩
    case round =>
      clear hW4 hB4 xl hs4 hl4 hBa hHL
      obtain ⟨k, hk, rfl, hW, hB, hlen⟩ := hrel
      have hsr := hB.size
      by_cases hlt2 : k < L.length
      · obtain ⟨u, hu⟩ := HN.out k hlt2
        have hu' := hu.below hB
        have d0 := hu'.kind
        have d1 := hu'.lit
        have d2 := hu'.ins
        have hI := hu'.ints
        have hil := hu'.len
        have hfm : formed L[k] (nn : Int) k = true := HF.out k hlt2 hlt2
        have z1 : (0 : Int) ≤ (k : Int) ∧ (k : Int) < (L.length : Int) := by omega
        have HS := hid (upTo_succ ⟨(nn : Int), L⟩ k hlt2)
        have HU := hid (fun h => upTo_long (x := ⟨(nn : Int), L⟩) (k := k) hlt2 hfm h)
        have HV := hid hfm
        have HNL := hid (node_len_le (i := k) (by omega) hfm)
        have HI1 := hid hu.ints
        clear hu hu' hfm
        change Hid (upTo ⟨(nn : Int), L⟩ (k + 1) = upTo ⟨(nn : Int), L⟩ k ++ encNode k L[k]) at HS
        change Hid (16777216 < (upTo ⟨(nn : Int), L⟩ k).length + L[k].ins.length → 16777216 < (encodeOf ⟨(nn : Int), L⟩).length) at HU
        generalize hlk : upTo ⟨(nn : Int), L⟩ k = lk at *
        generalize hxx : L[k] = x at *
        obtain ⟨xk, xl, xi⟩ := x
        have hI0 := hI
        obtain ⟨p2, c2, e2, _⟩ := hI0
        subst e2
        have hil : xi.length ≤ 140737488355328 := hil
        have hWa := hW
        obtain ⟨bv, hbx, hbr, _⟩ := hWa
        obtain ⟨p3, c3, e3, _⟩ := hbr.bytes
        subst e3
        have y0 := hbx.cell
        have hbl := hbx.lt
        have hz : IntKind.i64.wrap ((lk.length : Int) + (xi.length : Int)) = (lk.length : Int) + (xi.length : Int) := IntWalk.i64_in _ (by omega)
        have hW5 := hW.later ((Below.refl _ wr).alloc (Nat.le_refl _) (.cells #[.int .i64 xk, .int .i64 xl, .slice p2 xi.length c2] 46))
        have hB5 := hB.alloc hsr (.cells #[.int .i64 xk, .int .i64 xl, .slice p2 xi.length c2] 46)
        have HB5 := hid hB5
        have HW5 := hid hW5
        clear hW hI hB5 hW5
        by_cases hgt : 16777216 < lk.length + xi.length
        · have hg1 : decide ((16777216 : Int) < (lk.length : Int) + (xi.length : Int)) = true := decide_eq_true (by omega)
          have hno := hid (enc_long (x := ⟨(nn : Int), L⟩) hv (HU.out hgt))
          clear HS HV HNL hgt
          go_wp2_with fail
          go_quiet (fail)
          go_wp2_with fail
          go_ret2
          exact encPost_no hno.out (HP.out _ (below_drewN HB5.out _))
        · have hg1 : decide ((16777216 : Int) < (lk.length : Int) + (xi.length : Int)) = false := decide_eq_false (by omega)
          go_wp2_with fail
          go_quiet (fail)
          go_wp2_with fail
          refine (wnode_c k (by omega) xk xl xi _ (nn : Int) HV.out w1.heap.size (w1.heap.size + 1) lk _ (HW5.out.later (below_drewN (Below.refl _ _) _)) (fun W' h => HI1.out.below ((below_drewN HB5.out _).trans h)) (by omega) (by have := HB5.out.size; simp at this ⊢; omega)).mono ?_
          rintro e w6 ⟨rfl, hW6, hB6, _⟩
          rw [← HS.out] at hW6
          have hB7 := (below_drewN HB5.out _).trans hB6
          have hl7 : (upTo ⟨(nn : Int), L⟩ (k + 1)).length ≤ 200000000 := by
            have h1 := HNL.out (show xi.length < 9223372036854775808 by omega)
            have h2 : (encNode k ⟨xk, xl, xi⟩).length ≤ 20 + 10 * xi.length := h1
            rw [HS.out, List.length_append]; omega
          clear HB5 HW5 hB6 d0 d1 d2 hB hz hlen
          go_wp2_with fail
          go_roundw
          case rel => exact ⟨k + 1, by omega, by go_num, hW6, hB7, hl7⟩
          case measure => simp [intOf]; omega
      · obtain rfl : k = L.length := by omega
        have hup := upTo_all ⟨(nn : Int), L⟩
        change upTo ⟨(nn : Int), L⟩ L.length = _ at hup
        rw [hup] at hW hlen
        clear hup
        generalize hbody : bodyOf ⟨(nn : Int), L⟩ = bo at *
        obtain ⟨bv, hbx, hbr, hbp⟩ := hW
        have hby := hbr.bytes
        have hby2 := hby
        obtain ⟨p3, c3, e3, _⟩ := hby2
        subst e3
        have y0 := hbx.cell
        have hbl := hbx.lt
        go_wp2_with fail
        refine (Sum_c _ bo _ hby (by omega)).mono ?_
        rintro e w6 ⟨rfl, rfl⟩
        have hwk := hid (le32_walk (crc bo))
        have hsl : (encodeOf ⟨(nn : Int), L⟩).length = bo.length + 4 := by unfold encodeOf; rw [sealOf_length, hbody]
        have HC : Hid (sealOf bo = bo ++ le32 (crc bo)) := rfl
        generalize crc bo = cs at *
        by_cases hgt : 16777216 < bo.length + 4
        · have hno := hid (enc_long (x := ⟨(nn : Int), L⟩) hv (by rw [hsl]; exact hgt))
          have hg1 : decide ((16777216 : Int) < (bo.length : Int) + 4) = true := decide_eq_true (by omega)
          clear hbody hsl HF HN
          go_wp2_with (at_builtin; refine wpList_append_row rfl _ _ rfl w1.heap.size _ bo rfl (hbr.alloc _) ⟨wr.heap.size, 0, none⟩ 4 4 [.int .u8 ((cs.toNat : Int) % 256), .int .u8 ((cs.toNat : Int) / 256 % 256), .int .u8 ((cs.toNat : Int) / 65536 % 256), .int .u8 ((cs.toNat : Int) / 16777216)] rfl rfl (World.news_of_block (heap_alloc_new _ _)) (by simp [Value.oneCell']) (by omega) (by omega) (by simp; omega) ?_; intro v' w7 hown' hgrow; obtain ⟨g', cap', rfl⟩ := ownsRow_four hown'; obtain ⟨hv1, hv2, hr2, hb2⟩ := Boxed.appendedR hbx (by decide) hbr hsr hbp hown' hgrow; have hc1 := hv1.cell; have hf1 := hv1.frozen; have HB2 := hid hb2; clear hb2 hgrow hown' hbr hby y0 hbx)
          go_ret2
          exact encPost_no hno.out (HP.out _ (hB.trans HB2.out))
        · have hg1 : decide ((16777216 : Int) < (bo.length : Int) + 4) = false := decide_eq_false (by omega)
          have hgood := hid (enc_good (x := ⟨(nn : Int), L⟩) hv (by rw [hsl]; exact hgt))
          have HBO := hid hbody
          have HSL := hid hsl
          clear hbody hsl HF HN
          go_wp2_with (at_builtin; refine wpList_append_row rfl _ _ rfl w1.heap.size _ bo rfl (hbr.alloc _) ⟨wr.heap.size, 0, none⟩ 4 4 [.int .u8 ((cs.toNat : Int) % 256), .int .u8 ((cs.toNat : Int) / 256 % 256), .int .u8 ((cs.toNat : Int) / 65536 % 256), .int .u8 ((cs.toNat : Int) / 16777216)] rfl rfl (World.news_of_block (heap_alloc_new _ _)) (by simp [Value.oneCell']) (by omega) (by omega) (by simp; omega) ?_; intro v' w7 hown' hgrow; obtain ⟨g', cap', rfl⟩ := ownsRow_four hown'; obtain ⟨hv1, hv2, hr2, hb2⟩ := Boxed.appendedR hbx (by decide) hbr hsr hbp hown' hgrow; have hc1 := hv1.cell; have hf1 := hv1.frozen; have HB2 := hid hb2; clear hb2 hgrow hown' hbr hby y0 hbx)
          refine (Clip_c g' (bo.length + 4) cap' (row_room hr2).1 (row_room hr2).2 _).mono ?_
          rintro e w8 ⟨rfl, rfl⟩
          go_wp2_with fail
          go_ret2
          have hlen4 : (sealOf bo).length = bo.length + 4 := sealOf_length bo
          rw [← hwk.out, ← List.map_append, ← HC.out, ← hlen4] at hr2
          have hown := (own_of_row (ownsRow_base hr2 hs1)).1
          rw [hlen4] at hown
          exact encPost_yes (by rw [hgood.out.1, hgood.out.2, HBO.out]; exact ⟨rfl, rfl⟩) hown (HP.out _ (hB.trans HB2.out))
end Go.Proofs.Ytkfmblpcfgdgpaa
