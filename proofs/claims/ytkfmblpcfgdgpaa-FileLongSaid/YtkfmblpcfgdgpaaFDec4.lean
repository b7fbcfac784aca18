/- Walks: Decode, behind the first test. -/
import Derived.Test.YtkfmblpcfgdgpaaFDec3
import Derived.Test.YtkfmblpcfgdgpaaTake
namespace Go.Proofs.Ytkfmblpcfgdgpaa
open Go.RowKit

theorem Outs.below {w w' : World} {pn pe : Nat} {n e : Int} {v : Value} (h : Outs w pn pe n v e) (hb : Below w.heap.size w w') : Outs w' pn pe n v e :=
  ⟨(hb.block _ (box_lt h.n)).trans h.n, (hb.block _ (box_lt h.e)).trans h.e⟩
theorem Rdr.other {B : Nat} {w w' : World} {pa pb : Nat} {v : Value} {l : List UInt8} {a k : Nat} (h : Rdr B w pa pb v l a) (hg : w.grownBy w' (some k)) (h1 : k ≠ pa) (h2 : k ≠ pb) (h3 : ∀ x n c, v = .slice (some x) n c → x.block ≠ k) : Rdr B w' pa pb v l a :=
  ⟨h.bytes.kept hg (fun x n c e1 e2 => h3 x n c e1 (by simpa using e2)), h.at_.kept hg (by simpa using Ne.symm h1), h.b.kept hg (by simpa using Ne.symm h2), h.ne, h.far, h.le, h.len, h.la, h.lb⟩
theorem Outs.kept {w w' : World} {pn pe : Nat} {n e : Int} {v : Value} {row : Option Nat} (h : Outs w pn pe n v e) (hg : w.grownBy w' row) (h1 : some pn ≠ row) (h2 : some pe ≠ row) : Outs w' pn pe n v e :=
  ⟨(hg.block _ (box_lt h.n) h1).trans h.n, (hg.block _ (box_lt h.e) h2).trans h.e⟩
theorem Outs.setN {w : World} {pn pe : Nat} {n e : Int} {v : Value} (h : Outs w pn pe n v e) (hne : pn ≠ pe) (n' : Int) : Outs (w.setCell ⟨pn, 0, none⟩ (.int .i64 n')) pn pe n' v e := by
  refine ⟨?_, ?_⟩
  · simpa using block_set h.n (.int .i64 n') 0
  · exact (Below.heap_setCell _ _ _ _ (by exact Ne.symm hne)).trans h.e
theorem Outs.setL {w : World} {pn pe : Nat} {n e : Int} {v : Value} (h : Outs w pn pe n v e) (hne : pn ≠ pe) (v' : Value) : Outs (w.setCell ⟨pn, 1, none⟩ v') pn pe n v' e := by
  refine ⟨?_, ?_⟩
  · simpa using block_set h.n v' 1
  · exact (Below.heap_setCell _ _ _ _ (by exact Ne.symm hne)).trans h.e
theorem Outs.setE {w : World} {pn pe : Nat} {n e : Int} {v : Value} (h : Outs w pn pe n v e) (hne : pn ≠ pe) (e' : Int) : Outs (w.setCell ⟨pe, 0, none⟩ (.int .i64 e')) pn pe n v e' :=
  ⟨(Below.heap_setCell _ _ _ _ (by exact hne)).trans h.n, h.e.set _⟩
/-- What stands in a round of Decode. -/
structure DecSt (w wr : World) (B pn pe pa pb : Nat) (vb : Value) (bo : List UInt8) (nn m a0 j aj : Nat) (v : Value) (L : List NodeT) (vs : List Value) : Prop where
  outs : Outs wr pn pe (nn : Int) v 0
  own : OwnNodes wr B v L vs
  len : L.length = j
  rdr : Rdr B wr pa pb vb bo aj
  low : Below w.heap.size w wr
  sz : B ≤ wr.heap.size
  says : rdNodes 0 m (bo.drop a0) = prepN L (rdNodes j (m - j) (bo.drop aj))
theorem info_node : (Try.prog.info? 46).map (fun i => (i.zero, i.size, i.bytes)) = some (some (.agg #[.int .i64 0, .int .i64 0, .slice none 0 0]), 3, 40) := by kernel_rfl
theorem bodyRes_no {body b1 b2 : List UInt8} {n m : Nat} (h1 : rd 128 0 0 (body.drop 4) = some (n, b1)) (h2 : rd 65536 0 0 b1 = some (m, b2)) (h3 : rdNodes 0 m b2 = none) : bodyRes body = none := by rw [bodyRes_nodes h1 h2, h3]
/-- A post whose panic hangs on the results' slots alone. -/
def PQ (Q : Exit → Act → World → Prop) (x y : Value) (D : List Deferred) (G : World → Prop) : Exit → Act → World → Prop
  | .panic c, a, w => c = wrongs ∧ a.tmps.getD 2 undef = x ∧ a.tmps.getD 3 undef = y ∧ a.defers = D ∧ G w
  | e, a, w => Q e a w
theorem PQ_normal {Q : Exit → Act → World → Prop} {x y : Value} {D : List Deferred} {G : World → Prop} {a : Act} {w : World} (h : Q .normal a w) : PQ Q x y D G .normal a w := h
theorem PQ_put {Q : Exit → Act → World → Prop} {x y : Value} {D : List Deferred} {G : World → Prop} {k : Nat} {v : Value} (h2 : k ≠ 2) (h3 : k ≠ 3) (c : List PanicEntry) (a : Act) (w : World) (h : PQ Q x y D G (.panic c) (a.put (some k) v) w) : PQ Q x y D G (.panic c) a w := by
  obtain ⟨e1, e2, e3, e4, e5⟩ := h
  refine ⟨e1, ?_, ?_, e4, e5⟩
  · rw [← e2]; simp [Act.put, Array.getElem?_setIfInBounds_ne h2]
  · rw [← e3]; simp [Act.put, Array.getElem?_setIfInBounds_ne h3]
theorem wp_PQ {P : Program} {c : Code} {Q : Exit → Act → World → Prop} {x y : Value} {D : List Deferred} {G : World → Prop} {a : Act} {w : World} (hq : ∀ a w, a.tmps.getD 2 undef = x → a.tmps.getD 3 undef = y → a.defers = D → G w → Q (.panic wrongs) a w) (h : c.wp P (PQ Q x y D G) a w) : c.wp P Q a w :=
  Code.wp_mono (fun e a w he => by
    cases e with
    | panic ch =>
      obtain ⟨e1, e2, e3, e4, e5⟩ := he
      subst e1
      exact hq a w e2 e3 e4 e5
    | normal => exact he
    | exit id => exact he
    | goto l => exact he
    | ret => exact he
    | outgrown => exact he) h
/-- What the reader's panic leaves. -/
def Dead (l : List UInt8) (w : World) (pn pe : Nat) (w' : World) : Prop := ∃ n v, Outs w' pn pe n v 0 ∧ DecPost l w (.returned (.tuple #[.agg #[.int .i64 0, .slice none 0 0], .int .i64 5])) (failed w' pn pe 5)
set_option maxRecDepth 100000 in
set_option maxHeartbeats 4000000 in
theorem Decode_go (p : Option Addr) (c : Nat) (l : List UInt8) (w : World) (hI : BytesAt w (.slice p l.length c) l) (hc : l.length ≤ c) (_hcm : c ≤ 9223372036854775807) (h0 : beginsNo l = 0) :
    Calls Try.prog 20 #[.slice p l.length c] w (DecPost l w) := by
  have hB0 : Below w.heap.size w ((w.alloc (.cells #[.int .i64 0, .slice none 0 0] 24)).alloc (.cells #[.int .i64 0] 29)) := ((Below.refl _ w).alloc (Nat.le_refl _) _).alloc (by simp) _
  have hO := outs_new w
  obtain ⟨b1, b2, b3⟩ := beginsNo_zero.1 h0
  have hlm : l.length ≤ 16777216 := b1
  have q := begins_c _ l _ (hI.below hB0) ⟨p, _, c, rfl, hc⟩ (by omega)
  rw [h0] at q
  have H0 := hid h0
  obtain ⟨k4, hk4⟩ : ∃ k4, l.length = k4 + 4 := ⟨l.length - 4, by omega⟩
  have hbody : l.length - 4 = k4 := by omega
  obtain ⟨b, off, rfl⟩ : ∃ b off, p = some ⟨b, off, none⟩ := by
    obtain ⟨p', c', e, hp⟩ := hI
    injection e with e1 _ _
    obtain ⟨b, off, e2, _⟩ := hp.resolve_left (by intro e; rw [e] at b2; simp at b2)
    exact ⟨b, off, e1.trans e2⟩
  have HSI := hid (seal_iff (b := l) (by omega))
  rw [hbody] at HSI
  have hbyt := hI.take k4 c (by omega)
  have hdro := hI.drop k4 (c - k4) (by omega)
  rw [hk4, show k4 + 4 - k4 = 4 by omega] at hdro
  rw [hk4] at q
  have Q := hid q
  rw [hk4]
  have hblt : b < w.heap.size := by
    obtain ⟨p', c', e, hp⟩ := hI
    injection e with e1 _ _
    obtain ⟨b', off', e2, hcc⟩ := hp.resolve_left (by intro e; rw [e] at b2; simp at b2)
    have := cell_lt (hcc 0 (by omega))
    rw [← e1] at e2
    injection e2 with e2
    injection e2 with e3 _ _
    rw [e3]; exact this
  have hlb : (l.take k4).length = k4 := by simp; omega
  have HK := hid hbody
  have HLB := hid hlb
  have hc4 : k4 + 4 ≤ c := by omega
  have hc5 : ¬ c = k4 := by omega
  have hkm : k4 + 4 ≤ 16777216 := by omega
  have hk7 : 7 ≤ k4 := by omega
  clear q h0 hk4 hbody hlb hlm hc b1 b2 b3
  generalize hbo : l.take k4 = bo at *
  have HBO := hid hbo
  have HI := hid hI
  have HBY := hid hbyt
  have HDR := hid hdro
  clear hI hbyt hdro hbo
  go_enter_defers Try.func20, Try.ntmps20
  go_wp2_with fail
  refine Q.out.mono ?_
  rintro e w2 ⟨rfl, hb2⟩
  have hO2 := hO.below hb2
  have hB2 := hB0.trans (hb2.mono hB0.size)
  clear hO Q hb2 hB0
  have hby2 := HBY.out.below hB2
  go_wp2_with fail
  refine (Sum_c _ bo _ hby2 (by have := HLB.out; omega)).mono ?_
  rintro e w3 ⟨rfl, rfl⟩
  have hwk := le32_walk (crc bo)
  generalize hcs : crc bo = cs at *
  have HCS := hid hcs
  clear hcs
  have hb3 : Below w2.heap.size w2 (w2.alloc (.cells #[.int .u8 ((cs.toNat : Int) % 256), .int .u8 ((cs.toNat : Int) / 256 % 256), .int .u8 ((cs.toNat : Int) / 65536 % 256), .int .u8 ((cs.toNat : Int) / 16777216)] 5)) := (Below.refl _ w2).alloc (Nat.le_refl _) _
  have hle : BytesAt (w2.alloc (.cells #[.int .u8 ((cs.toNat : Int) % 256), .int .u8 ((cs.toNat : Int) / 256 % 256), .int .u8 ((cs.toNat : Int) / 65536 % 256), .int .u8 ((cs.toNat : Int) / 16777216)] 5)) (.slice (some ⟨w2.heap.size, 0, none⟩) 4 4) (le32 cs) := bytes_of_take (l := le32 cs) (heap_alloc_new w2 _) hwk.symm
  have E := Equal_c _ _ _ _ _ ((HDR.out.below hB2).below hb3) hle
  have hO3 := hO2.below hb3
  have hB3 := hB2.trans (hb3.mono hB2.size)
  have HE := hid E
  clear E hle hb3 hwk hby2
  go_wp2_with fail
  refine HE.out.mono ?_
  rintro e w4 ⟨rfl, rfl⟩
  clear HE
  generalize w2.alloc (.cells #[.int .u8 ((cs.toNat : Int) % 256), .int .u8 ((cs.toNat : Int) / 256 % 256), .int .u8 ((cs.toNat : Int) / 65536 % 256), .int .u8 ((cs.toNat : Int) / 16777216)] 5) = w3 at *
  by_cases heq : l.drop k4 = le32 cs
  · rw [decide_eq_true heq]
    have hsl : sealOf (l.take (l.length - 4)) = l := by
      rw [HK.out, HBO.out]; exact HSI.out.2 (by rw [heq, ← HCS.out])
    have HSL := hid hsl
    clear heq hsl hO2 hB2
    have HBODY : Hid (∀ x, bodyRes bo = x → bodyRes (l.take (l.length - 4)) = x) := hid (fun x hx => by rw [HK.out, HBO.out]; exact hx)
    go_wp2_with fail
    refine (numbers_c _ _ _ 4 w3).mono ?_
    rintro e w4 ⟨rfl, hw4⟩
    have hb4 : Below w3.heap.size w3 w4 := by
      rw [hw4]; exact ((Below.refl _ w3).alloc (Nat.le_refl _) _).alloc (by simp) _
    have hr4 : Rdr w4.heap.size w4 (w3.heap.size + 1) w3.heap.size (.slice (some ⟨b, off, none⟩) k4 c) bo 4 := by
      have hbw : b < w3.heap.size := by have := hB3.size; omega
      have hsz : w4.heap.size = w3.heap.size + 2 := by rw [hw4]; simp
      refine ⟨(HBY.out.below hB3).below hb4, ?_, ?_, by omega, fun x n c' e => ?_, by rw [HLB.out]; omega, by rw [HLB.out]; omega, by omega, by omega⟩
      · rw [hw4]
        have := Boxed.new (w3.alloc (.cells #[.slice (some ⟨b, off, none⟩) k4 c] 28)) 3 (.int .i64 ((4 : Nat) : Int))
        rw [World.size_alloc] at this; exact this
      · rw [hw4]
        exact (Boxed.new w3 28 (.slice (some ⟨b, off, none⟩) k4 c)).alloc _
      · injection e with e1 _ _
        injection e1 with e1
        subst e1
        exact ⟨by show b ≠ w3.heap.size + 1; omega, by show b < w4.heap.size; omega⟩
    have hO4 := hO3.below hb4
    have hB4 := hB3.trans (hb4.mono hB3.size)
    have hsz3 : w.heap.size + 1 < w3.heap.size := box_lt hO3.e
    have hsz4 : w4.heap.size = w3.heap.size + 2 := by rw [hw4]; simp
    clear hw4 hb4 hO3 hB3
    generalize hpa : w3.heap.size + 1 = pa at *
    have hpa3 : pa < w4.heap.size := by omega
    have hpaw : w.heap.size + 2 < pa := by omega
    have hne : w.heap.size ≠ pa := by omega
    have hne2 : w.heap.size + 1 ≠ pa := by omega
    have hpb : w3.heap.size = pa - 1 := by omega
    have HPB := hid hpb
    clear hpb hpa hsz4
    go_wp2_with fail
    cases h1 : rd 128 0 0 (bo.drop 4) with
    | none =>
      refine (next_none (by omega) hr4 h1).mono ?_
      rintro e w5 ⟨rfl, a', hat5⟩
      have hO5 : Outs w5 w.heap.size (w.heap.size + 1) 0 (.slice none 0 0) 0 := ⟨(hat5.2.block _ (box_lt hO4.n) (by simpa using hne)).trans hO4.n, (hat5.2.block _ (box_lt hO4.e) (by simpa using hne2)).trans hO4.e⟩
      have hB5 := hB4.grown hat5.2 hB4.size (fun k e => by injection e with e; omega)
      exact dec_out2 rfl rfl (by omega) hO5 (decPost_no (dec_form H0.out HSL.out (HBODY.out _ (bodyRes_none0 h1))) (hB5.trans (below_failed (Nat.le_refl _) (by omega) 5)))
    | some q1 =>
      obtain ⟨nn, r1⟩ := q1
      refine (next_some (by omega) hr4 h1).mono ?_
      rintro e w5 ⟨rfl, a5, rfl, ha5, hal5, hat5⟩
      have hr5 := hr4.next hat5 hal5
      have hO5 : Outs w5 w.heap.size (w.heap.size + 1) 0 (.slice none 0 0) 0 := ⟨(hat5.2.block _ (box_lt hO4.n) (by simpa using hne)).trans hO4.n, (hat5.2.block _ (box_lt hO4.e) (by simpa using hne2)).trans hO4.e⟩
      have hB5 := hB4.grown hat5.2 hB4.size (fun k e => by injection e with e; omega)
      have hsz5 := hat5.2.size
      obtain ⟨⟨c0, c1⟩, f0, f1⟩ := box2 hO5.n
      have H1 := hid h1
      clear h1 hat5 hO4 hr4
      have hO5' := hO5.setN (by omega) (nn : Int)
      have hbw : b ≠ w.heap.size := by omega
      have hr5' : Rdr w4.heap.size (w5.setCell ⟨w.heap.size, 0, none⟩ (.int .i64 (nn : Int))) pa w3.heap.size (.slice (some ⟨b, off, none⟩) k4 c) bo a5 :=
        hr5.other (grownBy_set w5 w.heap.size 0 _) hne (by omega) (fun x n c' e => by injection e with e1 _ _; injection e1 with e1; subst e1; exact hbw)
      have hB5' := hB5.setCell (p := ⟨w.heap.size, 0, none⟩) (Nat.le_refl _) (.int .i64 (nn : Int))
      have hsz5' : w4.heap.size ≤ (w5.setCell ⟨w.heap.size, 0, none⟩ (.int .i64 (nn : Int))).heap.size := by simpa [World.setCell] using hsz5
      clear hr5 hB5 hO5 hsz5
      go_wp2_with fail
      clear c0 c1 f0 f1
      generalize w5.setCell ⟨w.heap.size, 0, none⟩ (.int .i64 (nn : Int)) = w6 at *
      cases h2 : rd 65536 0 0 (bo.drop a5) with
      | none =>
        refine (next_none (by omega) hr5' h2).mono ?_
        rintro e w7 ⟨rfl, a', hat7⟩
        have hO7 := hO5'.kept hat7.2 (by simpa using hne) (by simpa using hne2)
        have hB7 := hB5'.grown hat7.2 hB5'.size (fun k e => by injection e with e; omega)
        exact dec_out2 rfl rfl (by omega) hO7 (decPost_no (dec_form H0.out HSL.out (HBODY.out _ (bodyRes_none H1.out h2))) (hB7.trans (below_failed (Nat.le_refl _) (by omega) 5)))
      | some q2 =>
        obtain ⟨m, r2⟩ := q2
        have hmm := (num_rd h2).2
        refine (next_some (by omega) hr5' h2).mono ?_
        rintro e w7 ⟨rfl, a7, rfl, ha7, hal7, hat7⟩
        have hst : DecSt w w7 w4.heap.size w.heap.size (w.heap.size + 1) pa w3.heap.size (.slice (some ⟨b, off, none⟩) k4 c) bo nn m a7 0 a7 (.slice none 0 0) [] [] :=
          ⟨hO5'.kept hat7.2 (by simpa using hne) (by simpa using hne2), own_nodes_nil _ _, rfl, hr5'.next hat7 hal7, hB5'.grown hat7.2 hB5'.size (fun k e => by injection e with e; omega), Nat.le_trans hsz5' hat7.2.size, by
            rw [Nat.sub_zero]
            cases rdNodes 0 m (bo.drop a7) with
            | none => rfl
            | some q => rfl⟩
        have H2 := hid h2
        clear h2 hat7 hO5' hB5' hr5' hsz5'
        go_wp2_with fail
        have hBle : w.heap.size + 2 < w4.heap.size := by omega
        generalize hB4' : w4.heap.size = B at *
        have HB4' := hid hB4'
        generalize hpn : w.heap.size = pn at *
        have HPN := hid hpn
        generalize hpbb : w3.heap.size = pb at *
        have HPBB := hid hpbb
        clear hB4' hpn hpbb
        go_loopw [55] (fun jj wr => ∃ (j aj : Nat) (u : Value) (L : List NodeT) (vs : List Value), j ≤ m ∧ jj = .int .i64 j ∧ DecSt w wr B pn (pn + 1) pa pb (.slice (some ⟨b, off, none⟩) k4 c) bo nn m a7 j aj u L vs) (fun jj _ => m - (intOf jj).toNat)
        case atStart => exact ⟨0, a7, _, [], [], by omega, rfl, hst⟩
        case round =>
          clear hst
          obtain ⟨j, aj, u, L, vs, hj, rfl, st⟩ := hrel
          by_cases hlt3 : j < m
          · obtain ⟨j2, hj2⟩ : ∃ j2, m - j = j2 + 1 := ⟨m - j - 1, by omega⟩
            have hjm : m - (j + 1) = j2 := by omega
            have HJ := hid hj2
            have HJM := hid hjm
            clear hj2 hjm
            have hbel : Below wr.heap.size wr wr.drew := (Below.refl _ wr).drew
            have hrd := (st.rdr.below hbel).mono (B' := wr.drew.heap.size) st.sz
            obtain ⟨⟨c0, c1⟩, f0, f1⟩ := box2 st.outs.n
            obtain ⟨p9, c9, hu9, hdrop⟩ := st.own.nodes
            clear hdrop
            have z1 : wr.drew.cell? ⟨pn, 1, none⟩ = some u := c1
            obtain ⟨i0, hi0, hz0, hz1, hz2⟩ := info_parts info_node
            go_wp2_with fail
            refine wp_PQ (x := .pointer (some ⟨pn, 0, none⟩)) (y := .pointer (some ⟨pn + 1, 0, none⟩)) (D := [{ target := .fn (.func 38) #[.pointer (some ⟨pn, 0, none⟩), .pointer (some ⟨pn + 1, 0, none⟩)], args := #[] }]) (G := Dead l w pn (pn + 1)) (fun a w' e2 e3 e4 ⟨n', v', hO, hD⟩ => by obtain ⟨ts, ds⟩ := a; cases e4; exact dec_out2 e2 e3 (by omega) hO hD) ?_
            refine Go.Proofs.Ytkfmblpcfgdgpaa.wp_region_L 9 6 (fun w' => w'.cell? ⟨pn, 1, none⟩ = some u) (by kernel_rfl) rfl z1 (fun hS => ?_)
            refine wpAnyL_pure (i := 0) (v := .pointer (some ⟨pn, 1, none⟩)) (by simp only [List.getElem?_toArray, List.getElem?_cons_zero] <;> rfl) (by kernel_rfl) (by kernel_rfl) (by kernel_rfl) (by exact PQ_put (by decide) (by decide)) (by decide) hS (Or.inl ⟨by rfl, fun w _ => (by simp [execOp, go_sem, Act.eval])⟩) (fun hS => ?_)
            simp only [Act.put, List.setIfInBounds_toArray, List.set_cons_zero, List.set_cons_succ]
            refine wpAnyL_load (i := 1) (v := u) (by simp only [List.getElem?_toArray, List.getElem?_cons_zero, List.getElem?_cons_succ] <;> rfl) (by kernel_rfl) (by kernel_rfl) (by kernel_rfl) (by exact PQ_put (by decide) (by decide)) (by decide) ⟨_, rfl, ⟨1, .data⟩, by simp, rfl, rfl⟩ (by kernel_rfl) hS (Or.inl ⟨by rfl, fun w hw => (by have hw : w.cell? ⟨pn, 1, none⟩ = some u := hw; simp [execOp, go_sem, Act.eval, hw])⟩) (fun hS => ?_)
            simp only [Act.put, List.setIfInBounds_toArray, List.set_cons_zero, List.set_cons_succ]
            refine wpAnyL_pure (i := 2) (v := .func (.func 49) #[] #[.pointer (some ⟨pa, 0, none⟩), .pointer (some ⟨pb, 0, none⟩)]) (by simp only [List.getElem?_toArray, List.getElem?_cons_zero, List.getElem?_cons_succ] <;> rfl) (by kernel_rfl) (by kernel_rfl) (by kernel_rfl) (by exact PQ_put (by decide) (by decide)) (by decide) hS (Or.inl ⟨by rfl, fun w _ => (by simp [execOp, go_sem, Act.eval])⟩) (fun hS => ?_)
            simp only [Act.put, List.setIfInBounds_toArray, List.set_cons_zero, List.set_cons_succ]
            refine wpAnyL_pure (i := 3) (v := .int .i64 (j : Int)) (by simp only [List.getElem?_toArray, List.getElem?_cons_zero, List.getElem?_cons_succ] <;> rfl) (by kernel_rfl) (by kernel_rfl) (by kernel_rfl) (by exact PQ_put (by decide) (by decide)) (by decide) hS (Or.inl ⟨by rfl, fun w _ => (by simp [execOp, go_sem, Act.eval])⟩) (fun hS => ?_)
            simp only [Act.put, List.setIfInBounds_toArray, List.set_cons_zero, List.set_cons_succ]
            refine wpAnyL_one (i := 4) (by kernel_rfl) (by simp only [List.getElem?_toArray, List.getElem?_cons_zero, List.getElem?_cons_succ] <;> rfl) (by rfl) ?_
            refine opwp_call (f := 40) (args := #[.func (.func 49) #[] #[.pointer (some ⟨pa, 0, none⟩), .pointer (some ⟨pb, 0, none⟩)], .int .i64 (j : Int)]) (w' := wr.drew) (by simp [go_sem, Act.eval]) ?_
            refine (one_c j (by omega) aj pa pb _ bo wr.drew hrd).mono ?_
            intro e w8 hp
            unfold OnePost at hp
            cases hd : rdNode j (bo.drop aj) with
            | none =>
              rw [hd] at hp
              obtain ⟨a', rfl, hat8⟩ := hp
              have hsy := st.says
              rw [HJ.out, rdNodes_stop hd] at hsy
              have hO8 : Outs w8 pn (pn + 1) (nn : Int) u 0 := Outs.kept (w := wr.drew) (Outs.below st.outs hbel) hat8.2 (by simpa using hne) (by simpa using hne2)
              have hB8 : Below pn w w8 := by
                have := (HPN.out ▸ st.low : Below pn w wr)
                exact (this.drew).grown hat8.2 (by show pn ≤ wr.heap.size; have := st.sz; omega) (fun k e => by injection e with e; omega)
              refine .inr ⟨_, rfl, rfl, rfl, rfl, rfl, _, _, hO8, decPost_no (dec_form H0.out HSL.out (HBODY.out _ (bodyRes_no H1.out H2.out hsy))) ?_⟩
              rw [HPN.out]
              exact hB8.trans (below_failed (Nat.le_refl _) (by omega) 5)
            | some q =>
              obtain ⟨x, r⟩ := q
              rw [hd] at hp
              obtain ⟨a8, y, rfl, ha8, hal8, rfl, hat8, hown8⟩ := hp
              have hxi := (node_rd j _ _ _ hd).2.2.2.2.1
              have hsy := st.says
              rw [HJ.out, rdNodes_next hd, ← HJM.out] at hsy
              have HSY := hid hsy
              clear hsy hd
              obtain ⟨py, cy, rfl, hdrop⟩ := OwnInts.ints hown8
              clear hdrop
              obtain ⟨xk, xl, xi⟩ := x
              have hlL : L.length = j := st.len
              have hO8 : Outs w8 pn (pn + 1) (nn : Int) u 0 := Outs.kept (w := wr.drew) (Outs.below st.outs hbel) hat8.2 (by simpa using hne) (by simpa using hne2)
              have hown8' : OwnNodes w8 B u L vs := (OwnNodes.below st.own hbel).low hat8.2 (fun k e => by injection e with e; have := st.rdr.la; omega)
              have c8 := (box2 hO8.n).1.2
              have hsz8 : B ≤ w8.heap.size := Nat.le_trans st.sz hat8.2.size
              have hpn8 : pn < w8.heap.size := box_lt hO8.n
              have hr8 : Rdr B w8 pa pb (.slice (some ⟨b, off, none⟩) k4 c) bo a8 := (st.rdr.below hbel).next hat8 hal8
              have hlow8 : Below pn w w8 := by
                have := (HPN.out ▸ st.low : Below pn w wr)
                exact (this.drew).grown hat8.2 (by show pn ≤ wr.heap.size; have := st.sz; omega) (fun k e => by injection e with e; omega)
              have huo : ∀ k, u.ownBlock = some k → B ≤ k := fun k e => (World.ownsRow.lt hown8'.row k e).1
              refine .inl ⟨_, rfl, .inr c8, ?_⟩
              simp only [Act.put, List.setIfInBounds_toArray, List.set_cons_zero, List.set_cons_succ]
              refine wpAnyL_one (i := 5) (by kernel_rfl) (by simp only [List.getElem?_toArray, List.getElem?_cons_zero, List.getElem?_cons_succ] <;> rfl) (by rfl) ?_
              have c9' : (w8.alloc (.cells #[.int .i64 xk, .int .i64 xl, .slice py xi.length cy] 46)).cell? ⟨pn, 1, none⟩ = some u := by
                rw [World.cell?_alloc_lt w8 _ ⟨pn, 1, none⟩ hpn8]; exact c8
              refine opwp_value (v := .slice (some ⟨w8.heap.size, 0, none⟩) 1 1) (w' := w8.alloc (.cells #[.int .i64 xk, .int .i64 xl, .slice py xi.length cy] 46)) (by simp [execOp, go_sem, Act.eval, encN]) ⟨.inr c9', ?_⟩
              simp only [Act.put, List.setIfInBounds_toArray, List.set_cons_zero, List.set_cons_succ]
              refine wpAnyL_one (i := 6) (by kernel_rfl) (by simp only [List.getElem?_toArray, List.getElem?_cons_zero, List.getElem?_cons_succ] <;> rfl) (by rfl) ?_
              refine wp_append_lies _ _ _ 22 rfl B 46 i0 (.agg #[.int .i64 0, .int .i64 0, .slice none 0 0]) 3 40 Try.underlying22 hi0 hz0 hz1 hz2 rfl (by decide) u L.length (nodeCells L vs) rfl (hown8'.row.alloc _) ⟨w8.heap.size, 0, none⟩ 1 1 [.int .i64 xk, .int .i64 xl, .slice py xi.length cy] rfl (by simp) (World.news_of_block (heap_alloc_new _ _)) (by simp [Value.oneCell']) (by omega) (by unfold maxLen; omega) (by omega) (by simp; omega) _ rfl ?_
              intro gg cap w9 hown9 hgrow9 hat9 hlt9
              have hO9 : Outs w9 pn (pn + 1) (nn : Int) u 0 := (hO8.below ((Below.refl _ w8).alloc (Nat.le_refl _) _)).kept hgrow9 (fun e => by have := huo _ e.symm; omega) (fun e => by have := huo _ e.symm; omega)
              have hn9 : OwnNodes w9 B (.slice (some ⟨gg, 0, none⟩) (L.length + 1) cap) (L ++ [⟨xk, xl, xi⟩]) (vs ++ [.slice py xi.length cy]) :=
                OwnNodes.snoc (hown8'.below ((Below.refl _ w8).alloc (Nat.le_refl _) _)) (World.ownsRow.alloc (ownsRow_base hown8 st.sz) _) hxi hown9 hgrow9
              have hr9 : Rdr B w9 pa pb (.slice (some ⟨b, off, none⟩) k4 c) bo a8 := (hr8.below ((Below.refl _ w8).alloc (Nat.le_refl _) _)).kept hgrow9 huo
              have hlow9 : Below pn w w9 := (hlow8.alloc (by omega) _).grown hgrow9 (by simp; omega) (fun k e => by have := huo k e; omega)
              have hsz9 : B ≤ w9.heap.size := by have := hgrow9.size; simp at this; omega
              obtain ⟨⟨_, d9⟩, _, g9⟩ := box2 hO9.n
              refine ⟨.inl (by kernel_rfl), ?_⟩
              simp only [Act.put, List.setIfInBounds_toArray, List.set_cons_zero, List.set_cons_succ]
              refine wpAnyL_one (i := 7) (by kernel_rfl) (by simp only [List.getElem?_toArray, List.getElem?_cons_zero, List.getElem?_cons_succ] <;> rfl) (by rfl) ?_
              refine opwp_value (v := .pointer (some ⟨pn, 1, none⟩)) (w' := w9) (by simp [execOp, go_sem, Act.eval]) ⟨.inl (by kernel_rfl), ?_⟩
              simp only [Act.put, List.setIfInBounds_toArray, List.set_cons_zero, List.set_cons_succ]
              refine wpAnyL_one (i := 8) (by kernel_rfl) (by simp only [List.getElem?_toArray, List.getElem?_cons_zero, List.getElem?_cons_succ] <;> rfl) (by rfl) ?_
              refine opwp_skip (w' := w9.setCell ⟨pn, 1, none⟩ (.slice (some ⟨gg, 0, none⟩) (L.length + 1) cap)) (by simp [execOp, go_sem, Act.eval, d9, g9]) ⟨.inl (by kernel_rfl), ?_⟩
              simp only [Act.put]
              refine wpAnyL_done (by kernel_rfl) (PQ_normal ?_) _
              have hst9 : DecSt w (w9.setCell ⟨pn, 1, none⟩ (.slice (some ⟨gg, 0, none⟩) (L.length + 1) cap)) B pn (pn + 1) pa pb (.slice (some ⟨b, off, none⟩) k4 c) bo nn m a7 (j + 1) a8 (.slice (some ⟨gg, 0, none⟩) (L.length + 1) cap) (L ++ [⟨xk, xl, xi⟩]) (vs ++ [.slice py xi.length cy]) :=
                ⟨hO9.setL (by omega) _, hn9.low (grownBy_set w9 pn 1 _) (fun k e => by injection e with e; omega), by simp [hlL], hr9.other (grownBy_set w9 pn 1 _) (by omega) (by omega) (fun x n c' e => by injection e with e1 _ _; injection e1 with e1; subst e1; exact hbw), by rw [HPN.out]; exact hlow9.setCell (p := ⟨pn, 1, none⟩) (Nat.le_refl _) _, by simpa [World.setCell] using hsz9, HSY.out⟩
              clear hlL hlow9 hlow8 hr9 hr8 hn9 hO9 hown9 hgrow9 hat9 hlt9 d9 g9 c9' c8 hO8 hown8 hown8' huo hat8 hS hrd z1 c0 c1 f0 f1 hsz9 hsz8 hpn8
              go_wp2_with fail
              go_roundw
              case rel => exact ⟨j + 1, a8, _, _, _, by omega, by go_num, hst9⟩
              case measure => simp [intOf]; omega
          · obtain rfl : j = m := by omega
            have hs := st.says
            rw [Nat.sub_self] at hs
            have hs2 : rdNodes 0 j (bo.drop a7) = some (L, bo.drop aj) := by
              rw [hs]; show some (L ++ [], _) = _; rw [List.append_nil]
            have hBR := bodyRes_nodes H1.out H2.out
            rw [hs2] at hBR
            have HBR := hid hBR
            clear hs hs2 hBR
            obtain ⟨⟨c0, c1⟩, f0, f1⟩ := box2 st.outs.n
            have d0 := st.outs.e.cell
            have g0 := st.outs.e.frozen
            have hajl : aj ≤ k4 := by have := st.rdr.le; have := HLB.out; omega
            by_cases haj : aj = k4
            · have hq : ((aj : Int) != (k4 : Int)) = false := by simp [haj]
              have hbr : bodyRes bo = if validNet ⟨(nn : Int), L⟩ = true then some ⟨(nn : Int), L⟩ else none := by
                rw [HBR.out, haj, List.drop_eq_nil_of_le (by have := HLB.out; omega)]
              have hlowz : Below pn w wr := HPN.out ▸ st.low
              have C := Check_c (nn : Int) L u wr st.own.nodes
              have HCK := hid C
              clear C haj
              cases hv : validNet ⟨(nn : Int), L⟩
              · rw [hv] at hbr
                have HD := hid (dec_form H0.out HSL.out (HBODY.out _ (by rw [hbr]; rfl)))
                have hck := checkNo_f hv
                rw [hck] at HCK
                go_wp2_with fail
                refine (read_c pa aj _ st.rdr.at_).mono ?_
                rintro e w10 ⟨rfl, rfl⟩
                clear c0 c1 f0 f1 d0 g0
                obtain ⟨⟨c0, c1⟩, f0, f1⟩ := box2 st.outs.n
                go_wp2_with fail
                refine HCK.out.mono ?_
                rintro e w11 ⟨rfl, hb11⟩
                have hO11 := Outs.below st.outs hb11
                obtain ⟨⟨c0, c1⟩, f0, f1⟩ := box2 hO11.n
                have d0 := hO11.e.cell
                have g0 := hO11.e.frozen
                have hlow11 := hlowz.trans (hb11.mono (HPN.out ▸ hlowz.size : pn ≤ wr.heap.size))
                go_wp2_with fail
                have hO12 := hO11.failed (by omega) 5
                refine dec_out1 rfl rfl hO12 (decPost_no HD.out ?_)
                rw [HPN.out]
                exact hlow11.trans (below_failed (Nat.le_refl _) (by omega) 5)
              · rw [hv] at hbr
                have HD := hid (dec_good H0.out HSL.out (HBODY.out _ (by rw [hbr]; rfl)))
                have hck := checkNo_t hv
                rw [hck] at HCK
                go_wp2_with fail
                refine (read_c pa aj _ st.rdr.at_).mono ?_
                rintro e w10 ⟨rfl, rfl⟩
                clear c0 c1 f0 f1 d0 g0
                obtain ⟨⟨c0, c1⟩, f0, f1⟩ := box2 st.outs.n
                go_wp2_with fail
                refine HCK.out.mono ?_
                rintro e w11 ⟨rfl, hb11⟩
                have hO11 := Outs.below st.outs hb11
                have hn11 := OwnNodes.below st.own hb11
                obtain ⟨⟨c0, c1⟩, f0, f1⟩ := box2 hO11.n
                have d0 := hO11.e.cell
                have g0 := hO11.e.frozen
                have hlow11 := hlowz.trans (hb11.mono (HPN.out ▸ hlowz.size : pn ≤ wr.heap.size))
                obtain ⟨p9, c9, rfl, hdrop⟩ := hn11.nodes
                clear hdrop
                go_wp2_with fail
                have hO12 := ((hO11.setN (by omega) (nn : Int)).setL (by omega) (.slice p9 L.length c9)).setE (by omega) 0
                have hn12 := ((hn11.low (grownBy_set w11 pn 0 (.int .i64 (nn : Int))) (fun k e => by injection e with e; omega)).low (grownBy_set _ pn 1 (.slice p9 L.length c9)) (fun k e => by injection e with e; omega)).low (grownBy_set _ (pn + 1) 0 (.int .i64 0)) (fun k e => by injection e with e; omega)
                refine dec_out1 rfl rfl hO12 ⟨.slice p9 L.length c9, vs, by rw [HD.out.1, HD.out.2], by rw [HD.out.2, HPN.out]; exact hn12.mono (by omega), ?_⟩
                rw [HPN.out]
                exact hlow11.trans (((((Below.refl pn w11).setCell (p := ⟨pn, 0, none⟩) (Nat.le_refl _) _).setCell (p := ⟨pn, 1, none⟩) (Nat.le_refl _) _).setCell (p := ⟨pn + 1, 0, none⟩) (by show pn ≤ pn + 1; omega) _))
            · have hq : ((aj : Int) != (k4 : Int)) = true := by simp; omega
              have hbn : bodyRes bo = none := by
                rw [HBR.out, List.drop_eq_getElem_cons (by have := HLB.out; omega)]
              have HD := hid (dec_form H0.out HSL.out (HBODY.out _ hbn))
              have hlowz : Below pn w wr := HPN.out ▸ st.low
              go_wp2_with fail
              refine (read_c pa aj _ st.rdr.at_).mono ?_
              rintro e w10 ⟨rfl, rfl⟩
              go_wp2_with fail
              have hO10 := Outs.failed st.outs (by omega) 5
              refine dec_out1 rfl rfl hO10 (decPost_no HD.out ?_)
              rw [HPN.out]
              exact hlowz.trans (below_failed (Nat.le_refl _) (by omega) 5)
  · rw [decide_eq_false heq]
    have hsl : ¬ sealOf (l.take (l.length - 4)) = l := by
      rw [HK.out, HBO.out]; exact fun e => heq (HSI.out.1 e)
    have HD := hid (dec_sum H0.out hsl)
    clear heq hsl
    obtain ⟨⟨c0, c1⟩, f0, f1⟩ := box2 hO3.n
    have d0 := hO3.e.cell
    have g0 := hO3.e.frozen
    clear hO2 hB2
    go_wp2_with fail
    have hO5 := hO3.failed (by omega) 430
    have hB5 := hB3.trans (below_failed (Nat.le_refl w.heap.size) (by omega) 430 (w := w3) (pe := w.heap.size + 1))
    exact dec_out0 rfl rfl hO5 (decPost_no HD.out hB5)
/-- Decode, of any bytes. -/
theorem Decode_c (p : Option Addr) (c : Nat) (l : List UInt8) (w : World) (hI : BytesAt w (.slice p l.length c) l) (hc : l.length ≤ c) (hcm : c ≤ 9223372036854775807) (hl : l.length ≤ 140737488355328) :
    Calls Try.prog 20 #[.slice p l.length c] w (DecPost l w) := by
  by_cases h0 : beginsNo l = 0
  · exact Decode_go p c l w hI hc hcm h0
  · exact Decode_no p c l w hI hc hl h0
end Go.Proofs.Ytkfmblpcfgdgpaa
