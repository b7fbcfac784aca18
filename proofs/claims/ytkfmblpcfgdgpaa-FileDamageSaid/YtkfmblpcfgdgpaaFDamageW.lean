/- The walk of the law FileDamage. -/
import Derived.Test.YtkfmblpcfgdgpaaFBackW
import Derived.Test.YtkfmblpcfgdgpaaFOneW
import Derived.Test.YtkfmblpcfgdgpaaFCode5
namespace Go.Proofs.Ytkfmblpcfgdgpaa
open Go.RowKit

/-- Bytes (one at least) appended to a row: the call owns what comes of it. -/
theorem wpList_append_bytes1 {w : World} {ops : Array Oper} {rest : List Oper} {o : Oper} {a : Act} {Q : Exit → Act → World → Prop} (hgd : o.guard = none) (s x : Operand)
    (ho : o.op = .call { callee := .builtin .append, args := #[s, x], argTypes := #[28, 28] })
    (base : Nat) (v : Value) (l : List UInt8) (hs : a.eval s = v) (hrow : Row w base v l)
    (u : Value) (l2 : List UInt8) (hx : a.eval x = u) (hu : BytesAt w u l2) (hne : l2 ≠ [])
    (hlen : l.length + l2.length ≤ 140737488355328) (hbase : base ≤ w.heap.size)
    (h : ∀ g cap cur w', w'.heap[g]? = some (.cells cur 5 (0, 0)) → cur.toList.take (l ++ l2).length = (l ++ l2).map encB → (l ++ l2).length ≤ cap → cap ≤ 9223372036854775807 → cur.size = cap → base ≤ g → Below base w w' → wpList Try.prog ops Q rest (a.put o.dst (.slice (some ⟨g, 0, none⟩) (l ++ l2).length cap)) w') : wpList Try.prog ops Q (o :: rest) a w := by
  obtain ⟨p, c, rfl, hp⟩ := hu
  obtain ⟨b, off, rfl, hc⟩ := hp.resolve_left hne
  have hpos : 0 < l2.length := List.length_pos_iff.2 hne
  refine wpList_append_row hgd s x ho base v l hs hrow ⟨b, off, none⟩ l2.length c (l2.map encB) hx (by simp) (fun j y hj => ?_) (by simp [Value.oneCell']) hpos hlen hbase fun v' w' h1 h2 => ?_
  · have hlt : j < l2.length := by have := (List.getElem?_eq_some_iff.1 hj).1; simpa using this
    rw [Addr.add_lit, hc j hlt]
    rw [List.getElem?_map, List.getElem?_eq_getElem hlt] at hj
    exact hj
  · rw [← List.map_append, ← List.length_append] at h1
    rcases h1.2 with ⟨_, h0⟩ | ⟨g, cap, cur, rfl, hg, hgb, hn, hm, hs', ht⟩
    · rw [List.length_append] at h0; omega
    · exact h g cap cur w' hgb (by simpa using ht) hn (by unfold maxLen at hm; omega) (by simpa using hs') hg (hrow.grown h2 hbase)
theorem set_bytes {cur : Array Value} {l : List UInt8} (h : cur.toList.take l.length = l.map encB) (i : Nat) (b : UInt8) : (cur.setIfInBounds i (encB b)).toList.take (l.set i b).length = (l.set i b).map encB := by
  rw [List.length_set, Array.toList_setIfInBounds, List.take_set, h, List.map_set]
theorem dec_zero_add {x y : UInt8} : x + y = x ↔ y = 0 := by
  constructor
  · intro h
    have := congrArg UInt8.toNat h
    rw [UInt8.toNat_add] at this
    have h1 := x.toNat_lt
    have h2 := y.toNat_lt
    apply UInt8.toNat_inj.1
    show y.toNat = 0
    omega
  · rintro rfl; simp
/-- Decode of bytes that are no file. -/
theorem Decode_bad (p : Option Addr) (c : Nat) (l : List UInt8) (w : World) (hI : BytesAt w (.slice p l.length c) l) (hc : l.length ≤ c) (hcm : c ≤ 9223372036854775807) (hl : l.length ≤ 140737488355328) (hd : decNo l ≠ 0) :
    Calls Try.prog 20 #[.slice p l.length c] w fun e w' => ∃ en p5 c5, e = .returned (.tuple #[.agg #[.int .i64 0, .slice p5 0 c5], .int .i64 en]) ∧ ((en == 0) = false) ∧ Below w.heap.size w w' :=
  (Decode_c p c l w hI hc hcm hl).mono fun e w' ⟨v, vs, he, ho, hB⟩ => by
    rw [dec_bad hd] at he ho
    obtain ⟨p5, c5, e5, _⟩ := ho.nodes
    subst e5
    exact ⟨_, p5, c5, he, by simpa using hd, hB⟩
/-- Decode of bytes that are no file, their length in another spelling. -/
theorem Decode_bad2 (p : Option Addr) (c : Nat) (l : List UInt8) (n : Nat) (w : World) (hn : l.length = n) (hI : BytesAt w (.slice p n c) l) (hc : n ≤ c) (hcm : c ≤ 9223372036854775807) (hl : n ≤ 140737488355328) (hd : decNo l ≠ 0) :
    Calls Try.prog 20 #[.slice p n c] w fun e w' => ∃ en p5 c5, e = .returned (.tuple #[.agg #[.int .i64 0, .slice p5 0 c5], .int .i64 en]) ∧ ((en == 0) = false) ∧ Below w.heap.size w w' := by
  subst hn; exact Decode_bad p c l w hI hc hcm hl hd
set_option maxRecDepth 100000 in
set_option maxHeartbeats 8000000 in
theorem fileDamage_walk (n : Int) (L : List NodeT) (v : Value) (ai bi : Int) (p : Option Addr) (c : Nat) (l : List UInt8) (w : World) (hN : NodesIn w v L) (hl : L.length ≤ 9223372036854775807) (hat : 0 ≤ ai ∧ ai ≤ 65535) (hby : 0 ≤ bi ∧ bi ≤ 255) (hI : BytesAt w (.slice p l.length c) l) (_hc : l.length ≤ c) (_hcm : c ≤ 9223372036854775807) :
    Calls Try.prog 9 #[.agg #[.int .i64 n, v], .int .u16 ai, .int .u8 bi, .slice p l.length c] w (LawPost w) := by
  have hB1 : Below w.heap.size w (w.alloc (.cells #[.int .i64 n, v] 24)) := (Below.refl _ w).alloc (Nat.le_refl _) _
  have hx := NetVar.new w n v 24
  replace hN := hN.below hB1
  replace hI := hI.below hB1
  have HLI := hid (light_c n L v _ hN hl)
  cases hL : lightB L
  · rw [hL] at HLI
    go_enter Try.func9, Try.ntmps9
    go_wp2_with fail
    refine HLI.out.mono ?_
    rintro e w2 ⟨rfl, hb2⟩
    have hB2 := hB1.trans (hb2.mono hB1.size)
    go_wp2_with fail
    refine (works_c w2).mono ?_
    rintro e w3 ⟨rfl, hb3⟩
    have hB3 := hB2.trans (hb3.mono hB2.size)
    clear hB1 hx hN hb2 hb3 hB2
    go_wp2_with fail
    go_ret
    exact ⟨rfl, hB3⟩
  · rw [hL] at HLI
    obtain ⟨hl300, hi300⟩ := light_len hL
    have hNA := hN.nodes (fun x hx => by have := hi300 x hx; omega)
    clear hN hi300
    by_cases hgt : 100 < l.length
    · have hg : decide ((100 : Int) < (l.length : Int)) = true := decide_eq_true (by omega)
      go_enter Try.func9, Try.ntmps9
      go_wp2_with fail
      refine HLI.out.mono ?_
      rintro e w2 ⟨rfl, hb2⟩
      have hB2 := hB1.trans (hb2.mono hB1.size)
      go_wp2_with fail
      refine (works_c w2).mono ?_
      rintro e w3 ⟨rfl, hb3⟩
      have hB3 := hB2.trans (hb3.mono hB2.size)
      clear hB1 hx hb2 hb3 hB2
      go_wp2_with fail
      go_ret
      exact ⟨rfl, hB3⟩
    · have hg : decide ((100 : Int) < (l.length : Int)) = false := decide_eq_false (by omega)
      go_enter Try.func9, Try.ntmps9
      go_wp2_with fail
      refine HLI.out.mono ?_
      rintro e w2 ⟨rfl, hb2⟩
      have hB2 := hB1.trans (hb2.mono hB1.size)
      have hx2 := hx.below hb2
      have hN2 := hNA.below hb2
      have hI2 := hI.below hb2
      clear hx hNA hb2 hB1 hI
      obtain ⟨x0, x1⟩ := hx2
      go_wp2_with fail
      refine (Encode_c n L v w2 hN2).mono ?_
      rintro e w3 ⟨vb, rfl, ho3, hb3⟩
      have hB3 := hB2.trans (hb3.mono hB2.size)
      have hI3 := hI2.below hb3
      clear x0 x1 hN2 hI2 hb3 hB2
      by_cases h0 : encNo ⟨n, L⟩ = 0
      · obtain ⟨hv, hlen⟩ := encNo_zero.1 h0
        have hbe : encBytes ⟨n, L⟩ = encodeOf ⟨n, L⟩ := by unfold encBytes; rw [if_pos h0]
        rw [h0]
        rw [hbe] at ho3
        have h7 := bodyOf_length (x := ⟨n, L⟩) (valid_from.1 hv).1.2.2.1
        have hl11 : 11 ≤ (encodeOf ⟨n, L⟩).length := by
          have : (encodeOf ⟨n, L⟩).length = (bodyOf ⟨n, L⟩).length + 4 := sealOf_length _
          omega
        have hlm : (encodeOf ⟨n, L⟩).length ≤ 16777216 := hlen
        have HB := hid (fun i (hi : i < (encodeOf ⟨n, L⟩).length) b hb => damage_byte (x := ⟨n, L⟩) hv hlen (i := i) hi (b := b) hb)
        have HS := hid (fun i (hi : i < (encodeOf ⟨n, L⟩).length) => damage_short (x := ⟨n, L⟩) hv hlen hi)
        have HM := hid (fun m hm => damage_long (x := ⟨n, L⟩) hv hlen (m := m) hm)
        clear h0 hv hbe h7 hlen
        generalize encodeOf ⟨n, L⟩ = bs at *
        rcases ho3 with ⟨_, h⟩ | ⟨g, cur, rfl, hg1, hg2, hg3, hg4, hg5⟩
        · rw [h] at hl11; simp at hl11
        have hbs : BytesAt w3 (.slice (some ⟨g, 0, none⟩) bs.length bs.length) bs := bytes_of_take hg2 hg4
        clear hg1 hg2 hg3 hg4 hg5
        obtain ⟨ii, hii⟩ : ∃ ii : Nat, ai % (bs.length : Int) = (ii : Int) := ⟨(ai % (bs.length : Int)).toNat, by have := Int.emod_nonneg ai (show (bs.length : Int) ≠ 0 by omega); omega⟩
        have hilt : ii < bs.length := by have := Int.emod_lt_of_pos ai (show (0 : Int) < bs.length by omega); omega
        have htm : Int.tmod ai (bs.length : Int) = (ii : Int) := by rw [Int.tmod_eq_emod_of_nonneg hat.1]; exact hii
        have hat0 := hat.1
        have hsh := HS.out ii hilt
        have hbt := hbs.take ii bs.length (by omega)
        have htl : (bs.take ii).length = ii := by simp; omega
        by_cases hb0 : bi = 0
        · have hq : (bi != 0) = false := by simp [hb0]
          obtain ⟨wX, hwX⟩ : ∃ wX, wX = w3 := ⟨_, rfl⟩
          have hBX : Below w.heap.size w wX := hwX ▸ hB3
          have hbX : BytesAt wX (.slice (some ⟨g, 0, none⟩) bs.length bs.length) bs := hwX ▸ hbs
          have htX : BytesAt wX (.slice (some ⟨g, 0, none⟩) ii bs.length) (bs.take ii) := hwX ▸ hbt
          have hIX : BytesAt wX (.slice p l.length c) l := hwX ▸ hI3
          subst hwX
          clear hB3 hbs hbt hI3 HB HS
          go_wp2_with fail
          refine (Decode_bad2 (some ⟨g, 0, none⟩) bs.length (bs.take ii) ii wX htl htX (by omega) (by omega) (by omega) hsh).mono ?_
          rintro e wY ⟨enY, pY, cY, rfl, henY, hbY⟩
          have hBY := hBX.trans (hbY.mono hBX.size)
          have hbY1 := hbX.below hbY
          have hIY := hIX.below hbY
          have hbeY : Below wY.heap.size wY (wY.alloc (.cells #[.int .i64 0, .slice pY 0 cY] 24)) := (Below.refl _ wY).alloc (Nat.le_refl _) _
          have hBZ := hBY.trans (hbeY.mono hBY.size)
          have hbZ := hbY1.below hbeY
          have hIZ := hIY.below hbeY
          have hne1 : bs ≠ [] := by intro e; rw [e] at hl11; simp at hl11
          clear hbY hBX hbX hIX htX hBY hbY1 hIY hbeY
          by_cases hm0 : l.length = 0
          · have hg0 : decide ((0 : Int) < (l.length : Int)) = false := decide_eq_false (by omega)
            go_wp2_with fail
            refine (works_c _).mono ?_
            rintro e wU ⟨rfl, hbU⟩
            have hBU := hBZ.trans (hbU.mono hBZ.size)
            clear hBZ hbU
            go_wp2_with fail
            go_ret
            exact ⟨rfl, hBU⟩
          · have hg0 : decide ((0 : Int) < (l.length : Int)) = true := decide_eq_true (by omega)
            have hbad := HM.out l (by intro e; rw [e] at hm0; exact hm0 rfl)
            have HBAD := hid hbad
            have hr0 := Row.lit (wY.alloc (.cells #[.int .i64 0, .slice pY 0 cY] 24)) [] (by simp)
            change Row ((wY.alloc (.cells #[.int .i64 0, .slice pY 0 cY] 24)).alloc (.cells #[] 5)) (wY.alloc (.cells #[.int .i64 0, .slice pY 0 cY] 24)).heap.size (.slice (some ⟨(wY.alloc (.cells #[.int .i64 0, .slice pY 0 cY] 24)).heap.size, 0, none⟩) 0 0) [] at hr0
            have hbl0 := (Below.refl _ (wY.alloc (.cells #[.int .i64 0, .slice pY 0 cY] 24))).alloc (Nat.le_refl _) (.cells #[] 5)
            have hbZ0 := hbZ.below hbl0
            have hBZ0 := hBZ.trans (hbl0.mono hBZ.size)
            have hZs := hBZ.size
            rw [World.size_alloc] at hr0 hZs hbl0
            clear hbad hbZ hBZ
            go_wp2_with (at_builtin; first | (refine wpList_append_bytes rfl _ _ rfl (wY.heap.size + 1) _ [] rfl hr0 _ bs rfl hbZ0 (by simp; omega) (by simp) ?_; clear hr0; intro vP wP hrP hbP hgP; have hBP := hBZ0.trans (hbP.mono hZs); have hIP := hIZ.below (by rw [World.size_alloc]; exact hbl0.trans hbP); rw [List.nil_append] at hrP; have hwP : wY.heap.size + 1 ≤ wP.heap.size := Nat.le_trans (by simp) hbP.size; clear hbP hgP) | (refine wpList_append_bytes rfl _ _ rfl (wY.heap.size + 1) _ bs rfl hrP _ l rfl hIP (by omega) hwP ?_; clear hrP; intro vQ wQ hrQ hbQ hgQ; have hBQ := hBP.trans (hbQ.mono hZs); clear hbQ hgQ))
            have hlQ : (bs ++ l).length ≤ 16777316 := by rw [List.length_append]; omega
            obtain ⟨pQ, cQ, rfl, hcQ, hmQ⟩ := hrQ.capOk (by omega)
            have hbyQ := hrQ.bytes
            clear hrQ hbZ0 hIZ hBZ0 hbl0
            refine (Decode_bad2 pQ cQ (bs ++ l) (bs ++ l).length wQ rfl hbyQ hcQ hmQ (by omega) HBAD.out).mono ?_
            rintro e wR ⟨enR, pR, cR, rfl, henR, hbR⟩
            have hBR := hBQ.trans (hbR.mono hBQ.size)
            have hbeR : Below wR.heap.size wR (wR.alloc (.cells #[.int .i64 0, .slice pR 0 cR] 24)) := (Below.refl _ wR).alloc (Nat.le_refl _) _
            have hBS := hBR.trans (hbeR.mono hBR.size)
            clear hBQ hbR hBR hbeR hbyQ
            go_wp2_with fail
            refine (works_c _).mono ?_
            rintro e wU ⟨rfl, hbU⟩
            have hBU := hBS.trans (hbU.mono hBS.size)
            clear hBS hbU
            go_wp2_with fail
            go_ret
            exact ⟨rfl, hBU⟩
        · have hq : (bi != 0) = true := by simp [hb0]
          have hr0 := Row.lit w3 [] (by simp)
          have hbl := (Below.refl _ w3).alloc (Nat.le_refl _) (.cells #[] 5)
          have hbs1 := hbs.below hbl
          change Row (w3.alloc (.cells #[] 5)) w3.heap.size (.slice (some ⟨w3.heap.size, 0, none⟩) 0 0) [] at hr0
          have hbsne : bs ≠ [] := by intro e; rw [e] at hl11; simp at hl11
          have hold : bs[ii].toNat < 256 := bs[ii].toNat_lt
          obtain ⟨bn, rfl⟩ : ∃ bn : Nat, bi = (bn : Int) := ⟨bi.toNat, by omega⟩
          have hbn : bn < 256 := by omega
          have hbn0 : bn ≠ 0 := by omega
          have hneq : bs[ii] + UInt8.ofNat bn ≠ bs[ii] := by
            intro e
            have := congrArg UInt8.toNat (dec_zero_add.1 e)
            rw [toNat_ofNat hbn] at this
            exact hbn0 this
          have hval : encB (bs[ii] + UInt8.ofNat bn) = .int .u8 (((bs[ii].toNat : Int) + (bn : Int)) % 256) := by
            show Value.int .u8 (((bs[ii] + UInt8.ofNat bn).toNat : Nat) : Int) = _
            rw [UInt8.toNat_add, toNat_ofNat hbn]
            congr 1
          have hda := HB.out ii hilt _ hneq
          have HVAL := hid hval
          have HNE := hid hda
          have hgetc : (bs.map encB)[ii]? = some (encB bs[ii]) := by rw [List.getElem?_map, List.getElem?_eq_getElem hilt]; rfl
          have HGET := hid hgetc
          clear hval hda hneq hgetc hbn0
          have HSET := hid (show (bs.set ii (bs[ii] + UInt8.ofNat bn)).length = bs.length from List.length_set ..)
          go_wp2_with (at_builtin; refine wpList_append_bytes1 rfl _ _ rfl w3.heap.size _ [] rfl hr0 _ bs rfl hbs1 hbsne (by simp; omega) (by simp) ?_; intro g2 cap2 cur2 w4 hg4 ht4 hn4 hm4 hs4 hb4 hB4; rw [List.nil_append] at ht4 hn4; have HB4 := hid (hbl.trans hB4); have hcu : cur2[ii]? = some (.int .u8 (bs[ii].toNat : Int)) := (by have h9 := HGET.out; rw [← ht4, List.getElem?_take, if_pos hilt] at h9; rw [← Array.getElem?_toList]; exact h9); have c4 : w4.cell? ⟨g2, ii, none⟩ = some (.int .u8 (bs[ii].toNat : Int)) := (by simp [World.cell?, hg4, hcu]); have f4 : w4.frozen? ⟨g2, ii, none⟩ = false := (by simp [World.frozen?, hg4]); have HG4 := hid hg4; have HT4 := hid ht4; clear hg4 ht4 hcu hB4 hs4)
          have hgs := block_set HG4.out (.int .u8 (((bs[ii].toNat : Int) + (bn : Int)) % 256)) ii
          have hBS : Below w3.heap.size w3 (w4.setCell ⟨g2, ii, none⟩ (.int .u8 (((bs[ii].toNat : Int) + (bn : Int)) % 256))) := HB4.out.setCell hb4 _
          have hbC : BytesAt (w4.setCell ⟨g2, ii, none⟩ (.int .u8 (((bs[ii].toNat : Int) + (bn : Int)) % 256))) (.slice (some ⟨g2, 0, none⟩) bs.length cap2) (bs.set ii (bs[ii] + UInt8.ofNat bn)) := by
            rw [← HVAL.out] at hgs ⊢
            have := bytes_of_take (c := cap2) hgs (set_bytes HT4.out ii (bs[ii] + UInt8.ofNat bn))
            rw [HSET.out] at this
            exact this
          clear hgs
          generalize w4.setCell ⟨g2, ii, none⟩ (.int .u8 (((bs[ii].toNat : Int) + (bn : Int)) % 256)) = wS at *
          have hB5 := hB3.trans (hBS.mono hB3.size)
          have hbS := hbs.below hBS
          have htS := hbt.below hBS
          have hIS := hI3.below hBS
          refine (Decode_bad2 (some ⟨g2, 0, none⟩) cap2 _ bs.length wS HSET.out hbC hn4 hm4 (by omega) HNE.out).mono ?_
          rintro e wD ⟨enD, pD, cD, rfl, henD, hbD⟩
          have hBD := hB5.trans (hbD.mono hB5.size)
          have hbD1 := hbS.below hbD
          have htD := htS.below hbD
          have hID := hIS.below hbD
          have hbeD : Below wD.heap.size wD (wD.alloc (.cells #[.int .i64 0, .slice pD 0 cD] 24)) := (Below.refl _ wD).alloc (Nat.le_refl _) _
          have hBX := hBD.trans (hbeD.mono hBD.size)
          have hbX := hbD1.below hbeD
          have htX := htD.below hbeD
          have hIX := hID.below hbeD
          clear HB HS HVAL HNE HGET HSET HG4 HT4 HB4 hB3 hbs hbt hI3 hBS hbC hB5 hbS htS hIS hbD hBD hbD1 htD hID hbeD hbl hbs1 hr0 c4 f4 hn4 hm4 hb4
          go_wp2_with fail
          generalize wD.alloc (.cells #[.int .i64 0, .slice pD 0 cD] 24) = wX at *
          refine (Decode_bad2 (some ⟨g, 0, none⟩) bs.length (bs.take ii) ii wX htl htX (by omega) (by omega) (by omega) hsh).mono ?_
          rintro e wY ⟨enY, pY, cY, rfl, henY, hbY⟩
          have hBY := hBX.trans (hbY.mono hBX.size)
          have hbY1 := hbX.below hbY
          have hIY := hIX.below hbY
          have hbeY : Below wY.heap.size wY (wY.alloc (.cells #[.int .i64 0, .slice pY 0 cY] 24)) := (Below.refl _ wY).alloc (Nat.le_refl _) _
          have hBZ := hBY.trans (hbeY.mono hBY.size)
          have hbZ := hbY1.below hbeY
          have hIZ := hIY.below hbeY
          have hne1 : bs ≠ [] := by intro e; rw [e] at hl11; simp at hl11
          clear hbY hBX hbX hIX htX hBY hbY1 hIY hbeY
          by_cases hm0 : l.length = 0
          · have hg0 : decide ((0 : Int) < (l.length : Int)) = false := decide_eq_false (by omega)
            go_wp2_with fail
            refine (works_c _).mono ?_
            rintro e wU ⟨rfl, hbU⟩
            have hBU := hBZ.trans (hbU.mono hBZ.size)
            clear hBZ hbU
            go_wp2_with fail
            go_ret
            exact ⟨rfl, hBU⟩
          · have hg0 : decide ((0 : Int) < (l.length : Int)) = true := decide_eq_true (by omega)
            have hbad := HM.out l (by intro e; rw [e] at hm0; exact hm0 rfl)
            have HBAD := hid hbad
            have hr0 := Row.lit (wY.alloc (.cells #[.int .i64 0, .slice pY 0 cY] 24)) [] (by simp)
            change Row ((wY.alloc (.cells #[.int .i64 0, .slice pY 0 cY] 24)).alloc (.cells #[] 5)) (wY.alloc (.cells #[.int .i64 0, .slice pY 0 cY] 24)).heap.size (.slice (some ⟨(wY.alloc (.cells #[.int .i64 0, .slice pY 0 cY] 24)).heap.size, 0, none⟩) 0 0) [] at hr0
            have hbl0 := (Below.refl _ (wY.alloc (.cells #[.int .i64 0, .slice pY 0 cY] 24))).alloc (Nat.le_refl _) (.cells #[] 5)
            have hbZ0 := hbZ.below hbl0
            have hBZ0 := hBZ.trans (hbl0.mono hBZ.size)
            have hZs := hBZ.size
            rw [World.size_alloc] at hr0 hZs hbl0
            clear hbad hbZ hBZ
            go_wp2_with (at_builtin; first | (refine wpList_append_bytes rfl _ _ rfl (wY.heap.size + 1) _ [] rfl hr0 _ bs rfl hbZ0 (by simp; omega) (by simp) ?_; clear hr0; intro vP wP hrP hbP hgP; have hBP := hBZ0.trans (hbP.mono hZs); have hIP := hIZ.below (by rw [World.size_alloc]; exact hbl0.trans hbP); rw [List.nil_append] at hrP; have hwP : wY.heap.size + 1 ≤ wP.heap.size := Nat.le_trans (by simp) hbP.size; clear hbP hgP) | (refine wpList_append_bytes rfl _ _ rfl (wY.heap.size + 1) _ bs rfl hrP _ l rfl hIP (by omega) hwP ?_; clear hrP; intro vQ wQ hrQ hbQ hgQ; have hBQ := hBP.trans (hbQ.mono hZs); clear hbQ hgQ))
            have hlQ : (bs ++ l).length ≤ 16777316 := by rw [List.length_append]; omega
            obtain ⟨pQ, cQ, rfl, hcQ, hmQ⟩ := hrQ.capOk (by omega)
            have hbyQ := hrQ.bytes
            clear hrQ hbZ0 hIZ hBZ0 hbl0
            refine (Decode_bad2 pQ cQ (bs ++ l) (bs ++ l).length wQ rfl hbyQ hcQ hmQ (by omega) HBAD.out).mono ?_
            rintro e wR ⟨enR, pR, cR, rfl, henR, hbR⟩
            have hBR := hBQ.trans (hbR.mono hBQ.size)
            have hbeR : Below wR.heap.size wR (wR.alloc (.cells #[.int .i64 0, .slice pR 0 cR] 24)) := (Below.refl _ wR).alloc (Nat.le_refl _) _
            have hBS := hBR.trans (hbeR.mono hBR.size)
            clear hBQ hbR hBR hbeR hbyQ
            go_wp2_with fail
            refine (works_c _).mono ?_
            rintro e wU ⟨rfl, hbU⟩
            have hBU := hBS.trans (hbU.mono hBS.size)
            clear hBS hbU
            go_wp2_with fail
            go_ret
            exact ⟨rfl, hBU⟩
      · have hne : (encNo ⟨n, L⟩ != 0) = true := by simpa using h0
        clear h0 ho3
        generalize encNo ⟨n, L⟩ = en at *
        go_wp2_with fail
        refine (works_c w3).mono ?_
        rintro e w4 ⟨rfl, hb4⟩
        have hB4 := hB3.trans (hb4.mono hB3.size)
        clear hB3 hb4
        go_wp2_with fail
        go_ret
        exact ⟨rfl, hB4⟩
end Go.Proofs.Ytkfmblpcfgdgpaa
