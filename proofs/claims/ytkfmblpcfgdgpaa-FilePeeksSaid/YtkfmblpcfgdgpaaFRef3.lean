/- Walks: the reference's Encode. -/
import Derived.Test.YtkfmblpcfgdgpaaFRef2
namespace Go.Proofs.Ytkfmblpcfgdgpaa
open Go.RowKit

/-- The post of the reference's Encode. -/
def REncPost (x : NetT) (w : World) (e : Ending) (w' : World) : Prop := ∃ vb, e = .returned (.tuple #[vb, .int .i64 (encNo x)]) ∧ Row w' w.heap.size vb (encBytes x) ∧ Below w.heap.size w w'
theorem rencPost_of {x : NetT} {w w' : World} {vb : Value} {n : Int} {bs : List UInt8} (h : encNo x = n ∧ encBytes x = bs) (ho : Row w' w.heap.size vb bs) (hB : Below w.heap.size w w') : REncPost x w (.returned (.tuple #[vb, .int .i64 n])) w' :=
  ⟨vb, by rw [h.1], by rw [h.2]; exact ho, hB⟩
theorem row_nil (w : World) (base : Nat) : Row w base (.slice none 0 0) [] := .inl ⟨rfl, .inl ⟨rfl, rfl⟩⟩
set_option maxRecDepth 100000 in
set_option maxHeartbeats 2000000 in
theorem rEncode_c (n : Int) (L : List NodeT) (v : Value) (w : World) (hN : NodesAt w v L) (hlen0 : validNet ⟨n, L⟩ = true → (bodyOf ⟨n, L⟩).length ≤ 70368744177000) :
    Calls Try.prog 18 #[.agg #[.int .i64 n, v]] w (REncPost ⟨n, L⟩ w) := by
  have hB1 : Below w.heap.size w (w.alloc (.cells #[.int .i64 n, v] 24)) := (Below.refl _ w).alloc (Nat.le_refl _) _
  have hx := NetVar.new w n v 24
  replace hN := hN.below hB1
  have hsz := hB1.size
  cases hv : validNet ⟨n, L⟩
  · have hno := hid (enc_bad hv)
    clear hlen0
    have q := rNet_c n L v _ hN
    rw [hv] at q
    have Q := hid q
    clear q
    go_enter Try.func18, Try.ntmps18
    go_wp2_with fail
    refine Q.out.mono ?_
    rintro e w1 ⟨rfl, hb1⟩
    go_wp2_with fail
    go_ret2
    exact rencPost_of hno.out (row_nil _ _) (hB1.trans (hb1.mono hsz))
  · have q := rNet_c n L v _ hN
    rw [hv] at q
    have Q := hid q
    clear q
    have hV := (validNet_iff _).1 hv
    have hn0 : 0 ≤ n ∧ n ≤ 128 ∧ 1 ≤ L.length ∧ L.length ≤ 65536 := hV.1
    have HF := hid (show formedTo n L L.length from hV.2)
    obtain ⟨nn, rfl⟩ : ∃ nn : Nat, n = (nn : Int) := ⟨n.toNat, by omega⟩
    have HBD : Hid (bodyOf ⟨(nn : Int), L⟩ = magic ++ encNum nn ++ encNum L.length ++ encFrom 0 L) := by
      show _ = _
      unfold bodyOf headOf; simp
    have hlen := hlen0 hv
    clear hlen0
    rw [HBD.out] at hlen
    have hm := Row.lit
    clear hV
    go_enter Try.func18, Try.ntmps18
    go_wp2_with fail
    generalize w.alloc (.cells #[.int .i64 (nn : Int), v] 24) = w0 at *
    refine Q.out.mono ?_
    rintro e w1 ⟨rfl, hb1⟩
    have hlt0 : w.heap.size < w0.heap.size := cell_lt hx.n
    have hx1 := hx.below hb1
    have hN1 := hN.below hb1
    obtain ⟨x0, x1⟩ := hx1
    have hlt1 : w.heap.size < w1.heap.size := cell_lt x0
    have hBa := hB1.trans (hb1.mono hsz)
    have hr1 := Row.lit w1 magic (by decide)
    rw [show (magic.map encB).toArray = #[.int .u8 67, .int .u8 78, .int .u8 69, .int .u8 84] from rfl] at hr1
    change Row (w1.alloc (.cells #[.int .u8 67, .int .u8 78, .int .u8 69, .int .u8 84] 5)) w1.heap.size (.slice (some ⟨w1.heap.size, 0, none⟩) 4 4) magic at hr1
    have hb2 : Below w1.heap.size w1 (w1.alloc (.cells #[.int .u8 67, .int .u8 78, .int .u8 69, .int .u8 84] 5)) := (Below.refl _ w1).alloc (Nat.le_refl _) _
    clear hx Q hN hm
    simp only [List.length_append] at hlen
    go_wp2_with fail
    generalize w1.alloc (.cells #[.int .u8 67, .int .u8 78, .int .u8 69, .int .u8 84] 5) = w2 at *
    refine (Number_c nn (by omega) w2).mono ?_
    rintro e w3 ⟨u3, rfl, hu3, hb3⟩
    have hB3 := hb2.trans (hb3.mono hb2.size)
    have hr3 := hr1.below hb3
    have hn3 := hu3.bytes
    have hml : magic.length = 4 := rfl
    go_wp2_with (at_builtin; refine wpList_append_bytes rfl _ _ rfl w1.heap.size _ magic rfl hr3 _ (encNum nn) rfl hn3 (by omega) hB3.size ?_; intro v4 w4 hr4 hb4 hg4; have hB4 := hB3.trans hb4; have y1 := (hB4.cell (p := ⟨w.heap.size, 1, none⟩) hlt1).trans x1; have y0 := (hB4.cell (p := ⟨w.heap.size, 0, none⟩) hlt1).trans x0; obtain ⟨p, c, rfl, hdrop⟩ := id hN1; clear hdrop)
    refine (Number_c L.length (by omega) w4).mono ?_
    rintro e w5 ⟨u5, rfl, hu5, hb5⟩
    have hB5 := hB4.trans (hb5.mono hB4.size)
    have hr5 := hr4.below hb5
    have hn5 := hu5.bytes
    have hl5 : (magic ++ encNum nn).length + (encNum L.length).length ≤ 140737488355328 := by simp only [List.length_append]; omega
    go_wp2_with (at_builtin; refine wpList_append_bytes rfl _ _ rfl w1.heap.size _ (magic ++ encNum nn) rfl hr5 _ (encNum L.length) rfl hn5 hl5 hB5.size ?_; intro v6 w6 hr6 hb6 hg6; have hB6 := hB5.trans hb6; have yy1 := (hB6.cell (p := ⟨w.heap.size, 1, none⟩) hlt1).trans x1; have yy0 := (hB6.cell (p := ⟨w.heap.size, 0, none⟩) hlt1).trans x0)
    refine (rnodes_c (nn : Int) L _ w6 (hN1.below (hB6)) HF.out (by omega) (by omega)).mono ?_
    rintro e w7 ⟨u7, rfl, hu7, hb7⟩
    have hB7 := hB6.trans (hb7.mono hB6.size)
    have hr7 := hr6.below hb7
    have hn7 := hu7.bytes
    have hl7 : (magic ++ encNum nn ++ encNum L.length).length + (encFrom 0 L).length ≤ 140737488355328 := by simp only [List.length_append]; omega
    go_wp2_with (at_builtin; refine wpList_append_bytes rfl _ _ rfl w1.heap.size _ (magic ++ encNum nn ++ encNum L.length) rfl hr7 _ (encFrom 0 L) rfl hn7 hl7 hB7.size ?_; intro v8 w8 hr8 hb8 hg8; have hB8 := hB7.trans hb8)
    rw [← HBD.out] at hr8
    have hl8 : (bodyOf ⟨(nn : Int), L⟩).length ≤ 70368744177664 := by rw [HBD.out]; simp only [List.length_append]; omega
    refine (Seal_c _ _ w8 hr8.bytes hl8).mono ?_
    rintro e w9 ⟨u9, rfl, hu9, hb9⟩
    have hB9 := hBa.trans ((hB8.trans (hb9.mono hB8.size)).mono hBa.size)
    have hr9 := hu9.base (base' := w.heap.size) (by have := hBa.size; have := hB8.size; omega)
    have hsl : (encodeOf ⟨(nn : Int), L⟩).length = (sealOf (bodyOf ⟨(nn : Int), L⟩)).length := rfl
    obtain ⟨p9, c9, e9, hdrop⟩ := hr9.bytes
    clear hdrop
    subst e9
    by_cases hgt : 16777216 < (sealOf (bodyOf ⟨(nn : Int), L⟩)).length
    · have hno := hid (enc_long (x := ⟨(nn : Int), L⟩) hv (by rw [hsl]; exact hgt))
      have hg1 : decide ((16777216 : Int) < ((sealOf (bodyOf ⟨(nn : Int), L⟩)).length : Int)) = true := decide_eq_true (by omega)
      clear HBD hsl
      generalize sealOf (bodyOf ⟨(nn : Int), L⟩) = sb at *
      clear hr1 hb2 hb3 hr3 hn3 hb4 hg4 hb5 hr5 hn5 hb6 hg6 hb7 hr7 hn7 hb8 hg8
      go_wp2_with fail
      go_ret2
      exact rencPost_of hno.out (row_nil _ _) hB9
    · have hno := hid (enc_good (x := ⟨(nn : Int), L⟩) hv (by rw [hsl]; exact hgt))
      have hg1 : decide ((16777216 : Int) < ((sealOf (bodyOf ⟨(nn : Int), L⟩)).length : Int)) = false := decide_eq_false (by omega)
      clear HBD hsl
      generalize sealOf (bodyOf ⟨(nn : Int), L⟩) = sb at *
      clear hr1 hb2 hb3 hr3 hn3 hb4 hg4 hb5 hr5 hn5 hb6 hg6 hb7 hr7 hn7 hb8 hg8
      go_wp2_with fail
      go_ret2
      exact rencPost_of hno.out hr9 hB9
end Go.Proofs.Ytkfmblpcfgdgpaa
