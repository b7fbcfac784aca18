/- The law ShapeKnown: the closed facts, and the walk. -/
import Derived.Test.YtpdbfbjfodckgaaDoorHLaw
namespace Go.Proofs.YtpdbfbjfodckgaaDoor
open Go.RowKit

def twoL : List NodeT := [⟨2, 1, []⟩, ⟨2, 2, []⟩, ⟨4, 0, [0, 1]⟩]
def oneA : List NodeT := [⟨2, 1, []⟩, ⟨4, 0, [0]⟩]
def oneB : List NodeT := [⟨2, 1, []⟩, ⟨2, -1, []⟩, ⟨4, 0, [0, 1]⟩]
def twiceL : List NodeT := [⟨1, 0, []⟩, ⟨3, 0, [0, 0]⟩, ⟨4, 0, [0, 0]⟩, ⟨0, 0, []⟩, ⟨4, 0, [3, 3]⟩, ⟨4, 0, []⟩]
theorem det_of {n : Int} {L : List NodeT} {b : Bool} (hv : validNet ⟨n, L⟩ = true) (hf : decide (16 < (mems (litsVS L)).length) = false) (hd : detB L = b) : detNo ⟨n, L⟩ = 0 ∧ detYes ⟨n, L⟩ = b := by
  have : detNo ⟨n, L⟩ = 0 := by unfold detNo; rw [if_pos hv, if_neg (of_decide_eq_false hf)]
  exact ⟨this, by unfold detYes; rw [this, ← hd]; rfl⟩
theorem det_bad {n : Int} {L : List NodeT} (hv : validNet ⟨n, L⟩ = false) : detNo ⟨n, L⟩ = 1 ∧ detYes ⟨n, L⟩ = false := by
  have : detNo ⟨n, L⟩ = 1 := by unfold detNo; rw [hv, if_neg (by simp)]
  exact ⟨this, by unfold detYes; rw [this]; rfl⟩
theorem two_valid : validNet ⟨2, twoL⟩ = true := by decide +kernel
theorem two_det : detNo ⟨2, twoL⟩ = 0 ∧ detYes ⟨2, twoL⟩ = false := det_of two_valid (by decide +kernel) (by decide +kernel)
theorem oneA_dcn : (validNet ⟨1, oneA⟩ && decideB oneA) = false := by decide +kernel
theorem oneB_dcn : (validNet ⟨1, oneB⟩ && decideB oneB) = true := by decide +kernel
theorem twice_valid : validNet ⟨0, twiceL⟩ = true := by decide +kernel
theorem twice_det : detNo ⟨0, twiceL⟩ = 0 ∧ detYes ⟨0, twiceL⟩ = false := det_of twice_valid (by decide +kernel) (by decide +kernel)
theorem twice_dec : (validNet ⟨0, twiceL⟩ && decomB twiceL) = true := by decide +kernel
theorem twice_smooth : (validNet ⟨0, twiceL⟩ && smoothB twiceL) = true := by decide +kernel
def badA : List NodeT := []
def badB : List NodeT := [⟨2, 2, []⟩]
def badC : List NodeT := [⟨0, 0, []⟩]
def badD : List NodeT := [⟨3, 0, [0]⟩]
theorem badA_valid : validNet ⟨0, badA⟩ = false := by decide +kernel
theorem badB_valid : validNet ⟨1, badB⟩ = false := by decide +kernel
theorem badC_valid : validNet ⟨-1, badC⟩ = false := by decide +kernel
theorem badD_valid : validNet ⟨1, badD⟩ = false := by decide +kernel
theorem own_single (w : World) {B : Nat} (hB : B ≤ w.heap.size) (a : Int) : OwnInts (w.alloc (.cells #[.int .i64 a] 3)) B (.slice (some ⟨w.heap.size, 0, none⟩) 1 1) [a] :=
  ⟨rfl, .inr ⟨w.heap.size, 1, _, rfl, hB, heap_alloc_new w _, Nat.le_refl _, by unfold maxLen; omega, rfl, rfl⟩⟩
/-- A net that is not valid, of those that are looked at. -/
def BadAt (w : World) (g k : Nat) : Prop := ∃ (n : Int) (p : Option Addr) (c : Nat) (L : List NodeT), w.cell? ⟨g, k * 2, none⟩ = some (.int .i64 n) ∧ w.cell? ⟨g, k * 2 + 1, none⟩ = some (.slice p L.length c) ∧
  NodesAt w (.slice p L.length c) L ∧ validNet ⟨n, L⟩ = false ∧ ∀ x ∈ L, x.ins.length ≤ 65536
theorem bad_at {w : World} {v0 v1 v2 : Value} (h0 : NodesAt w v0 badB) (h1 : NodesAt w v1 badC) (h2 : NodesAt w v2 badD) {k : Nat} (hk : k < 4) :
    BadAt (w.alloc (.cells #[.int .i64 0, .slice none 0 0, .int .i64 1, v0, .int .i64 (-1), v1, .int .i64 1, v2] 24)) w.heap.size k := by
  have hb : Below w.heap.size w (w.alloc (.cells #[.int .i64 0, .slice none 0 0, .int .i64 1, v0, .int .i64 (-1), v1, .int .i64 1, v2] 24)) := (Below.refl _ w).alloc (Nat.le_refl _) _
  have key : ∀ j y, ([.int .i64 0, .slice none 0 0, .int .i64 1, v0, .int .i64 (-1), v1, .int .i64 1, v2] : List Value)[j]? = some y → (w.alloc (.cells #[.int .i64 0, .slice none 0 0, .int .i64 1, v0, .int .i64 (-1), v1, .int .i64 1, v2] 24)).cell? ⟨w.heap.size, j, none⟩ = some y := fun j y e => by
    rw [World.cell?, show (w.alloc (.cells #[.int .i64 0, .slice none 0 0, .int .i64 1, v0, .int .i64 (-1), v1, .int .i64 1, v2] 24)).heap[w.heap.size]? = _ from heap_alloc_new w _]
    show (#[.int .i64 0, .slice none 0 0, .int .i64 1, v0, .int .i64 (-1), v1, .int .i64 1, v2] : Array Value)[j]? = some y
    rw [← Array.getElem?_toList]; exact e
  match k, hk with
  | 0, _ => exact ⟨0, none, 0, badA, key _ _ rfl, key _ _ rfl, ⟨none, 0, rfl, .inl rfl⟩, badA_valid, by decide⟩
  | 1, _ =>
    have h := h0.below hb
    obtain ⟨p, c, rfl, _⟩ := h0
    exact ⟨1, p, c, badB, key _ _ rfl, key _ _ rfl, h, badB_valid, by decide⟩
  | 2, _ =>
    have h := h1.below hb
    obtain ⟨p, c, rfl, _⟩ := h1
    exact ⟨-1, p, c, badC, key _ _ rfl, key _ _ rfl, h, badC_valid, by decide⟩
  | 3, _ =>
    have h := h2.below hb
    obtain ⟨p, c, rfl, _⟩ := h2
    exact ⟨1, p, c, badD, key _ _ rfl, key _ _ rfl, h, badD_valid, by decide⟩
theorem BadAt.below {w w' : World} {g k : Nat} (h : BadAt w g k) (hb : Below w.heap.size w w') : BadAt w' g k := by
  obtain ⟨n, p, c, L, h1, h2, h3, h4, h5⟩ := h
  exact ⟨n, p, c, L, (hb.cell (cell_lt h1)).trans h1, (hb.cell (cell_lt h2)).trans h2, h3.below hb, h4, h5⟩
set_option maxRecDepth 100000 in
set_option maxHeartbeats 8000000 in
theorem shapeKnown_walk (w : World) (hT : TabAt w) (hP : PatAt w) : Calls Tryd.prog 9 #[] w (LawPost w) := by
  have HT := hid hT
  have HP := hid hP
  clear hT hP
  go_enter Tryd.func9, Tryd.ntmps9
  go_wp2_with fail
  refine (lit_c 1 _).mono ?_
  rintro e w1 ⟨rfl, hb1⟩
  have B1 := hid hb1
  clear hb1
  go_wp2_with fail
  refine (lit_c 2 _).mono ?_
  rintro e w2 ⟨rfl, hb2⟩
  have hB2 := B1.out.trans (hb2.mono B1.out.size)
  have B2 := hid (hB2.alloc hB2.size (.cells #[.int .i64 0, .int .i64 1] 3))
  have I2 := hid (own_pair w2 (B := 0) (Nat.zero_le _) 0 1)
  clear hb2 hB2 B1
  go_wp2_with fail
  generalize w2.alloc (.cells #[.int .i64 0, .int .i64 1] 3) = w3 at *
  refine (or_c _ _ _ _).mono ?_
  rintro e w4 ⟨rfl, hb4⟩
  have hB4 := B2.out.trans (hb4.mono B2.out.size)
  have hi4 := (I2.out.below hb4).ints
  have hn4 := nodes_new w4 twoL [.slice none 0 0, .slice none 0 0, .slice (some ⟨w2.heap.size, 0, none⟩) 2 2] 3 rfl (fun i hi => by
    have hi3 : i < 3 := hi
    match i, hi3 with
    | 0, _ => exact ⟨_, rfl, IntsAt.none_nil _, by simp [twoL]⟩
    | 1, _ => exact ⟨_, rfl, IntsAt.none_nil _, by simp [twoL]⟩
    | 2, _ => exact ⟨_, rfl, hi4, by simp [twoL]⟩)
  have hB5 := hB4.alloc hB4.size (.cells (nodeCells twoL [.slice none 0 0, .slice none 0 0, .slice (some ⟨w2.heap.size, 0, none⟩) 2 2]).toArray 39)
  have hb5 : Below (w4.alloc (.cells (nodeCells twoL [.slice none 0 0, .slice none 0 0, .slice (some ⟨w2.heap.size, 0, none⟩) 2 2]).toArray 39)).heap.size (w4.alloc (.cells (nodeCells twoL [.slice none 0 0, .slice none 0 0, .slice (some ⟨w2.heap.size, 0, none⟩) 2 2]).toArray 39)) ((w4.alloc (.cells (nodeCells twoL [.slice none 0 0, .slice none 0 0, .slice (some ⟨w2.heap.size, 0, none⟩) 2 2]).toArray 39)).alloc (.cells #[.int .i64 2, .slice (some ⟨w4.heap.size, 0, none⟩) 3 3] 24)) := (Below.refl _ _).alloc (Nat.le_refl _) _
  have hB6 := hB5.trans (hb5.mono hB5.size)
  have HB6 := hid hB6
  have HDT := hid (Deterministic_c 2 twoL _ _ (hn4.below hb5) (HT.out.below HT.out.lt hB6) (HP.out.below HP.out.lt hB6))
  clear hb4 hB4 hi4 hn4 I2 B2 hB5 hb5 hB6
  go_wp2_with fail
  refine HDT.out.mono ?_
  rintro e w7 ⟨rfl, hb7⟩
  rw [two_det.1, two_det.2]
  have HB7 := hid (HB6.out.trans (hb7.mono HB6.out.size))
  clear hb7 HDT HB6
  go_wp2_with fail
  refine (lit_c 1 _).mono ?_
  rintro e w8 ⟨rfl, hb8⟩
  have hB8 := HB7.out.trans (hb8.mono HB7.out.size)
  have HB8 := hid (hB8.alloc hB8.size (.cells #[.int .i64 0] 3))
  have I8 := hid (own_single w8 (B := 0) (Nat.zero_le _) 0)
  clear hb8 hB8 HB7
  go_wp2_with fail
  generalize w8.alloc (.cells #[.int .i64 0] 3) = w9 at *
  refine (or_c _ _ _ _).mono ?_
  rintro e w10 ⟨rfl, hb10⟩
  have hB10 := HB8.out.trans (hb10.mono HB8.out.size)
  have hi10 := (I8.out.below hb10).ints
  have hn10 := nodes_new w10 oneA [.slice none 0 0, .slice (some ⟨w8.heap.size, 0, none⟩) 1 1] 2 rfl (fun i hi => by
    have hi2 : i < 2 := hi
    match i, hi2 with
    | 0, _ => exact ⟨_, rfl, IntsAt.none_nil _, by simp [oneA]⟩
    | 1, _ => exact ⟨_, rfl, hi10, by simp [oneA]⟩)
  have HB11 := hid (hB10.alloc hB10.size (.cells (nodeCells oneA [.slice none 0 0, .slice (some ⟨w8.heap.size, 0, none⟩) 1 1]).toArray 39))
  have HDC := hid (Decision_c 1 oneA _ _ hn10 (by intro k h; exact (show ∀ x ∈ oneA, x.ins.length ≤ 65536 by decide) _ (List.getElem_mem h)))
  clear hb10 hB10 hi10 hn10 I8 HB8
  go_wp2_with fail
  refine HDC.out.mono ?_
  rintro e w12 ⟨rfl, hb12⟩
  rw [oneA_dcn]
  have HB12 := hid (HB11.out.trans (hb12.mono HB11.out.size))
  clear hb12 HDC HB11
  go_wp2_with fail
  refine (lit_c 1 _).mono ?_
  rintro e w13 ⟨rfl, hb13⟩
  have HB13 := hid (HB12.out.trans (hb13.mono HB12.out.size))
  clear hb13 HB12
  go_wp2_with fail
  refine (lit_c (-1) _).mono ?_
  rintro e w14 ⟨rfl, hb14⟩
  have hB14 := HB13.out.trans (hb14.mono HB13.out.size)
  have HB14 := hid (hB14.alloc hB14.size (.cells #[.int .i64 0, .int .i64 1] 3))
  have I14 := hid (own_pair w14 (B := 0) (Nat.zero_le _) 0 1)
  clear hb14 hB14 HB13
  go_wp2_with fail
  generalize w14.alloc (.cells #[.int .i64 0, .int .i64 1] 3) = w15 at *
  refine (or_c _ _ _ _).mono ?_
  rintro e w16 ⟨rfl, hb16⟩
  have hB16 := HB14.out.trans (hb16.mono HB14.out.size)
  have hi16 := (I14.out.below hb16).ints
  have hn16 := nodes_new w16 oneB [.slice none 0 0, .slice none 0 0, .slice (some ⟨w14.heap.size, 0, none⟩) 2 2] 3 rfl (fun i hi => by
    have hi3 : i < 3 := hi
    match i, hi3 with
    | 0, _ => exact ⟨_, rfl, IntsAt.none_nil _, by simp [oneB]⟩
    | 1, _ => exact ⟨_, rfl, IntsAt.none_nil _, by simp [oneB]⟩
    | 2, _ => exact ⟨_, rfl, hi16, by simp [oneB]⟩)
  have HB17 := hid (hB16.alloc hB16.size (.cells (nodeCells oneB [.slice none 0 0, .slice none 0 0, .slice (some ⟨w14.heap.size, 0, none⟩) 2 2]).toArray 39))
  have HDC := hid (Decision_c 1 oneB _ _ hn16 (by intro k h; exact (show ∀ x ∈ oneB, x.ins.length ≤ 65536 by decide) _ (List.getElem_mem h)))
  clear hb16 hB16 hi16 hn16 I14 HB14
  go_wp2_with fail
  refine HDC.out.mono ?_
  rintro e w18 ⟨rfl, hb18⟩
  rw [oneB_dcn]
  have HB18 := hid (HB17.out.trans (hb18.mono HB17.out.size))
  clear hb18 HDC HB17
  go_wp2_with fail
  refine (lit_c 2 _).mono ?_
  rintro e w19 ⟨rfl, hb19⟩
  have hB19 := HB18.out.trans (hb19.mono HB18.out.size)
  have hn19 := nodes_new w19 badB [.slice none 0 0] 1 rfl (fun i hi => by
    have hi1 : i < 1 := hi
    match i, hi1 with
    | 0, _ => exact ⟨_, rfl, IntsAt.none_nil _, by simp [badB]⟩)
  have hB20 := hB19.alloc hB19.size (.cells (nodeCells badB [.slice none 0 0]).toArray 39)
  have hn20 := nodes_new (w19.alloc (.cells (nodeCells badB [.slice none 0 0]).toArray 39)) badC [.slice none 0 0] 1 rfl (fun i hi => by
    have hi1 : i < 1 := hi
    match i, hi1 with
    | 0, _ => exact ⟨_, rfl, IntsAt.none_nil _, by simp [badC]⟩)
  have hb21 : Below (w19.alloc (.cells (nodeCells badB [.slice none 0 0]).toArray 39)).heap.size (w19.alloc (.cells (nodeCells badB [.slice none 0 0]).toArray 39)) ((w19.alloc (.cells (nodeCells badB [.slice none 0 0]).toArray 39)).alloc (.cells (nodeCells badC [.slice none 0 0]).toArray 39)) := (Below.refl _ _).alloc (Nat.le_refl _) _
  have hB21 := hB20.trans (hb21.mono hB20.size)
  have HN21 := hid (hn19.below hb21)
  have HM21 := hid hn20
  rw [World.size_alloc] at HM21
  have HB22 := hid (hB21.alloc hB21.size (.cells #[.int .i64 0] 3))
  have I22 := hid (own_single ((w19.alloc (.cells (nodeCells badB [.slice none 0 0]).toArray 39)).alloc (.cells (nodeCells badC [.slice none 0 0]).toArray 39)) (B := 0) (Nat.zero_le _) 0)
  have HN22 := hid (HN21.out.below ((Below.refl _ _).alloc (Nat.le_refl _) (.cells #[.int .i64 0] 3)))
  have HM22 := hid (HM21.out.below ((Below.refl _ _).alloc (Nat.le_refl _) (.cells #[.int .i64 0] 3)))
  rw [World.size_alloc, World.size_alloc] at I22
  clear hb19 hB19 hn19 hB20 hn20 hb21 hB21 HN21 HM21 HB18
  go_wp2_with fail
  refine (and_c _ _ _ _).mono ?_
  rintro e w23 ⟨rfl, hb23⟩
  have hB23 := HB22.out.trans (hb23.mono HB22.out.size)
  have hn23 := HN22.out.below hb23
  have hm23 := HM22.out.below hb23
  have hi23 := (I22.out.below hb23).ints
  have ho23 := nodes_new w23 badD [.slice (some ⟨w19.heap.size + 1 + 1, 0, none⟩) 1 1] 1 rfl (fun i hi => by
    have hi1 : i < 1 := hi
    match i, hi1 with
    | 0, _ => exact ⟨_, rfl, hi23, by simp [badD]⟩)
  have hb24 : Below w23.heap.size w23 (w23.alloc (.cells (nodeCells badD [.slice (some ⟨w19.heap.size + 1 + 1, 0, none⟩) 1 1]).toArray 39)) := (Below.refl _ _).alloc (Nat.le_refl _) _
  have hB24 := hB23.trans (hb24.mono hB23.size)
  have HBAD := hid (fun k (hk : k < 4) => bad_at (hn23.below hb24) (hm23.below hb24) ho23 hk)
  have hB25 := hB24.alloc hB24.size (.cells #[.int .i64 0, .slice none 0 0, .int .i64 1, .slice (some ⟨w19.heap.size, 0, none⟩) 1 1, .int .i64 (-1), .slice (some ⟨w19.heap.size + 1, 0, none⟩) 1 1, .int .i64 1, .slice (some ⟨w23.heap.size, 0, none⟩) 1 1] 24)
  have HB25 := hid hB25
  clear hb23 hB23 hn23 hm23 hi23 ho23 hb24 hB24 hB25 HB22 I22 HN22 HM22
  rw [World.size_alloc] at HBAD
  go_wp2_with fail
  go_loopw [58] (fun z wr => ∃ (k : Nat), k ≤ 4 ∧ z = .int .i64 k ∧ Hid (∀ j, j < 4 → BadAt wr (w23.heap.size + 1) j) ∧ Hid (Below w.heap.size w wr)) (fun z _ => 4 - (intOf z).toNat)
  case atStart => exact ⟨0, Nat.zero_le _, rfl, fun j hj => HBAD.out j hj, HB25.out⟩
  case round =>
    clear HBAD HB25
    obtain ⟨k, hk, rfl, hbad, hbr⟩ := hrel
    by_cases hk4 : k < 4
    · obtain ⟨n, p, c, L, c0, c1, hn, hv, hle⟩ := hbad.out k hk4
      have zk : (0 : Int) ≤ (k : Int) ∧ (k : Int) < 4 := by omega
      have lg : w23.heap.size + 1 < wr.heap.size := cell_lt c0
      have hb1 : Below wr.heap.size wr (wr.alloc (.cells #[.int .i64 n, .slice p L.length c] 24)) := (Below.refl _ wr).alloc (Nat.le_refl _) _
      have HX1 := hid (NetVar.new wr n (.slice p L.length c) 24)
      have hB1 := hbr.out.trans (hb1.mono hbr.out.size)
      have HDT := hid (Deterministic_c n L _ _ (hn.below hb1) (HT.out.below HT.out.lt hB1) (HP.out.below HP.out.lt hB1))
      have HN1 := hid (hn.below hb1)
      have HB1 := hid hB1
      have HBA1 := hid (fun j (hj : j < 4) => (hbad.out j hj).below hb1)
      have HE := hid (det_bad hv)
      have HV := hid hv
      have HLE := hid hle
      clear hbad hbr hn hb1 hB1 hv hle
      obtain ⟨x0, x1⟩ := HX1.out
      go_wp2_with fail
      refine HDT.out.mono ?_
      rintro e w2 ⟨rfl, hb2⟩
      rw [HE.out.1, HE.out.2]
      clear x0 x1 c0 c1
      obtain ⟨x0, x1⟩ := HX1.out.below hb2
      have HX2 := hid (HX1.out.below hb2)
      have HN2 := hid (HN1.out.below hb2)
      have HB2 := hid (HB1.out.trans (hb2.mono HB1.out.size))
      have HBA2 := hid (fun j (hj : j < 4) => (HBA1.out j hj).below hb2)
      have HSM := hid (Smoothed_bad n L _ w2 HN2.out HV.out)
      have lx : wr.heap.size < w2.heap.size := cell_lt x0
      clear hb2 HX1 HN1 HB1 HBA1 HDT HE
      go_wp2_with fail
      refine HSM.out.mono ?_
      rintro e w3 ⟨rfl, hb3⟩
      have hb4 : Below w3.heap.size w3 (w3.alloc (.cells #[.int .i64 0, .slice none 0 0] 24)) := (Below.refl _ w3).alloc (Nat.le_refl _) _
      have h24 := hb3.trans (hb4.mono hb3.size)
      clear x0 x1
      obtain ⟨y0, y1⟩ := HX2.out.below hb3
      obtain ⟨x0, x1⟩ := HX2.out.below h24
      have HX4 := hid (HX2.out.below h24)
      have HN4 := hid (HN2.out.below h24)
      have HB4 := hid (HB2.out.trans (h24.mono HB2.out.size))
      have HBA4 := hid (fun j (hj : j < 4) => (HBA2.out j hj).below h24)
      have HDC := hid (Decomposable_c n L _ _ HN4.out)
      rw [HV.out, Bool.false_and] at HDC
      have lx3 := Nat.lt_of_lt_of_le lx hb3.size
      clear hb3 hb4 h24 HX2 HN2 HB2 HBA2 HSM
      go_wp2_with fail
      refine HDC.out.mono ?_
      rintro e w5 ⟨rfl, hb5⟩
      clear x0 x1 y0 y1
      obtain ⟨x0, x1⟩ := HX4.out.below hb5
      have HX5 := hid (HX4.out.below hb5)
      have HN5 := hid (HN4.out.below hb5)
      have HB5 := hid (HB4.out.trans (hb5.mono HB4.out.size))
      have HBA5 := hid (fun j (hj : j < 4) => (HBA4.out j hj).below hb5)
      have HDC := hid (Decision_c n L _ _ HN5.out (fun k h => HLE.out _ (List.getElem_mem h)))
      rw [HV.out, Bool.false_and] at HDC
      clear hb5 HX4 HN4 HB4 HBA4
      go_wp2_with fail
      refine HDC.out.mono ?_
      rintro e w6 ⟨rfl, hb6⟩
      clear x0 x1
      obtain ⟨x0, x1⟩ := HX5.out.below hb6
      have HX6 := hid (HX5.out.below hb6)
      have HN6 := hid (HN5.out.below hb6)
      have HB6 := hid (HB5.out.trans (hb6.mono HB5.out.size))
      have HBA6 := hid (fun j (hj : j < 4) => (HBA5.out j hj).below hb6)
      have HSMO := hid (Smooth_c n L _ _ HN6.out)
      rw [HV.out, Bool.false_and] at HSMO
      clear hb6 HX5 HN5 HB5 HBA5 HDC
      go_wp2_with fail
      refine HSMO.out.mono ?_
      rintro e w7 ⟨rfl, hb7⟩
      have HB7 := hid (HB6.out.trans (hb7.mono HB6.out.size))
      have HBA7 := hid (fun j (hj : j < 4) => (HBA6.out j hj).below hb7)
      clear x0 x1 hb7 HB6 HBA6 HX6 HN6 HSMO
      go_wp2_with fail
      go_roundw
      case rel => exact ⟨k + 1, by omega, by go_num, fun j hj => HBA7.out j hj, HB7.out⟩
      case measure => simp [intOf]; omega
    · obtain rfl : k = 4 := by omega
      have hB1 := hbr.out.alloc hbr.out.size (.cells #[.int .i64 0, .int .i64 0] 3)
      have HB1 := hid hB1
      have I1 := hid (own_pair wr (B := 0) (Nat.zero_le _) 0 0)
      clear hbad hbr hB1
      go_wp2_with fail
      generalize wr.alloc (.cells #[.int .i64 0, .int .i64 0] 3) = q1 at *
      refine (and_c _ _ _ _).mono ?_
      rintro e q2 ⟨rfl, hb2⟩
      have hB2 := HB1.out.trans (hb2.mono HB1.out.size)
      have HB3 := hid (hB2.alloc hB2.size (.cells #[.int .i64 0, .int .i64 0] 3))
      have hb3 : Below q2.heap.size q2 (q2.alloc (.cells #[.int .i64 0, .int .i64 0] 3)) := (Below.refl _ q2).alloc (Nat.le_refl _) _
      have I3 := hid ((I1.out.below hb2).below hb3)
      have J3 := hid (own_pair q2 (B := 0) (Nat.zero_le _) 0 0)
      clear hb2 hb3 hB2 HB1 I1
      go_wp2_with fail
      generalize q2.alloc (.cells #[.int .i64 0, .int .i64 0] 3) = q3 at *
      refine (or_c _ _ _ _).mono ?_
      rintro e q4 ⟨rfl, hb4⟩
      have hB4 := HB3.out.trans (hb4.mono HB3.out.size)
      have HB5 := hid (hB4.alloc hB4.size (.cells #[.int .i64 3, .int .i64 3] 3))
      have hb5 : Below q4.heap.size q4 (q4.alloc (.cells #[.int .i64 3, .int .i64 3] 3)) := (Below.refl _ q4).alloc (Nat.le_refl _) _
      have I5 := hid ((I3.out.below hb4).below hb5)
      have J5 := hid ((J3.out.below hb4).below hb5)
      have K5 := hid (own_pair q4 (B := 0) (Nat.zero_le _) 3 3)
      clear hb4 hb5 hB4 HB3 I3 J3
      go_wp2_with fail
      generalize q4.alloc (.cells #[.int .i64 3, .int .i64 3] 3) = q5 at *
      refine (or_c _ _ _ _).mono ?_
      rintro e q6 ⟨rfl, hb6⟩
      have HB6 := hid (HB5.out.trans (hb6.mono HB5.out.size))
      have I6 := hid (I5.out.below hb6)
      have J6 := hid (J5.out.below hb6)
      have K6 := hid (K5.out.below hb6)
      clear hb6 HB5 I5 J5 K5
      go_wp2_with fail
      refine (or_c _ _ _ _).mono ?_
      rintro e q7 ⟨rfl, hb7⟩
      have hB7 := HB6.out.trans (hb7.mono HB6.out.size)
      have i7 := (I6.out.below hb7).ints
      have j7 := (J6.out.below hb7).ints
      have k7 := (K6.out.below hb7).ints
      have hn8 := nodes_new q7 twiceL [.slice none 0 0, .slice (some ⟨wr.heap.size, 0, none⟩) 2 2, .slice (some ⟨q2.heap.size, 0, none⟩) 2 2, .slice none 0 0, .slice (some ⟨q4.heap.size, 0, none⟩) 2 2, .slice none 0 0] 6 rfl (fun i hi => by
        have hi6 : i < 6 := hi
        match i, hi6 with
        | 0, _ => exact ⟨_, rfl, IntsAt.none_nil _, by simp [twiceL]⟩
        | 1, _ => exact ⟨_, rfl, i7, by simp [twiceL]⟩
        | 2, _ => exact ⟨_, rfl, j7, by simp [twiceL]⟩
        | 3, _ => exact ⟨_, rfl, IntsAt.none_nil _, by simp [twiceL]⟩
        | 4, _ => exact ⟨_, rfl, k7, by simp [twiceL]⟩
        | 5, _ => exact ⟨_, rfl, IntsAt.none_nil _, by simp [twiceL]⟩)
      have hB8 := hB7.alloc hB7.size (.cells (nodeCells twiceL [.slice none 0 0, .slice (some ⟨wr.heap.size, 0, none⟩) 2 2, .slice (some ⟨q2.heap.size, 0, none⟩) 2 2, .slice none 0 0, .slice (some ⟨q4.heap.size, 0, none⟩) 2 2, .slice none 0 0]).toArray 39)
      have e8 : (q7.alloc (.cells (nodeCells twiceL [.slice none 0 0, .slice (some ⟨wr.heap.size, 0, none⟩) 2 2, .slice (some ⟨q2.heap.size, 0, none⟩) 2 2, .slice none 0 0, .slice (some ⟨q4.heap.size, 0, none⟩) 2 2, .slice none 0 0]).toArray 39)).heap.size = q7.heap.size + 1 := World.size_alloc _ _
      generalize hq8 : q7.alloc (.cells (nodeCells twiceL [.slice none 0 0, .slice (some ⟨wr.heap.size, 0, none⟩) 2 2, .slice (some ⟨q2.heap.size, 0, none⟩) 2 2, .slice none 0 0, .slice (some ⟨q4.heap.size, 0, none⟩) 2 2, .slice none 0 0]).toArray 39) = q8 at hn8 hB8 e8
      have hb9 : Below q8.heap.size q8 (q8.alloc (.cells #[.int .i64 0, .slice (some ⟨q7.heap.size, 0, none⟩) 6 6] 24)) := (Below.refl _ q8).alloc (Nat.le_refl _) _
      have hB9 := hB8.trans (hb9.mono hB8.size)
      have HX9 := hid (NetVar.new q8 0 (.slice (some ⟨q7.heap.size, 0, none⟩) 6 6) 24)
      have hn9 := hn8.below hb9
      have hdt := Deterministic_c 0 twiceL _ _ hn9 (HT.out.below HT.out.lt hB9) (HP.out.below HP.out.lt hB9)
      rw [e8] at HX9
      have HN9 := hid hn9
      have HB9 := hid hB9
      have HDT := hid hdt
      clear hb7 hB7 i7 j7 k7 hn8 hB8 e8 hb9 hB9 hn9 hdt I6 J6 K6 HB6
      subst hq8
      go_wp2_with fail
      refine HDT.out.mono ?_
      rintro e p1 ⟨rfl, hb1⟩
      rw [twice_det.1, twice_det.2]
      have HX1 := hid (HX9.out.below hb1)
      have HN1 := hid (HN9.out.below hb1)
      have HB1 := hid (HB9.out.trans (hb1.mono HB9.out.size))
      have HDC := hid (Decomposable_c 0 twiceL _ p1 HN1.out)
      rw [twice_dec] at HDC
      obtain ⟨x0, x1⟩ := HX1.out
      clear hb1 HX9 HN9 HB9 HDT
      go_wp2_with fail
      refine HDC.out.mono ?_
      rintro e p2 ⟨rfl, hb2⟩
      clear x0 x1
      have HX2 := hid (HX1.out.below hb2)
      have HN2 := hid (HN1.out.below hb2)
      have HB2 := hid (HB1.out.trans (hb2.mono HB1.out.size))
      have HSM := hid (Smooth_c 0 twiceL _ p2 HN2.out)
      rw [twice_smooth] at HSM
      obtain ⟨x0, x1⟩ := HX2.out
      clear hb2 HX1 HN1 HB1 HDC
      go_wp2_with fail
      refine HSM.out.mono ?_
      rintro e p3 ⟨rfl, hb3⟩
      clear x0 x1
      have HB3 := hid (HB2.out.trans (hb3.mono HB2.out.size))
      clear hb3 HX2 HN2 HB2 HSM
      go_wp2_with fail
      refine (works_c p3 (HT.out.below HT.out.lt HB3.out) (HP.out.below HP.out.lt HB3.out)).mono ?_
      rintro e p4 ⟨rfl, hb4⟩
      go_wp2_with fail
      go_ret
      exact ⟨rfl, HB3.out.trans (hb4.mono HB3.out.size)⟩
end Go.Proofs.YtpdbfbjfodckgaaDoor
