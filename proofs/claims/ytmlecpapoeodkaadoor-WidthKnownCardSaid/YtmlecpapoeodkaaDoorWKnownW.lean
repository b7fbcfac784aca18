/- The walk of the law WidthKnown. -/
import Derived.Test.YtmlecpapoeodkaaDoorWWorks
import Derived.Test.YtmlecpapoeodkaaDoorWMg
import Derived.Test.YtmlecpapoeodkaaDoorWLow
namespace Go.Proofs.YtmlecpapoeodkaaDoor
open Go.RowKit
attribute [local go_sem ↓] run_eqlS run_neqS run_eqlS0 run_neqS0

/-- The run of merging, reckoned. -/
def mrunF : Nat → List VS → List Int → Nat → Option (List VS × List Int)
  | 0, _, _, _ => none
  | f + 1, B, U, i =>
    if B.length ≤ i then some (B, U)
    else if 0 ≤ upF U (i : Int) then
      if sub (gOf B (i : Int)) (gOf B (upF U (i : Int))) = true then mrunF f (remB B (i : Int)) (remU U (i : Int) (upF U (i : Int))) 0
      else if sub (gOf B (upF U (i : Int))) (gOf B (i : Int)) = true then mrunF f (remB B (upF U (i : Int))) (remU U (upF U (i : Int)) (i : Int)) 0
      else mrunF f B U (i + 1)
    else mrunF f B U (i + 1)
theorem mrunF_run : ∀ (f : Nat) (B : List VS) (U : List Int) (i : Nat) (B' : List VS) (U' : List Int), mrunF f B U i = some (B', U') → MRun B U i B' U'
  | 0, _, _, _, _, _, h => by cases h
  | f + 1, B, U, i, B', U', h => by
    rw [mrunF] at h
    split at h
    · rename_i h1
      injection h with h; injection h with h2 h3
      subst h2; subst h3; exact .done h1
    · rename_i h1
      split at h
      · rename_i h2
        split at h
        · rename_i h3
          exact .low (by omega) h2 h3 (mrunF_run f _ _ _ _ _ h)
        · rename_i h3
          split at h
          · rename_i h4
            exact .high (by omega) h2 (by simpa using h3) h4 (mrunF_run f _ _ _ _ _ h)
          · rename_i h4
            exact .next (by omega) (.inr ⟨by simpa using h3, by simpa using h4⟩) (mrunF_run f _ _ _ _ _ h)
      · rename_i h2
        exact .next (by omega) (.inl (by omega)) (mrunF_run f _ _ _ _ _ h)
def kB : List VS := [11#128, 14#128]
def kU : List Int := [1, -1]
theorem k_run : MRun exB exU 0 kB kU := mrunF_run 20 _ _ _ _ _ (by decide +kernel)
theorem k_low : lowerP cyc = 2 := by decide +kernel
theorem k_low0 : lowerP [] = -1 := by decide +kernel
theorem k_ord : ¬ IsOrd [1, 1, 2, 3] (cyc.length - 1) := fun h => by have := h.nodup; simp at this
theorem k_bad : validG [0#128, 1#128] = false := by decide +kernel
theorem k_one : validG [0#128] = true := by decide +kernel
theorem k_ord0 : IsOrd [] ([0#128].length - 1) := isOrd_of (by decide) (by decide) (by decide +kernel)
theorem k_chk0 : checkW [0#128] [] [] = 0 := by decide +kernel
theorem k_chk1 : checkW [] [] [] = 1 := by decide +kernel
theorem k_chk3 : checkW cyc [3#128, 12#128] [1, -1] = 3 := by decide +kernel
theorem k_chk6 : checkW cyc [15#128, 31#128] [-1, 0] = 6 := by decide +kernel
def lpB : List VS := [15#128, 15#128, 15#128]
def lpU : List Int := [-1, 2, 1]
def apB : List VS := [11#128, 12#128, 14#128, 3#128]
def apU : List Int := [1, 2, -1, 2]
theorem k_lp : formedB lpB.length lpU = false := by decide +kernel
theorem k_chk5 : checkW cyc lpB lpU = 5 := by decide +kernel
theorem k_chk210 : checkW cyc apB apU = 210 := by decide +kernel
theorem k_wid0 : widthT ([] : List VS) = -1 := by decide +kernel
theorem nil_sets (w : World) : SetsAt w (.slice none 0 0) [] := ⟨none, 0, rfl, .inl rfl⟩
theorem nil_ints (w : World) : IntsAt w (.slice none 0 0) [] := ⟨none, 0, rfl, .inl rfl⟩
theorem lit_k (w : World) : SetsAt ((w.alloc (.cells #[.int .u64 11, .int .u64 0, .int .u64 14, .int .u64 0] 32)).alloc (.cells #[.int .i64 1, .int .i64 (-1)] 3)) (.slice (some ⟨w.heap.size, 0, none⟩) 2 2) [11#128, 14#128] ∧ IntsAt ((w.alloc (.cells #[.int .u64 11, .int .u64 0, .int .u64 14, .int .u64 0] 32)).alloc (.cells #[.int .i64 1, .int .i64 (-1)] 3)) (.slice (some ⟨w.heap.size + 1, 0, none⟩) 2 2) [1, -1] ∧ Below w.heap.size w ((w.alloc (.cells #[.int .u64 11, .int .u64 0, .int .u64 14, .int .u64 0] 32)).alloc (.cells #[.int .i64 1, .int .i64 (-1)] 3)) := by
  have h1 := ((lit_sets w [11#128, 14#128] #[.int .u64 11, .int .u64 0, .int .u64 14, .int .u64 0] (by kernel_rfl)).alloc (.cells #[.int .i64 1, .int .i64 (-1)] 3)).sets 2
  have h2 := lit_ints (w.alloc (.cells #[.int .u64 11, .int .u64 0, .int .u64 14, .int .u64 0] 32)) [1, -1] 3 (by simp)
  rw [World.size_alloc] at h2
  exact ⟨h1, h2, ((Below.refl _ w).alloc (Nat.le_refl _) _).alloc (by simp) _⟩
theorem lit_a (w : World) : SetsAt ((w.alloc (.cells #[.int .u64 0, .int .u64 0, .int .u64 1, .int .u64 0] 32)).alloc (.cells #[.int .i64 1] 3)) (.slice (some ⟨w.heap.size, 0, none⟩) 2 2) [0#128, 1#128] ∧ IntsAt ((w.alloc (.cells #[.int .u64 0, .int .u64 0, .int .u64 1, .int .u64 0] 32)).alloc (.cells #[.int .i64 1] 3)) (.slice (some ⟨w.heap.size + 1, 0, none⟩) 1 1) [1] ∧ Below w.heap.size w ((w.alloc (.cells #[.int .u64 0, .int .u64 0, .int .u64 1, .int .u64 0] 32)).alloc (.cells #[.int .i64 1] 3)) := by
  have h1 := ((lit_sets w [0#128, 1#128] #[.int .u64 0, .int .u64 0, .int .u64 1, .int .u64 0] (by kernel_rfl)).alloc (.cells #[.int .i64 1] 3)).sets 2
  have h2 := lit_ints (w.alloc (.cells #[.int .u64 0, .int .u64 0, .int .u64 1, .int .u64 0] 32)) [1] 3 (by simp)
  rw [World.size_alloc] at h2
  exact ⟨h1, h2, ((Below.refl _ w).alloc (Nat.le_refl _) _).alloc (by simp) _⟩
theorem lit_b (w : World) : SetsAt ((w.alloc (.cells #[.int .u64 3, .int .u64 0, .int .u64 12, .int .u64 0] 32)).alloc (.cells #[.int .i64 1, .int .i64 (-1)] 3)) (.slice (some ⟨w.heap.size, 0, none⟩) 2 2) [3#128, 12#128] ∧ IntsAt ((w.alloc (.cells #[.int .u64 3, .int .u64 0, .int .u64 12, .int .u64 0] 32)).alloc (.cells #[.int .i64 1, .int .i64 (-1)] 3)) (.slice (some ⟨w.heap.size + 1, 0, none⟩) 2 2) [1, -1] ∧ Below w.heap.size w ((w.alloc (.cells #[.int .u64 3, .int .u64 0, .int .u64 12, .int .u64 0] 32)).alloc (.cells #[.int .i64 1, .int .i64 (-1)] 3)) := by
  have h1 := ((lit_sets w [3#128, 12#128] #[.int .u64 3, .int .u64 0, .int .u64 12, .int .u64 0] (by kernel_rfl)).alloc (.cells #[.int .i64 1, .int .i64 (-1)] 3)).sets 2
  have h2 := lit_ints (w.alloc (.cells #[.int .u64 3, .int .u64 0, .int .u64 12, .int .u64 0] 32)) [1, -1] 3 (by simp)
  rw [World.size_alloc] at h2
  exact ⟨h1, h2, ((Below.refl _ w).alloc (Nat.le_refl _) _).alloc (by simp) _⟩
theorem lit_c (w : World) : SetsAt ((w.alloc (.cells #[.int .u64 15, .int .u64 0, .int .u64 31, .int .u64 0] 32)).alloc (.cells #[.int .i64 (-1), .int .i64 0] 3)) (.slice (some ⟨w.heap.size, 0, none⟩) 2 2) [15#128, 31#128] ∧ IntsAt ((w.alloc (.cells #[.int .u64 15, .int .u64 0, .int .u64 31, .int .u64 0] 32)).alloc (.cells #[.int .i64 (-1), .int .i64 0] 3)) (.slice (some ⟨w.heap.size + 1, 0, none⟩) 2 2) [-1, 0] ∧ Below w.heap.size w ((w.alloc (.cells #[.int .u64 15, .int .u64 0, .int .u64 31, .int .u64 0] 32)).alloc (.cells #[.int .i64 (-1), .int .i64 0] 3)) := by
  have h1 := ((lit_sets w [15#128, 31#128] #[.int .u64 15, .int .u64 0, .int .u64 31, .int .u64 0] (by kernel_rfl)).alloc (.cells #[.int .i64 (-1), .int .i64 0] 3)).sets 2
  have h2 := lit_ints (w.alloc (.cells #[.int .u64 15, .int .u64 0, .int .u64 31, .int .u64 0] 32)) [-1, 0] 3 (by simp)
  rw [World.size_alloc] at h2
  exact ⟨h1, h2, ((Below.refl _ w).alloc (Nat.le_refl _) _).alloc (by simp) _⟩
theorem lit_lp (w : World) : SetsAt ((w.alloc (.cells #[.int .u64 15, .int .u64 0, .int .u64 15, .int .u64 0, .int .u64 15, .int .u64 0] 32)).alloc (.cells #[.int .i64 (-1), .int .i64 2, .int .i64 1] 3)) (.slice (some ⟨w.heap.size, 0, none⟩) 3 3) [15#128, 15#128, 15#128] ∧ IntsAt ((w.alloc (.cells #[.int .u64 15, .int .u64 0, .int .u64 15, .int .u64 0, .int .u64 15, .int .u64 0] 32)).alloc (.cells #[.int .i64 (-1), .int .i64 2, .int .i64 1] 3)) (.slice (some ⟨w.heap.size + 1, 0, none⟩) 3 3) [-1, 2, 1] ∧ Below w.heap.size w ((w.alloc (.cells #[.int .u64 15, .int .u64 0, .int .u64 15, .int .u64 0, .int .u64 15, .int .u64 0] 32)).alloc (.cells #[.int .i64 (-1), .int .i64 2, .int .i64 1] 3)) := by
  have h1 := ((lit_sets w [15#128, 15#128, 15#128] #[.int .u64 15, .int .u64 0, .int .u64 15, .int .u64 0, .int .u64 15, .int .u64 0] (by kernel_rfl)).alloc (.cells #[.int .i64 (-1), .int .i64 2, .int .i64 1] 3)).sets 3
  have h2 := lit_ints (w.alloc (.cells #[.int .u64 15, .int .u64 0, .int .u64 15, .int .u64 0, .int .u64 15, .int .u64 0] 32)) [-1, 2, 1] 3 (by simp)
  rw [World.size_alloc] at h2
  exact ⟨h1, h2, ((Below.refl _ w).alloc (Nat.le_refl _) _).alloc (by simp) _⟩
theorem lit_ap (w : World) : SetsAt ((w.alloc (.cells #[.int .u64 11, .int .u64 0, .int .u64 12, .int .u64 0, .int .u64 14, .int .u64 0, .int .u64 3, .int .u64 0] 32)).alloc (.cells #[.int .i64 1, .int .i64 2, .int .i64 (-1), .int .i64 2] 3)) (.slice (some ⟨w.heap.size, 0, none⟩) 4 4) [11#128, 12#128, 14#128, 3#128] ∧ IntsAt ((w.alloc (.cells #[.int .u64 11, .int .u64 0, .int .u64 12, .int .u64 0, .int .u64 14, .int .u64 0, .int .u64 3, .int .u64 0] 32)).alloc (.cells #[.int .i64 1, .int .i64 2, .int .i64 (-1), .int .i64 2] 3)) (.slice (some ⟨w.heap.size + 1, 0, none⟩) 4 4) [1, 2, -1, 2] ∧ Below w.heap.size w ((w.alloc (.cells #[.int .u64 11, .int .u64 0, .int .u64 12, .int .u64 0, .int .u64 14, .int .u64 0, .int .u64 3, .int .u64 0] 32)).alloc (.cells #[.int .i64 1, .int .i64 2, .int .i64 (-1), .int .i64 2] 3)) := by
  have h1 := ((lit_sets w [11#128, 12#128, 14#128, 3#128] #[.int .u64 11, .int .u64 0, .int .u64 12, .int .u64 0, .int .u64 14, .int .u64 0, .int .u64 3, .int .u64 0] (by kernel_rfl)).alloc (.cells #[.int .i64 1, .int .i64 2, .int .i64 (-1), .int .i64 2] 3)).sets 4
  have h2 := lit_ints (w.alloc (.cells #[.int .u64 11, .int .u64 0, .int .u64 12, .int .u64 0, .int .u64 14, .int .u64 0, .int .u64 3, .int .u64 0] 32)) [1, 2, -1, 2] 3 (by simp)
  rw [World.size_alloc] at h2
  exact ⟨h1, h2, ((Below.refl _ w).alloc (Nat.le_refl _) _).alloc (by simp) _⟩
set_option maxRecDepth 100000 in
set_option maxHeartbeats 16000000 in
theorem widthKnown_walk (w : World) (hT : TabAt w) : Calls Tryd.prog 3 #[] w (LawPost w) := by
  have HW := hid (fun w' (h : Below w.heap.size w w') => works_c w' (hT.below hT.lt h))
  have HTT := hid (fun w' (h : Below w.heap.size w w') => hT.below hT.lt h)
  go_enter Tryd.func3, Tryd.ntmps3
  go_wp2_with fail
  refine (circle_c w).mono ?_
  rintro e w1 ⟨v1, rfl, hs1, hb1⟩
  obtain ⟨pc, cc, rfl, hdrop⟩ := id hs1
  have hb2 : Below w1.heap.size w1 (w1.alloc (.cells #[.int .i64 1, .int .i64 2, .int .i64 3, .int .i64 4] 3)) := (Below.refl _ w1).alloc (Nat.le_refl _) _
  have hB2 := hb1.trans (hb2.mono hb1.size)
  have hl2 : IntsAt (w1.alloc (.cells #[.int .i64 1, .int .i64 2, .int .i64 3, .int .i64 4] 3)) (.slice (some ⟨w1.heap.size, 0, none⟩) 4 4) ex4 := lit_ints w1 [1, 2, 3, 4] 3 (by simp)
  have HO := hid (Of_tree_c _ _ cyc ex4 _ (hs1.below hb2) hl2 (HTT.out _ hB2) (by decide) (by decide))
  have HB2 := hid hB2
  clear hdrop hs1 hb1 hb2 hl2 hB2
  go_wp2_with fail
  refine HO.out.mono ?_
  rintro e w3 ⟨hb3, hpost⟩
  have hB3 := HB2.out.trans (hb3.mono HB2.out.size)
  rcases hpost with ⟨h, _⟩ | ⟨_, h, _⟩ | ⟨_, _, vB, vU, rfl, hoB, hoU⟩
  · rw [validG_yes ex_valid] at h; cases h
  · exact absurd ex_ord h
  rw [ex_bags] at hoB
  rw [ex_ups] at hoU
  obtain ⟨pB, cB, eB, _⟩ := hoB.sets
  obtain ⟨pU, cU, eU, _⟩ := hoU.ints
  have hX3 := hoB.sets
  have hY3 := hoU.ints
  subst eB eU
  have hba : Below w3.heap.size w3 (w3.alloc (.cells #[.slice pB exB.length cB, .slice pU exU.length cU] 25)) := (Below.refl _ w3).alloc (Nat.le_refl _) _
  have HX4 := hid (hX3.below hba)
  have HY4 := hid (hY3.below hba)
  have HB4 := hid (hB3.trans (hba.mono hB3.size))
  have HB1 := hid (Box2.new w3 25 (.slice pB exB.length cB) (.slice pU exU.length cU))
  clear hb3 hoB hoU HO HB2 hX3 hY3 hba hB3
  have HLK := hid (lit_k (w3.alloc (.cells #[.slice pB exB.length cB, .slice pU exU.length cU] 25)))
  simp only [World.size_alloc] at HLK
  have hs5 : SetsAt (((w3.alloc (.cells #[.slice pB exB.length cB, .slice pU exU.length cU] 25)).alloc (.cells #[.int .u64 11, .int .u64 0, .int .u64 14, .int .u64 0] 32)).alloc (.cells #[.int .i64 1, .int .i64 (-1)] 3)) (.slice (some ⟨w3.heap.size + 1, 0, none⟩) 2 2) kB := HLK.out.1
  have hi5 : IntsAt (((w3.alloc (.cells #[.slice pB exB.length cB, .slice pU exU.length cU] 25)).alloc (.cells #[.int .u64 11, .int .u64 0, .int .u64 14, .int .u64 0] 32)).alloc (.cells #[.int .i64 1, .int .i64 (-1)] 3)) (.slice (some ⟨w3.heap.size + 1 + 1, 0, none⟩) 2 2) kU := HLK.out.2.1
  have hb45 : Below (w3.alloc (.cells #[.slice pB exB.length cB, .slice pU exU.length cU] 25)).heap.size (w3.alloc (.cells #[.slice pB exB.length cB, .slice pU exU.length cU] 25)) (((w3.alloc (.cells #[.slice pB exB.length cB, .slice pU exU.length cU] 25)).alloc (.cells #[.int .u64 11, .int .u64 0, .int .u64 14, .int .u64 0] 32)).alloc (.cells #[.int .i64 1, .int .i64 (-1)] 3)) := ((Below.refl _ (w3.alloc (.cells #[.slice pB exB.length cB, .slice pU exU.length cU] 25))).alloc (Nat.le_refl _) _).alloc (by simp) _
  have hb5 : Below (((w3.alloc (.cells #[.slice pB exB.length cB, .slice pU exU.length cU] 25)).alloc (.cells #[.int .u64 11, .int .u64 0, .int .u64 14, .int .u64 0] 32)).alloc (.cells #[.int .i64 1, .int .i64 (-1)] 3)).heap.size (((w3.alloc (.cells #[.slice pB exB.length cB, .slice pU exU.length cU] 25)).alloc (.cells #[.int .u64 11, .int .u64 0, .int .u64 14, .int .u64 0] 32)).alloc (.cells #[.int .i64 1, .int .i64 (-1)] 3)) ((((w3.alloc (.cells #[.slice pB exB.length cB, .slice pU exU.length cU] 25)).alloc (.cells #[.int .u64 11, .int .u64 0, .int .u64 14, .int .u64 0] 32)).alloc (.cells #[.int .i64 1, .int .i64 (-1)] 3)).alloc (.cells #[.slice (some ⟨w3.heap.size + 1, 0, none⟩) 2 2, .slice (some ⟨w3.heap.size + 1 + 1, 0, none⟩) 2 2] 33)) := (Below.refl _ _).alloc (Nat.le_refl _) _
  have hb46 := hb45.trans (hb5.mono hb45.size)
  have hbx5 := Box2.new (((w3.alloc (.cells #[.slice pB exB.length cB, .slice pU exU.length cU] 25)).alloc (.cells #[.int .u64 11, .int .u64 0, .int .u64 14, .int .u64 0] 32)).alloc (.cells #[.int .i64 1, .int .i64 (-1)] 3)) 33 (.slice (some ⟨w3.heap.size + 1, 0, none⟩) 2 2) (.slice (some ⟨w3.heap.size + 1 + 1, 0, none⟩) 2 2)
  simp only [World.size_alloc] at hbx5
  have HS6 := hid (hs5.below hb5)
  have HI6 := hid (hi5.below hb5)
  have HX6 := hid (HX4.out.below hb46)
  have HY6 := hid (HY4.out.below hb46)
  have HB6 := hid (HB4.out.trans (hb46.mono HB4.out.size))
  have HB16 := hid (HB1.out.below hb46 (by simp))
  have HB36 := hid hbx5
  clear hs5 hi5 hb45 hb5 hb46 hbx5 HLK HX4 HY4 HB4 HB1
  go_wp2_with fail
  generalize (((w3.alloc (.cells #[.slice pB exB.length cB, .slice pU exU.length cU] 25)).alloc (.cells #[.int .u64 11, .int .u64 0, .int .u64 14, .int .u64 0] 32)).alloc (.cells #[.int .i64 1, .int .i64 (-1)] 3)).alloc (.cells #[.slice (some ⟨w3.heap.size + 1, 0, none⟩) 2 2, .slice (some ⟨w3.heap.size + 1 + 1, 0, none⟩) 2 2] 33) = w6 at *
  generalize w3.heap.size = n3 at *
  have hbd := (Below.refl w6.heap.size w6).drew
  have HSd := hid (fun w' (h : Below w6.drew.heap.size w6.drew w') => (HS6.out.below hbd).below h)
  have HId := hid (fun w' (h : Below w6.drew.heap.size w6.drew w') => (HI6.out.below hbd).below h)
  have HXd := hid (fun w' (h : Below w6.drew.heap.size w6.drew w') => (HX6.out.below hbd).below h)
  have HYd := hid (fun w' (h : Below w6.drew.heap.size w6.drew w') => (HY6.out.below hbd).below h)
  have HBd := hid (HB6.out.trans (hbd.mono HB6.out.size))
  have HTd := hid (fun w' (h : Below w6.drew.heap.size w6.drew w') => HTT.out w' (HBd.out.trans (h.mono HBd.out.size)))
  have BX1 : Hid (Box2 w6.drew n3 25 (.slice pB exB.length cB) (.slice pU exU.length cU)) := HB16.out
  have BX3 : Hid (Box2 w6.drew (n3 + 1 + 1 + 1) 33 (.slice (some ⟨n3 + 1, 0, none⟩) 2 2) (.slice (some ⟨n3 + 1 + 1, 0, none⟩) 2 2)) := HB36.out
  have HBS := hid (Below.refl w6.drew.heap.size w6.drew)
  clear hbd HS6 HI6 HX6 HY6 HB6 HB16 HB36
  refine Go.Proofs.YtmlecpapoeodkaaDoor.wp_region_L 11 8 (fun w' => Box2 w' (n3) 25 (.slice pB exB.length cB) (.slice pU exU.length cU) ∧ Box2 w' (n3 + 1 + 1 + 1) 33 (.slice (some ⟨n3 + 1, 0, none⟩) 2 2) (.slice (some ⟨n3 + 1 + 1, 0, none⟩) 2 2)) (by kernel_rfl) rfl ⟨BX1.out, BX3.out⟩ (fun _ => ?_)
  refine wpAnyL_one (i := 0) (by kernel_rfl) (by simp only [List.getElem?_toArray, List.getElem?_cons_zero] <;> rfl) (by rfl) ?_
  refine opwp_call (f := 14) (args := #[]) (w' := w6.drew) (by simp [go_sem]) ?_
  refine (circle_c w6.drew).mono ?_
  rintro e w7 ⟨v7, rfl, hs7, hb7⟩
  have hcn1_0 := hid (BX1.out.below hb7 BX1.out.lt)
  have hcn1_1 := hid (BX3.out.below hb7 BX3.out.lt)
  have hBn1 := HBS.out.trans (hb7.mono HBS.out.size)
  have HLO := hid (Lower_c v7 cyc w7 hs7 (HTd.out _ hBn1) (by decide))
  rw [k_low] at HLO
  refine .inl ⟨_, rfl, .inr ⟨hcn1_0.out, hcn1_1.out⟩, ?_⟩
  simp only [Act.put, List.setIfInBounds_toArray, List.set_cons_zero, List.set_cons_succ]
  refine wpAnyL_one (i := 1) (by kernel_rfl) (by simp only [List.getElem?_toArray, List.getElem?_cons_zero, List.getElem?_cons_succ] <;> rfl) (by rfl) ?_
  refine opwp_call (f := 15) (args := #[v7]) (w' := w7) (by simp [go_sem, Act.eval]) ?_
  refine (HLO.out).mono ?_
  rintro e w8 ⟨rfl, hb8⟩
  have hcn2_0 := hid (hcn1_0.out.below hb8 hcn1_0.out.lt)
  have hcn2_1 := hid (hcn1_1.out.below hb8 hcn1_1.out.lt)
  have hBn2 := hBn1.trans (hb8.mono hBn1.size)
  refine .inl ⟨_, rfl, .inr ⟨hcn2_0.out, hcn2_1.out⟩, ?_⟩
  simp only [Act.put, List.setIfInBounds_toArray, List.set_cons_zero, List.set_cons_succ]
  refine wpAnyL_pure (i := 2) (v := .bool false) (by simp only [List.getElem?_toArray, List.getElem?_cons_zero, List.getElem?_cons_succ] <;> rfl) (by kernel_rfl) (by kernel_rfl) (by kernel_rfl) (by exact fun _ _ _ h => h) (by decide) (.inr ⟨hcn2_0.out, hcn2_1.out⟩) (Or.inl ⟨by rfl, fun w _ => (by simp [execOp, go_sem, Act.eval])⟩) (fun _ => ?_)
  simp only [Act.put, List.setIfInBounds_toArray, List.set_cons_zero, List.set_cons_succ]
  refine wpAnyL_pure (i := 3) (v := .bool false) (by simp only [List.getElem?_toArray, List.getElem?_cons_zero, List.getElem?_cons_succ] <;> rfl) (by kernel_rfl) (by kernel_rfl) (by kernel_rfl) (by exact fun _ _ _ h => h) (by decide) (.inr ⟨hcn2_0.out, hcn2_1.out⟩) (Or.inl ⟨by rfl, fun w _ => (by simp [execOp, go_sem, Act.eval])⟩) (fun _ => ?_)
  simp only [Act.put, List.setIfInBounds_toArray, List.set_cons_zero, List.set_cons_succ]
  refine wpAnyL_load2 (i := 4) (v := .agg #[.slice pB exB.length cB, .slice pU exU.length cU]) (by simp only [List.getElem?_toArray, List.getElem?_cons_zero, List.getElem?_cons_succ] <;> rfl) (by kernel_rfl) (by kernel_rfl) (by kernel_rfl) (by exact fun _ _ _ h => h) (by decide) (Waits.more (j := 6) rfl ⟨⟨6, .data⟩, by simp, rfl, rfl⟩ (Waits.more (j := 5) rfl ⟨⟨5, .data⟩, by simp, rfl, rfl⟩ (Waits.one rfl ⟨⟨4, .data⟩, by simp, rfl, rfl⟩))) (by kernel_rfl) (by kernel_rfl) (.inr ⟨hcn2_0.out, hcn2_1.out⟩) (Or.inl ⟨by rfl, fun w hw => (by obtain ⟨x0, _⟩ := hw; simp [execOp, go_sem, Act.eval, x0.cells.1, x0.cells.2.1])⟩) (fun _ => ?_)
  simp only [Act.put, List.setIfInBounds_toArray, List.set_cons_zero, List.set_cons_succ]
  refine wpAnyL_load2 (i := 7) (v := .agg #[.slice (some ⟨n3 + 1, 0, none⟩) 2 2, .slice (some ⟨n3 + 1 + 1, 0, none⟩) 2 2]) (by simp only [List.getElem?_toArray, List.getElem?_cons_zero, List.getElem?_cons_succ] <;> rfl) (by kernel_rfl) (by kernel_rfl) (by kernel_rfl) (by exact fun _ _ _ h => h) (by decide) (Waits.one rfl ⟨⟨7, .data⟩, by simp, rfl, rfl⟩) (by kernel_rfl) (by kernel_rfl) (.inr ⟨hcn2_0.out, hcn2_1.out⟩) (Or.inl ⟨by rfl, fun w hw => (by obtain ⟨_, x1⟩ := hw; simp [execOp, go_sem, Act.eval, x1.cells.1, x1.cells.2.1])⟩) (fun _ => ?_)
  simp only [Act.put, List.setIfInBounds_toArray, List.set_cons_zero, List.set_cons_succ]
  refine wpAnyL_one (i := 5) (by kernel_rfl) (by simp only [List.getElem?_toArray, List.getElem?_cons_zero, List.getElem?_cons_succ] <;> rfl) (by rfl) ?_
  refine opwp_call (f := 18) (args := #[.agg #[.slice pB exB.length cB, .slice pU exU.length cU]]) (w' := w8) (by simp [go_sem, Act.eval]) ?_
  refine (Merge_c _ _ exB exU w8 (HXd.out _ hBn2) (HYd.out _ hBn2) (by decide) (by decide)).mono ?_
  rintro e w9 ⟨vB3, vU3, B3, U3, rfl, o1, o2, hb9, hmt3⟩
  have hcn3_0 := hid (hcn2_0.out.below hb9 hcn2_0.out.lt)
  have hcn3_1 := hid (hcn2_1.out.below hb9 hcn2_1.out.lt)
  have hBn3 := hBn2.trans (hb9.mono hBn2.size)
  obtain ⟨e1, e2⟩ : B3 = kB ∧ U3 = kU := by
    rcases hmt3 with ⟨a, _, _⟩ | ⟨_, b⟩
    · exact absurd a (by decide +kernel)
    · obtain ⟨e1, e2⟩ := k_run.det b; exact ⟨e1.symm, e2.symm⟩
  subst e1; subst e2
  have hs9 := o1.sets
  have hi9 := o2.ints
  obtain ⟨p9, c9, e9, _⟩ := o1.sets
  obtain ⟨q9, d9, f9, _⟩ := o2.ints
  subst e9; subst f9
  refine .inl ⟨_, rfl, .inr ⟨hcn3_0.out, hcn3_1.out⟩, ?_⟩
  simp only [Act.put, List.setIfInBounds_toArray, List.set_cons_zero, List.set_cons_succ]
  refine wpAnyL_one (i := 6) (by kernel_rfl) (by simp only [List.getElem?_toArray, List.getElem?_cons_zero, List.getElem?_cons_succ] <;> rfl) (by rfl) ?_
  refine opwp_call (f := 17) (args := #[.agg #[.slice p9 kB.length c9, .slice q9 kU.length d9]]) (w' := w9) (by simp [go_sem, Act.eval]) ?_
  refine (taken_c p9 q9 kB.length c9 kU.length d9 w9).mono ?_
  rintro e w10 ⟨rfl, hb10⟩
  have hcn4_0 := hid (hcn3_0.out.below hb10 hcn3_0.out.lt)
  have hcn4_1 := hid (hcn3_1.out.below hb10 hcn3_1.out.lt)
  have hBn4 := hBn3.trans (hb10.mono hBn3.size)
  have HSM := hid (same_c _ _ _ _ kB kB kU kU w10 (hs9.below hb10) (hi9.below hb10) (HSd.out _ hBn4) (HId.out _ hBn4) (by decide) (by decide) (by decide) (by decide))
  rw [decide_eq_true (show kB = kB ∧ kU = kU from ⟨rfl, rfl⟩)] at HSM
  refine .inl ⟨_, rfl, .inr ⟨hcn4_0.out, hcn4_1.out⟩, ?_⟩
  simp only [Act.put, List.setIfInBounds_toArray, List.set_cons_zero, List.set_cons_succ]
  refine wpAnyL_one (i := 8) (by kernel_rfl) (by simp only [List.getElem?_toArray, List.getElem?_cons_zero, List.getElem?_cons_succ] <;> rfl) (by rfl) ?_
  refine opwp_call (f := 16) (args := #[.agg #[.slice p9 kB.length c9, .slice q9 kU.length d9], .agg #[.slice (some ⟨n3 + 1, 0, none⟩) 2 2, .slice (some ⟨n3 + 1 + 1, 0, none⟩) 2 2]]) (w' := w10) (by simp [go_sem, Act.eval]) ?_
  refine (HSM.out).mono ?_
  rintro e w11 ⟨rfl, hb11⟩
  have hBn5 := hBn4.trans (hb11.mono hBn4.size)
  refine .inl ⟨_, rfl, .inl (by kernel_rfl), ?_⟩
  simp only [Act.put, List.setIfInBounds_toArray, List.set_cons_zero, List.set_cons_succ]
  refine wpAnyL_pure (i := 9) (v := .bool false) (by simp only [List.getElem?_toArray, List.getElem?_cons_zero, List.getElem?_cons_succ] <;> rfl) (by kernel_rfl) (by kernel_rfl) (by kernel_rfl) (by exact fun _ _ _ h => h) (by decide) (.inl (by kernel_rfl)) (Or.inl ⟨by rfl, fun w _ => (by simp [execOp, go_sem, Act.eval])⟩) (fun _ => ?_)
  simp only [Act.put, List.setIfInBounds_toArray, List.set_cons_zero, List.set_cons_succ]
  refine wpAnyL_pure (i := 10) (v := .bool false) (by simp only [List.getElem?_toArray, List.getElem?_cons_zero, List.getElem?_cons_succ] <;> rfl) (by kernel_rfl) (by kernel_rfl) (by kernel_rfl) (by exact fun _ _ _ h => h) (by decide) (.inl (by kernel_rfl)) (Or.inl ⟨by rfl, fun w _ => (by simp [execOp, go_sem, Act.eval])⟩) (fun _ => ?_)
  simp only [Act.put, List.setIfInBounds_toArray, List.set_cons_zero, List.set_cons_succ]
  refine wpAnyL_done (by kernel_rfl) ?_ _
  have HB11 := hid (HBd.out.trans (hBn5.mono HBd.out.size))
  clear BX1 BX3 HBS hBn1 hBn2 hBn3 hBn4 hBn5 HSd HId HXd HYd HTd HBd hb7 hb8 hb9 hb10 hb11 HLO HSM hs9 hi9 hs7 o1 o2 hmt3
  go_wp2_with fail
  refine (circle_c w11).mono ?_
  rintro e w12 ⟨v12, rfl, hs12, hb12⟩
  obtain ⟨pd, cd, rfl, hdrop⟩ := id hs12
  have hb13 : Below w12.heap.size w12 (w12.alloc (.cells #[.int .i64 1, .int .i64 1, .int .i64 2, .int .i64 3] 3)) := (Below.refl _ w12).alloc (Nat.le_refl _) _
  have hB13 := HB11.out.trans ((hb12.trans (hb13.mono hb12.size)).mono HB11.out.size)
  have hl13 : IntsAt (w12.alloc (.cells #[.int .i64 1, .int .i64 1, .int .i64 2, .int .i64 3] 3)) (.slice (some ⟨w12.heap.size, 0, none⟩) 4 4) [1, 1, 2, 3] := lit_ints w12 [1, 1, 2, 3] 3 (by simp)
  have HO := hid (Of_tree_c _ _ cyc [1, 1, 2, 3] _ (hs12.below hb13) hl13 (HTT.out _ hB13) (by decide) (by decide))
  have HB13 := hid hB13
  clear hdrop hs12 hb12 hb13 hl13 hB13 HB11
  go_wp2_with fail
  refine HO.out.mono ?_
  rintro e w14 ⟨hb14, hpost⟩
  have hB14 := HB13.out.trans (hb14.mono HB13.out.size)
  rcases hpost with ⟨h, _⟩ | ⟨_, _, rfl⟩ | ⟨_, h, _⟩
  · rw [validG_yes ex_valid] at h; cases h
  rotate_left
  · exact absurd h k_ord
  have hba := (Below.refl w14.heap.size w14).alloc (Nat.le_refl _) (.cells #[.slice none 0 0, .slice none 0 0] 25)
  have HB15 := hid (hB14.trans (hba.mono hB14.size))
  have HLA := hid (lit_a (w14.alloc (.cells #[.slice none 0 0, .slice none 0 0] 25)))
  have hbl := HB15.out.trans (HLA.out.2.2.mono HB15.out.size)
  have HB16 := hid hbl
  simp only [World.size_alloc] at HLA
  have HO2 := hid (Of_tree_c _ _ [0#128, 1#128] [1] _ HLA.out.1 HLA.out.2.1 (HTT.out _ hbl) (by decide) (by decide))
  clear hb14 hB14 HO HB13 hba hbl HB15 HLA
  go_wp2_with fail
  refine HO2.out.mono ?_
  rintro e w17 ⟨hb17, hpost⟩
  have hB17 := HB16.out.trans (hb17.mono HB16.out.size)
  rcases hpost with ⟨_, rfl⟩ | ⟨h, _, _⟩ | ⟨h, _, _⟩
  rotate_left
  · exact absurd k_bad (by rw [validG_yes h]; decide)
  · exact absurd k_bad (by rw [validG_yes h]; decide)
  have hba := (Below.refl w17.heap.size w17).alloc (Nat.le_refl _) (.cells #[.slice none 0 0, .slice none 0 0] 25)
  have HB18 := hid (hB17.trans (hba.mono hB17.size))
  have hmk := fun w' => make_sets w' 1 (by omega) 1 1 (by simp) (by simp)
  have hr19 : SetRow ((w17.alloc (.cells #[.slice none 0 0, .slice none 0 0] 25)).alloc (.cells (madeCells #[.int .u64 ((lw 0#128).toNat : Int), .int .u64 ((hw 0#128).toNat : Int)] 2) 32)) (w17.heap.size + 1) [0#128] := by
    have := SetRow.made (w17.alloc (.cells #[.slice none 0 0, .slice none 0 0] 25)) 1
    rw [World.size_alloc] at this
    exact this
  have hb19 := (Below.refl (w17.alloc (.cells #[.slice none 0 0, .slice none 0 0] 25)).heap.size (w17.alloc (.cells #[.slice none 0 0, .slice none 0 0] 25))).alloc (Nat.le_refl _) (.cells (madeCells #[.int .u64 ((lw 0#128).toNat : Int), .int .u64 ((hw 0#128).toNat : Int)] 2) 32)
  have hB19 := HB18.out.trans (hb19.mono HB18.out.size)
  have HO3 := hid (Of_tree_c _ _ [0#128] [] _ (hr19.sets 1) (nil_ints _) (HTT.out _ hB19) (by decide) (by decide))
  have HB19 := hid hB19
  clear hb17 hB17 HO2 HB16 hba hr19 hb19 hB19 HB18
  go_wp2_with fail
  clear hmk
  refine HO3.out.mono ?_
  rintro e w20 ⟨hb20, hpost⟩
  have hB20 := HB19.out.trans (hb20.mono HB19.out.size)
  rcases hpost with ⟨h, _⟩ | ⟨_, h, _⟩ | ⟨_, _, vB, vU, rfl, hoB, hoU⟩
  · rw [k_one] at h; cases h
  · exact absurd k_ord0 h
  rw [show bagsP (gOf [0#128]) [] = [] from rfl] at hoB
  rw [show upsP (gOf [0#128]) [] = [] from rfl] at hoU
  have hX20 := hoB.sets
  have hY20 := hoU.ints
  obtain ⟨pE, cE, eE, _⟩ := hoB.sets
  obtain ⟨pF, cF, eF, _⟩ := hoU.ints
  subst eE; subst eF
  have hba := (Below.refl w20.heap.size w20).alloc (Nat.le_refl _) (.cells #[.slice pE 0 cE, .slice pF 0 cF] 25)
  have HX21 := hid (hX20.below hba)
  have HY21 := hid (hY20.below hba)
  have HBE := hid (Box2.new w20 25 (.slice pE 0 cE) (.slice pF 0 cF))
  have HB21 := hid (hB20.trans (hba.mono hB20.size))
  clear hb20 hB20 HO3 HB19 hoB hoU hX20 hY20 hba
  go_wp2_with fail
  generalize w20.alloc (.cells #[.slice pE 0 cE, .slice pF 0 cF] 25) = w21 at *
  generalize w20.heap.size = pq at *
  have hbd := (Below.refl w21.heap.size w21).drew
  have HXd := hid (fun w' (h : Below w21.drew.heap.size w21.drew w') => (HX21.out.below hbd).below h)
  have HYd := hid (fun w' (h : Below w21.drew.heap.size w21.drew w') => (HY21.out.below hbd).below h)
  have HBd := hid (HB21.out.trans (hbd.mono HB21.out.size))
  have HTd := hid (fun w' (h : Below w21.drew.heap.size w21.drew w') => HTT.out w' (HBd.out.trans (h.mono HBd.out.size)))
  have BE : Hid (Box2 w21.drew pq 25 (.slice pE 0 cE) (.slice pF 0 cF)) := HBE.out
  have HBS := hid (Below.refl w21.drew.heap.size w21.drew)
  clear hbd HX21 HY21 HB21 HBE
  have HWI := hid (wWidth_c _ (.slice pF 0 cF) [] w21.drew (HXd.out _ HBS.out) (by decide))
  rw [k_wid0] at HWI
  refine Go.Proofs.YtmlecpapoeodkaaDoor.wp_region_L 36 33 (fun w' => Box2 w' (pq) 25 (.slice pE 0 cE) (.slice pF 0 cF)) (by kernel_rfl) rfl BE.out (fun _ => ?_)
  refine wpAnyL_pure (i := 0) (v := .int .i64 5) (by simp only [List.getElem?_toArray, List.getElem?_cons_zero] <;> rfl) (by kernel_rfl) (by kernel_rfl) (by kernel_rfl) (by exact fun _ _ _ h => h) (by decide) (.inr BE.out) (Or.inl ⟨by rfl, fun w _ => (by simp [execOp, go_sem, Act.eval])⟩) (fun _ => ?_)
  simp only [Act.put, List.setIfInBounds_toArray, List.set_cons_zero, List.set_cons_succ]
  refine wpAnyL_pure (i := 1) (v := .bool false) (by simp only [List.getElem?_toArray, List.getElem?_cons_zero, List.getElem?_cons_succ] <;> rfl) (by kernel_rfl) (by kernel_rfl) (by kernel_rfl) (by exact fun _ _ _ h => h) (by decide) (.inr BE.out) (Or.inl ⟨by rfl, fun w _ => (by simp [execOp, go_sem, Act.eval])⟩) (fun _ => ?_)
  simp only [Act.put, List.setIfInBounds_toArray, List.set_cons_zero, List.set_cons_succ]
  refine wpAnyL_pure (i := 2) (v := .bool false) (by simp only [List.getElem?_toArray, List.getElem?_cons_zero, List.getElem?_cons_succ] <;> rfl) (by kernel_rfl) (by kernel_rfl) (by kernel_rfl) (by exact fun _ _ _ h => h) (by decide) (.inr BE.out) (Or.inl ⟨by rfl, fun w _ => (by simp [execOp, go_sem, Act.eval])⟩) (fun _ => ?_)
  simp only [Act.put, List.setIfInBounds_toArray, List.set_cons_zero, List.set_cons_succ]
  refine wpAnyL_pure (i := 3) (v := .int .i64 1) (by simp only [List.getElem?_toArray, List.getElem?_cons_zero, List.getElem?_cons_succ] <;> rfl) (by kernel_rfl) (by kernel_rfl) (by kernel_rfl) (by exact fun _ _ _ h => h) (by decide) (.inr BE.out) (Or.inl ⟨by rfl, fun w _ => (by simp [execOp, go_sem, Act.eval])⟩) (fun _ => ?_)
  simp only [Act.put, List.setIfInBounds_toArray, List.set_cons_zero, List.set_cons_succ]
  refine wpAnyL_pure (i := 4) (v := .bool false) (by simp only [List.getElem?_toArray, List.getElem?_cons_zero, List.getElem?_cons_succ] <;> rfl) (by kernel_rfl) (by kernel_rfl) (by kernel_rfl) (by exact fun _ _ _ h => h) (by decide) (.inr BE.out) (Or.inl ⟨by rfl, fun w _ => (by simp [execOp, go_sem, Act.eval])⟩) (fun _ => ?_)
  simp only [Act.put, List.setIfInBounds_toArray, List.set_cons_zero, List.set_cons_succ]
  refine wpAnyL_pure (i := 5) (v := .bool false) (by simp only [List.getElem?_toArray, List.getElem?_cons_zero, List.getElem?_cons_succ] <;> rfl) (by kernel_rfl) (by kernel_rfl) (by kernel_rfl) (by exact fun _ _ _ h => h) (by decide) (.inr BE.out) (Or.inl ⟨by rfl, fun w _ => (by simp [execOp, go_sem, Act.eval])⟩) (fun _ => ?_)
  simp only [Act.put, List.setIfInBounds_toArray, List.set_cons_zero, List.set_cons_succ]
  refine wpAnyL_pure (i := 6) (v := .bool false) (by simp only [List.getElem?_toArray, List.getElem?_cons_zero, List.getElem?_cons_succ] <;> rfl) (by kernel_rfl) (by kernel_rfl) (by kernel_rfl) (by exact fun _ _ _ h => h) (by decide) (.inr BE.out) (Or.inl ⟨by rfl, fun w _ => (by simp [execOp, go_sem, Act.eval])⟩) (fun _ => ?_)
  simp only [Act.put, List.setIfInBounds_toArray, List.set_cons_zero, List.set_cons_succ]
  refine wpAnyL_pure (i := 7) (v := .int .i64 0) (by simp only [List.getElem?_toArray, List.getElem?_cons_zero, List.getElem?_cons_succ] <;> rfl) (by kernel_rfl) (by kernel_rfl) (by kernel_rfl) (by exact fun _ _ _ h => h) (by decide) (.inr BE.out) (Or.inl ⟨by rfl, fun w _ => (by simp [execOp, go_sem, Act.eval])⟩) (fun _ => ?_)
  simp only [Act.put, List.setIfInBounds_toArray, List.set_cons_zero, List.set_cons_succ]
  refine wpAnyL_pure (i := 8) (v := .bool false) (by simp only [List.getElem?_toArray, List.getElem?_cons_zero, List.getElem?_cons_succ] <;> rfl) (by kernel_rfl) (by kernel_rfl) (by kernel_rfl) (by exact fun _ _ _ h => h) (by decide) (.inr BE.out) (Or.inl ⟨by rfl, fun w _ => (by simp [execOp, go_sem, Act.eval])⟩) (fun _ => ?_)
  simp only [Act.put, List.setIfInBounds_toArray, List.set_cons_zero, List.set_cons_succ]
  refine wpAnyL_pure (i := 9) (v := .bool false) (by simp only [List.getElem?_toArray, List.getElem?_cons_zero, List.getElem?_cons_succ] <;> rfl) (by kernel_rfl) (by kernel_rfl) (by kernel_rfl) (by exact fun _ _ _ h => h) (by decide) (.inr BE.out) (Or.inl ⟨by rfl, fun w _ => (by simp [execOp, go_sem, Act.eval])⟩) (fun _ => ?_)
  simp only [Act.put, List.setIfInBounds_toArray, List.set_cons_zero, List.set_cons_succ]
  refine wpAnyL_pure (i := 10) (v := .bool false) (by simp only [List.getElem?_toArray, List.getElem?_cons_zero, List.getElem?_cons_succ] <;> rfl) (by kernel_rfl) (by kernel_rfl) (by kernel_rfl) (by exact fun _ _ _ h => h) (by decide) (.inr BE.out) (Or.inl ⟨by rfl, fun w _ => (by simp [execOp, go_sem, Act.eval])⟩) (fun _ => ?_)
  simp only [Act.put, List.setIfInBounds_toArray, List.set_cons_zero, List.set_cons_succ]
  refine wpAnyL_pure (i := 11) (v := .pointer (some ⟨pq, 0, none⟩)) (by simp only [List.getElem?_toArray, List.getElem?_cons_zero, List.getElem?_cons_succ] <;> rfl) (by kernel_rfl) (by kernel_rfl) (by kernel_rfl) (by exact fun _ _ _ h => h) (by decide) (.inr BE.out) (Or.inl ⟨by rfl, fun w _ => (by simp [execOp, go_sem, Act.eval])⟩) (fun _ => ?_)
  simp only [Act.put, List.setIfInBounds_toArray, List.set_cons_zero, List.set_cons_succ]
  refine wpAnyL_load2 (i := 12) (v := .slice pE 0 cE) (by simp only [List.getElem?_toArray, List.getElem?_cons_zero, List.getElem?_cons_succ] <;> rfl) (by kernel_rfl) (by kernel_rfl) (by kernel_rfl) (by exact fun _ _ _ h => h) (by decide) (Waits.more (j := 31) rfl ⟨⟨31, .chain⟩, by simp, rfl, rfl⟩ (Waits.more (j := 30) rfl ⟨⟨30, .data⟩, by simp, rfl, rfl⟩ (Waits.more (j := 25) rfl ⟨⟨25, .data⟩, by simp, rfl, rfl⟩ (Waits.more (j := 24) rfl ⟨⟨24, .data⟩, by simp, rfl, rfl⟩ (Waits.more (j := 21) rfl ⟨⟨21, .data⟩, by simp, rfl, rfl⟩ (Waits.more (j := 20) rfl ⟨⟨20, .data⟩, by simp, rfl, rfl⟩ (Waits.more (j := 16) rfl ⟨⟨16, .data⟩, by simp, rfl, rfl⟩ (Waits.more (j := 15) rfl ⟨⟨15, .data⟩, by simp, rfl, rfl⟩ (Waits.more (j := 14) rfl ⟨⟨14, .data⟩, by simp, rfl, rfl⟩ (Waits.more (j := 13) rfl ⟨⟨13, .data⟩, by simp, rfl, rfl⟩ (Waits.one rfl ⟨⟨12, .data⟩, by simp, rfl, rfl⟩))))))))))) (by kernel_rfl) (by kernel_rfl) (.inr BE.out) (Or.inl ⟨by rfl, fun w hw => (by have x0 := hw; simp [execOp, go_sem, Act.eval, x0.cells.1])⟩) (fun _ => ?_)
  simp only [Act.put, List.setIfInBounds_toArray, List.set_cons_zero, List.set_cons_succ]
  refine wpAnyL_pure (i := 13) (v := .int .i64 ((0 : Nat) : Int)) (by simp only [List.getElem?_toArray, List.getElem?_cons_zero, List.getElem?_cons_succ] <;> rfl) (by kernel_rfl) (by kernel_rfl) (by kernel_rfl) (by exact fun _ _ _ h => h) (by decide) (.inr BE.out) (Or.inl ⟨by rfl, fun w _ => (by simp [go_sem, Act.eval])⟩) (fun _ => ?_)
  simp only [Act.put, List.setIfInBounds_toArray, List.set_cons_zero, List.set_cons_succ]
  refine wpAnyL_pure (i := 14) (v := .bool false) (by simp only [List.getElem?_toArray, List.getElem?_cons_zero, List.getElem?_cons_succ] <;> rfl) (by kernel_rfl) (by kernel_rfl) (by kernel_rfl) (by exact fun _ _ _ h => h) (by decide) (.inr BE.out) (Or.inl ⟨by rfl, fun w _ => (by simp [execOp, go_sem, Act.eval])⟩) (fun _ => ?_)
  simp only [Act.put, List.setIfInBounds_toArray, List.set_cons_zero, List.set_cons_succ]
  refine wpAnyL_pure (i := 15) (v := .bool false) (by simp only [List.getElem?_toArray, List.getElem?_cons_zero, List.getElem?_cons_succ] <;> rfl) (by kernel_rfl) (by kernel_rfl) (by kernel_rfl) (by exact fun _ _ _ h => h) (by decide) (.inr BE.out) (Or.inl ⟨by rfl, fun w _ => (by simp [execOp, go_sem, Act.eval])⟩) (fun _ => ?_)
  simp only [Act.put, List.setIfInBounds_toArray, List.set_cons_zero, List.set_cons_succ]
  refine wpAnyL_pure (i := 16) (v := .bool false) (by simp only [List.getElem?_toArray, List.getElem?_cons_zero, List.getElem?_cons_succ] <;> rfl) (by kernel_rfl) (by kernel_rfl) (by kernel_rfl) (by exact fun _ _ _ h => h) (by decide) (.inr BE.out) (Or.inl ⟨by rfl, fun w _ => (by simp [execOp, go_sem, Act.eval])⟩) (fun _ => ?_)
  simp only [Act.put, List.setIfInBounds_toArray, List.set_cons_zero, List.set_cons_succ]
  refine wpAnyL_load2 (i := 17) (v := .agg #[.slice pE 0 cE, .slice pF 0 cF]) (by simp only [List.getElem?_toArray, List.getElem?_cons_zero, List.getElem?_cons_succ] <;> rfl) (by kernel_rfl) (by kernel_rfl) (by kernel_rfl) (by exact fun _ _ _ h => h) (by decide) (Waits.more (j := 31) rfl ⟨⟨31, .chain⟩, by simp, rfl, rfl⟩ (Waits.more (j := 30) rfl ⟨⟨30, .data⟩, by simp, rfl, rfl⟩ (Waits.more (j := 25) rfl ⟨⟨25, .data⟩, by simp, rfl, rfl⟩ (Waits.more (j := 24) rfl ⟨⟨24, .data⟩, by simp, rfl, rfl⟩ (Waits.more (j := 21) rfl ⟨⟨21, .data⟩, by simp, rfl, rfl⟩ (Waits.more (j := 18) rfl ⟨⟨18, .chain⟩, by simp, rfl, rfl⟩ (Waits.one rfl ⟨⟨17, .data⟩, by simp, rfl, rfl⟩))))))) (by kernel_rfl) (by kernel_rfl) (.inr BE.out) (Or.inl ⟨by rfl, fun w hw => (by have x0 := hw; simp [execOp, go_sem, Act.eval, x0.cells.1, x0.cells.2.1])⟩) (fun _ => ?_)
  simp only [Act.put, List.setIfInBounds_toArray, List.set_cons_zero, List.set_cons_succ]
  refine wpAnyL_one (i := 18) (by kernel_rfl) (by simp only [List.getElem?_toArray, List.getElem?_cons_zero, List.getElem?_cons_succ] <;> rfl) (by rfl) ?_
  refine opwp_call (f := 19) (args := #[.agg #[.slice pE 0 cE, .slice pF 0 cF]]) (w' := w21.drew) (by simp [go_sem, Act.eval]) ?_
  refine (HWI.out).mono ?_
  rintro e w22 ⟨rfl, hb22⟩
  have hck1_0 := hid (BE.out.below hb22 BE.out.lt)
  have hBk1 := HBS.out.trans (hb22.mono HBS.out.size)
  have HLO := hid (Lower_c _ [] w22 (nil_sets _) (HTd.out _ hBk1) (by decide))
  rw [k_low0] at HLO
  refine .inl ⟨_, rfl, .inr hck1_0.out, ?_⟩
  simp only [Act.put, List.setIfInBounds_toArray, List.set_cons_zero, List.set_cons_succ]
  refine wpAnyL_pure (i := 19) (v := .bool false) (by simp only [List.getElem?_toArray, List.getElem?_cons_zero, List.getElem?_cons_succ] <;> rfl) (by kernel_rfl) (by kernel_rfl) (by kernel_rfl) (by exact fun _ _ _ h => h) (by decide) (.inr hck1_0.out) (Or.inl ⟨by rfl, fun w _ => (by simp [execOp, go_sem, Act.eval])⟩) (fun _ => ?_)
  simp only [Act.put, List.setIfInBounds_toArray, List.set_cons_zero, List.set_cons_succ]
  refine wpAnyL_pure (i := 20) (v := .bool false) (by simp only [List.getElem?_toArray, List.getElem?_cons_zero, List.getElem?_cons_succ] <;> rfl) (by kernel_rfl) (by kernel_rfl) (by kernel_rfl) (by exact fun _ _ _ h => h) (by decide) (.inr hck1_0.out) (Or.inl ⟨by rfl, fun w _ => (by simp [execOp, go_sem, Act.eval])⟩) (fun _ => ?_)
  simp only [Act.put, List.setIfInBounds_toArray, List.set_cons_zero, List.set_cons_succ]
  refine wpAnyL_pure (i := 21) (v := .bool false) (by simp only [List.getElem?_toArray, List.getElem?_cons_zero, List.getElem?_cons_succ] <;> rfl) (by kernel_rfl) (by kernel_rfl) (by kernel_rfl) (by exact fun _ _ _ h => h) (by decide) (.inr hck1_0.out) (Or.inl ⟨by rfl, fun w _ => (by simp [execOp, go_sem, Act.eval])⟩) (fun _ => ?_)
  simp only [Act.put, List.setIfInBounds_toArray, List.set_cons_zero, List.set_cons_succ]
  refine wpAnyL_one (i := 22) (by kernel_rfl) (by simp only [List.getElem?_toArray, List.getElem?_cons_zero, List.getElem?_cons_succ] <;> rfl) (by rfl) ?_
  refine opwp_call (f := 15) (args := #[.slice none 0 0]) (w' := w22) (by simp [go_sem, Act.eval]) ?_
  refine (HLO.out).mono ?_
  rintro e w23 ⟨rfl, hb23⟩
  have hck2_0 := hid (hck1_0.out.below hb23 hck1_0.out.lt)
  have hBk2 := hBk1.trans (hb23.mono hBk1.size)
  refine .inl ⟨_, rfl, .inr hck2_0.out, ?_⟩
  simp only [Act.put, List.setIfInBounds_toArray, List.set_cons_zero, List.set_cons_succ]
  refine wpAnyL_pure (i := 23) (v := .bool false) (by simp only [List.getElem?_toArray, List.getElem?_cons_zero, List.getElem?_cons_succ] <;> rfl) (by kernel_rfl) (by kernel_rfl) (by kernel_rfl) (by exact fun _ _ _ h => h) (by decide) (.inr hck2_0.out) (Or.inl ⟨by rfl, fun w _ => (by simp [execOp, go_sem, Act.eval])⟩) (fun _ => ?_)
  simp only [Act.put, List.setIfInBounds_toArray, List.set_cons_zero, List.set_cons_succ]
  refine wpAnyL_pure (i := 24) (v := .bool false) (by simp only [List.getElem?_toArray, List.getElem?_cons_zero, List.getElem?_cons_succ] <;> rfl) (by kernel_rfl) (by kernel_rfl) (by kernel_rfl) (by exact fun _ _ _ h => h) (by decide) (.inr hck2_0.out) (Or.inl ⟨by rfl, fun w _ => (by simp [execOp, go_sem, Act.eval])⟩) (fun _ => ?_)
  simp only [Act.put, List.setIfInBounds_toArray, List.set_cons_zero, List.set_cons_succ]
  refine wpAnyL_pure (i := 25) (v := .bool false) (by simp only [List.getElem?_toArray, List.getElem?_cons_zero, List.getElem?_cons_succ] <;> rfl) (by kernel_rfl) (by kernel_rfl) (by kernel_rfl) (by exact fun _ _ _ h => h) (by decide) (.inr hck2_0.out) (Or.inl ⟨by rfl, fun w _ => (by simp [execOp, go_sem, Act.eval])⟩) (fun _ => ?_)
  simp only [Act.put, List.setIfInBounds_toArray, List.set_cons_zero, List.set_cons_succ]
  refine wpAnyL_load2 (i := 27) (v := .agg #[.slice pE 0 cE, .slice pF 0 cF]) (by simp only [List.getElem?_toArray, List.getElem?_cons_zero, List.getElem?_cons_succ] <;> rfl) (by kernel_rfl) (by kernel_rfl) (by kernel_rfl) (by exact fun _ _ _ h => h) (by decide) (Waits.more (j := 31) rfl ⟨⟨31, .chain⟩, by simp, rfl, rfl⟩ (Waits.more (j := 28) rfl ⟨⟨28, .chain⟩, by simp, rfl, rfl⟩ (Waits.one rfl ⟨⟨27, .data⟩, by simp, rfl, rfl⟩))) (by kernel_rfl) (by kernel_rfl) (.inr hck2_0.out) (Or.inl ⟨by rfl, fun w hw => (by have x0 := hw; simp [execOp, go_sem, Act.eval, x0.cells.1, x0.cells.2.1])⟩) (fun _ => ?_)
  simp only [Act.put, List.setIfInBounds_toArray, List.set_cons_zero, List.set_cons_succ]
  have hmk8 := make_sets w23 1 (by omega) 1 1 (by simp) (by simp)
  have hrw8 : SetRow (w23.alloc (.cells (madeCells #[.int .u64 ((lw 0#128).toNat : Int), .int .u64 ((hw 0#128).toNat : Int)] 2) 32)) w23.heap.size [0#128] := SetRow.made w23 1
  have hb8k := (Below.refl w23.heap.size w23).alloc (Nat.le_refl _) (.cells (madeCells #[.int .u64 ((lw 0#128).toNat : Int), .int .u64 ((hw 0#128).toNat : Int)] 2) 32)
  have hBk8 := hBk2.trans (hb8k.mono hBk2.size)
  have fa8_0 : Hid (Box2 (w23.alloc (.cells (madeCells #[.int .u64 ((lw 0#128).toNat : Int), .int .u64 ((hw 0#128).toNat : Int)] 2) 32)) (pq) 25 (.slice pE 0 cE) (.slice pF 0 cF)) := hck2_0.out.alloc _
  refine wpAnyL_one (i := 26) (by kernel_rfl) (by simp only [List.getElem?_toArray, List.getElem?_cons_zero, List.getElem?_cons_succ] <;> rfl) (by rfl) ?_
  refine opwp_value (v := .slice (some ⟨w23.heap.size, 0, none⟩) 1 1) (w' := (w23.alloc (.cells (madeCells #[.int .u64 ((lw 0#128).toNat : Int), .int .u64 ((hw 0#128).toNat : Int)] 2) 32))) (by have h9 := hmk8; simp [go_sem] at h9; simp [execOp, go_sem, Act.eval, h9]) ⟨.inr fa8_0.out, ?_⟩
  simp only [Act.put, List.setIfInBounds_toArray, List.set_cons_zero, List.set_cons_succ]
  have HCK := hid (Check_c _ _ _ [0#128] [] [] (w23.alloc (.cells (madeCells #[.int .u64 ((lw 0#128).toNat : Int), .int .u64 ((hw 0#128).toNat : Int)] 2) 32)) (hrw8.sets 1) (HXd.out _ hBk8) (HYd.out _ hBk8) (HTd.out _ hBk8) (by decide) (by decide) (by decide))
  rw [k_chk0] at HCK
  refine wpAnyL_one (i := 28) (by kernel_rfl) (by simp only [List.getElem?_toArray, List.getElem?_cons_zero, List.getElem?_cons_succ] <;> rfl) (by rfl) ?_
  refine opwp_call (f := 20) (args := #[.slice (some ⟨w23.heap.size, 0, none⟩) 1 1, .agg #[.slice pE 0 cE, .slice pF 0 cF]]) (w' := (w23.alloc (.cells (madeCells #[.int .u64 ((lw 0#128).toNat : Int), .int .u64 ((hw 0#128).toNat : Int)] 2) 32))) (by simp [go_sem, Act.eval]) ?_
  refine (HCK.out).mono ?_
  rintro e w24 ⟨rfl, hb24⟩
  have hck3_0 := hid (fa8_0.out.below hb24 fa8_0.out.lt)
  have hBk3 := hBk8.trans (hb24.mono hBk8.size)
  have HCK2 := hid (Check_c _ _ _ [] [] [] w24 (nil_sets _) (HXd.out _ hBk3) (HYd.out _ hBk3) (HTd.out _ hBk3) (by decide) (by decide) (by decide))
  rw [k_chk1] at HCK2
  refine .inl ⟨_, rfl, .inr hck3_0.out, ?_⟩
  simp only [Act.put, List.setIfInBounds_toArray, List.set_cons_zero, List.set_cons_succ]
  refine wpAnyL_pure (i := 29) (v := .bool false) (by simp only [List.getElem?_toArray, List.getElem?_cons_zero, List.getElem?_cons_succ] <;> rfl) (by kernel_rfl) (by kernel_rfl) (by kernel_rfl) (by exact fun _ _ _ h => h) (by decide) (.inr hck3_0.out) (Or.inl ⟨by rfl, fun w _ => (by simp [execOp, go_sem, Act.eval])⟩) (fun _ => ?_)
  simp only [Act.put, List.setIfInBounds_toArray, List.set_cons_zero, List.set_cons_succ]
  refine wpAnyL_pure (i := 30) (v := .bool false) (by simp only [List.getElem?_toArray, List.getElem?_cons_zero, List.getElem?_cons_succ] <;> rfl) (by kernel_rfl) (by kernel_rfl) (by kernel_rfl) (by exact fun _ _ _ h => h) (by decide) (.inr hck3_0.out) (Or.inl ⟨by rfl, fun w _ => (by simp [execOp, go_sem, Act.eval])⟩) (fun _ => ?_)
  simp only [Act.put, List.setIfInBounds_toArray, List.set_cons_zero, List.set_cons_succ]
  refine wpAnyL_pure (i := 31) (v := .bool false) (by simp only [List.getElem?_toArray, List.getElem?_cons_zero, List.getElem?_cons_succ] <;> rfl) (by kernel_rfl) (by kernel_rfl) (by kernel_rfl) (by exact fun _ _ _ h => h) (by decide) (.inr hck3_0.out) (Or.inl ⟨by rfl, fun w _ => (by simp [execOp, go_sem, Act.eval])⟩) (fun _ => ?_)
  simp only [Act.put, List.setIfInBounds_toArray, List.set_cons_zero, List.set_cons_succ]
  refine wpAnyL_load2 (i := 32) (v := .agg #[.slice pE 0 cE, .slice pF 0 cF]) (by simp only [List.getElem?_toArray, List.getElem?_cons_zero, List.getElem?_cons_succ] <;> rfl) (by kernel_rfl) (by kernel_rfl) (by kernel_rfl) (by exact fun _ _ _ h => h) (by decide) (Waits.one rfl ⟨⟨32, .data⟩, by simp, rfl, rfl⟩) (by kernel_rfl) (by kernel_rfl) (.inr hck3_0.out) (Or.inl ⟨by rfl, fun w hw => (by have x0 := hw; simp [execOp, go_sem, Act.eval, x0.cells.1, x0.cells.2.1])⟩) (fun _ => ?_)
  simp only [Act.put, List.setIfInBounds_toArray, List.set_cons_zero, List.set_cons_succ]
  refine wpAnyL_one (i := 33) (by kernel_rfl) (by simp only [List.getElem?_toArray, List.getElem?_cons_zero, List.getElem?_cons_succ] <;> rfl) (by rfl) ?_
  refine opwp_call (f := 20) (args := #[.slice none 0 0, .agg #[.slice pE 0 cE, .slice pF 0 cF]]) (w' := w24) (by simp [go_sem, Act.eval]) ?_
  refine (HCK2.out).mono ?_
  rintro e w25 ⟨rfl, hb25⟩
  have hBk4 := hBk3.trans (hb25.mono hBk3.size)
  refine .inl ⟨_, rfl, .inl (by kernel_rfl), ?_⟩
  simp only [Act.put, List.setIfInBounds_toArray, List.set_cons_zero, List.set_cons_succ]
  refine wpAnyL_pure (i := 34) (v := .bool false) (by simp only [List.getElem?_toArray, List.getElem?_cons_zero, List.getElem?_cons_succ] <;> rfl) (by kernel_rfl) (by kernel_rfl) (by kernel_rfl) (by exact fun _ _ _ h => h) (by decide) (.inl (by kernel_rfl)) (Or.inl ⟨by rfl, fun w _ => (by simp [execOp, go_sem, Act.eval])⟩) (fun _ => ?_)
  simp only [Act.put, List.setIfInBounds_toArray, List.set_cons_zero, List.set_cons_succ]
  refine wpAnyL_pure (i := 35) (v := .bool false) (by simp only [List.getElem?_toArray, List.getElem?_cons_zero, List.getElem?_cons_succ] <;> rfl) (by kernel_rfl) (by kernel_rfl) (by kernel_rfl) (by exact fun _ _ _ h => h) (by decide) (.inl (by kernel_rfl)) (Or.inl ⟨by rfl, fun w _ => (by simp [execOp, go_sem, Act.eval])⟩) (fun _ => ?_)
  simp only [Act.put, List.setIfInBounds_toArray, List.set_cons_zero, List.set_cons_succ]
  refine wpAnyL_done (by kernel_rfl) ?_ _
  have HB25 := hid (HBd.out.trans (hBk4.mono HBd.out.size))
  clear HXd HYd HBd HTd BE HBS
  go_wp2_with fail
  refine (circle_c w25).mono ?_
  rintro e w26 ⟨v26, rfl, hs26, hb26⟩
  obtain ⟨pd26, cd26, rfl, _⟩ := id hs26
  have HLT26 := hid (lit_b w26)
  have hbt26 := hb26.trans (HLT26.out.2.2.mono hb26.size)
  have hB26 := HB25.out.trans (hbt26.mono HB25.out.size)
  have HCC26 := hid (Check_c _ _ _ cyc [3#128, 12#128] [1, -1] _ (hs26.below HLT26.out.2.2) HLT26.out.1 HLT26.out.2.1 (HTT.out _ hB26) (by decide) (by decide) (by decide))
  rw [k_chk3] at HCC26
  have HBT26 := hid hB26
  clear hs26 hb26 hbt26 hB26 HLT26
  go_wp2_with fail
  refine HCC26.out.mono ?_
  rintro e w27 ⟨rfl, hb27⟩
  have HB27 := hid (HBT26.out.trans (hb27.mono HBT26.out.size))
  clear HCC26 HBT26 hb27
  go_wp2_with fail
  refine (circle_c w27).mono ?_
  rintro e w28 ⟨v28, rfl, hs28, hb28⟩
  obtain ⟨pd28, cd28, rfl, _⟩ := id hs28
  have HLT28 := hid (lit_c w28)
  have hbt28 := hb28.trans (HLT28.out.2.2.mono hb28.size)
  have hB28 := HB27.out.trans (hbt28.mono HB27.out.size)
  have HCC28 := hid (Check_c _ _ _ cyc [15#128, 31#128] [-1, 0] _ (hs28.below HLT28.out.2.2) HLT28.out.1 HLT28.out.2.1 (HTT.out _ hB28) (by decide) (by decide) (by decide))
  rw [k_chk6] at HCC28
  have HBT28 := hid hB28
  clear hs28 hb28 hbt28 hB28 HLT28
  go_wp2_with fail
  refine HCC28.out.mono ?_
  rintro e w29 ⟨rfl, hb29⟩
  have HB29 := hid (HBT28.out.trans (hb29.mono HBT28.out.size))
  clear HCC28 HBT28 hb29
  have hl1 := lit_lp w29
  have hb4 := (Below.refl ((w29.alloc (.cells #[.int .u64 15, .int .u64 0, .int .u64 15, .int .u64 0, .int .u64 15, .int .u64 0] 32)).alloc (.cells #[.int .i64 (-1), .int .i64 2, .int .i64 1] 3)).heap.size ((w29.alloc (.cells #[.int .u64 15, .int .u64 0, .int .u64 15, .int .u64 0, .int .u64 15, .int .u64 0] 32)).alloc (.cells #[.int .i64 (-1), .int .i64 2, .int .i64 1] 3))).alloc (Nat.le_refl _) (.cells #[.slice (some ⟨w29.heap.size, 0, none⟩) 3 3, .slice (some ⟨w29.heap.size + 1, 0, none⟩) 3 3] 25)
  have hl2 := lit_ap (((w29.alloc (.cells #[.int .u64 15, .int .u64 0, .int .u64 15, .int .u64 0, .int .u64 15, .int .u64 0] 32)).alloc (.cells #[.int .i64 (-1), .int .i64 2, .int .i64 1] 3)).alloc (.cells #[.slice (some ⟨w29.heap.size, 0, none⟩) 3 3, .slice (some ⟨w29.heap.size + 1, 0, none⟩) 3 3] 25))
  have hb7 := (Below.refl (((((w29.alloc (.cells #[.int .u64 15, .int .u64 0, .int .u64 15, .int .u64 0, .int .u64 15, .int .u64 0] 32)).alloc (.cells #[.int .i64 (-1), .int .i64 2, .int .i64 1] 3)).alloc (.cells #[.slice (some ⟨w29.heap.size, 0, none⟩) 3 3, .slice (some ⟨w29.heap.size + 1, 0, none⟩) 3 3] 25)).alloc (.cells #[.int .u64 11, .int .u64 0, .int .u64 12, .int .u64 0, .int .u64 14, .int .u64 0, .int .u64 3, .int .u64 0] 32)).alloc (.cells #[.int .i64 1, .int .i64 2, .int .i64 (-1), .int .i64 2] 3)).heap.size (((((w29.alloc (.cells #[.int .u64 15, .int .u64 0, .int .u64 15, .int .u64 0, .int .u64 15, .int .u64 0] 32)).alloc (.cells #[.int .i64 (-1), .int .i64 2, .int .i64 1] 3)).alloc (.cells #[.slice (some ⟨w29.heap.size, 0, none⟩) 3 3, .slice (some ⟨w29.heap.size + 1, 0, none⟩) 3 3] 25)).alloc (.cells #[.int .u64 11, .int .u64 0, .int .u64 12, .int .u64 0, .int .u64 14, .int .u64 0, .int .u64 3, .int .u64 0] 32)).alloc (.cells #[.int .i64 1, .int .i64 2, .int .i64 (-1), .int .i64 2] 3))).alloc (Nat.le_refl _) (.cells #[.slice (some ⟨w29.heap.size + 1 + 1 + 1, 0, none⟩) 4 4, .slice (some ⟨w29.heap.size + 1 + 1 + 1 + 1, 0, none⟩) 4 4] 25)
  have hb47 := hl2.2.2.trans (hb7.mono hl2.2.2.size)
  have hb37 := hb4.trans (hb47.mono hb4.size)
  have hb29 := hl1.2.2.trans (hb37.mono hl1.2.2.size)
  have x1 := Box2.new ((w29.alloc (.cells #[.int .u64 15, .int .u64 0, .int .u64 15, .int .u64 0, .int .u64 15, .int .u64 0] 32)).alloc (.cells #[.int .i64 (-1), .int .i64 2, .int .i64 1] 3)) 25 (.slice (some ⟨w29.heap.size, 0, none⟩) 3 3) (.slice (some ⟨w29.heap.size + 1, 0, none⟩) 3 3)
  have x2 := Box2.new (((((w29.alloc (.cells #[.int .u64 15, .int .u64 0, .int .u64 15, .int .u64 0, .int .u64 15, .int .u64 0] 32)).alloc (.cells #[.int .i64 (-1), .int .i64 2, .int .i64 1] 3)).alloc (.cells #[.slice (some ⟨w29.heap.size, 0, none⟩) 3 3, .slice (some ⟨w29.heap.size + 1, 0, none⟩) 3 3] 25)).alloc (.cells #[.int .u64 11, .int .u64 0, .int .u64 12, .int .u64 0, .int .u64 14, .int .u64 0, .int .u64 3, .int .u64 0] 32)).alloc (.cells #[.int .i64 1, .int .i64 2, .int .i64 (-1), .int .i64 2] 3)) 25 (.slice (some ⟨w29.heap.size + 1 + 1 + 1, 0, none⟩) 4 4) (.slice (some ⟨w29.heap.size + 1 + 1 + 1 + 1, 0, none⟩) 4 4)
  have x3 := x1.below hb47 x1.lt
  have s1 := hl1.1.below hb37
  have i1 := hl1.2.1.below hb37
  have s2 := hl2.1.below hb7
  have i2 := hl2.2.1.below hb7
  simp only [World.size_alloc] at x2 x3 s2 i2
  have HS1 := hid s1
  have HI1 := hid i1
  have HS2 := hid s2
  have HI2 := hid i2
  have HX1 := hid x3
  have HX2 := hid x2
  have HB30 := hid (HB29.out.trans (hb29.mono HB29.out.size))
  clear hl1 hb4 hl2 hb7 hb47 hb37 hb29 x1 x2 x3 s1 i1 s2 i2
  go_wp2_with fail
  generalize ((((((w29.alloc (.cells #[.int .u64 15, .int .u64 0, .int .u64 15, .int .u64 0, .int .u64 15, .int .u64 0] 32)).alloc (.cells #[.int .i64 (-1), .int .i64 2, .int .i64 1] 3)).alloc (.cells #[.slice (some ⟨w29.heap.size, 0, none⟩) 3 3, .slice (some ⟨w29.heap.size + 1, 0, none⟩) 3 3] 25)).alloc (.cells #[.int .u64 11, .int .u64 0, .int .u64 12, .int .u64 0, .int .u64 14, .int .u64 0, .int .u64 3, .int .u64 0] 32)).alloc (.cells #[.int .i64 1, .int .i64 2, .int .i64 (-1), .int .i64 2] 3)).alloc (.cells #[.slice (some ⟨w29.heap.size + 1 + 1 + 1, 0, none⟩) 4 4, .slice (some ⟨w29.heap.size + 1 + 1 + 1 + 1, 0, none⟩) 4 4] 25)) = w30 at *
  generalize w29.heap.size = n9 at *
  have hbd := (Below.refl w30.heap.size w30).drew
  have HS1d := hid (fun w' (h : Below w30.drew.heap.size w30.drew w') => (show SetsAt w30 (.slice (some ⟨n9, 0, none⟩) lpB.length lpB.length) lpB from HS1.out).below (hbd.trans (h.mono hbd.size)))
  have HI1d := hid (fun w' (h : Below w30.drew.heap.size w30.drew w') => (show IntsAt w30 (.slice (some ⟨n9 + 1, 0, none⟩) lpU.length lpU.length) lpU from HI1.out).below (hbd.trans (h.mono hbd.size)))
  have HS2d := hid (fun w' (h : Below w30.drew.heap.size w30.drew w') => (show SetsAt w30 (.slice (some ⟨n9 + 1 + 1 + 1, 0, none⟩) apB.length apB.length) apB from HS2.out).below (hbd.trans (h.mono hbd.size)))
  have HI2d := hid (fun w' (h : Below w30.drew.heap.size w30.drew w') => (show IntsAt w30 (.slice (some ⟨n9 + 1 + 1 + 1 + 1, 0, none⟩) apU.length apU.length) apU from HI2.out).below (hbd.trans (h.mono hbd.size)))
  have HBd := hid (HB30.out.trans (hbd.mono HB30.out.size))
  have HTd := hid (fun w' (h : Below w30.drew.heap.size w30.drew w') => HTT.out w' (HBd.out.trans (h.mono HBd.out.size)))
  have HWd := hid (fun w' (h : Below w30.drew.heap.size w30.drew w') => HW.out w' (HBd.out.trans (h.mono HBd.out.size)))
  have B1 : Hid (Box2 w30.drew (n9 + 1 + 1) 25 (.slice (some ⟨n9, 0, none⟩) lpB.length lpB.length) (.slice (some ⟨n9 + 1, 0, none⟩) lpU.length lpU.length)) := HX1.out
  have B2 : Hid (Box2 w30.drew (n9 + 1 + 1 + 1 + 1 + 1) 25 (.slice (some ⟨n9 + 1 + 1 + 1, 0, none⟩) apB.length apB.length) (.slice (some ⟨n9 + 1 + 1 + 1 + 1, 0, none⟩) apU.length apU.length)) := HX2.out
  have HBS := hid (Below.refl w30.drew.heap.size w30.drew)
  clear hbd HS1 HI1 HS2 HI2 HB30 HX1 HX2 HB29
  refine Go.Proofs.YtmlecpapoeodkaaDoor.wp_region_L 22 15 (fun w' => Box2 w' (n9 + 1 + 1) 25 (.slice (some ⟨n9, 0, none⟩) lpB.length lpB.length) (.slice (some ⟨n9 + 1, 0, none⟩) lpU.length lpU.length) ∧ Box2 w' (n9 + 1 + 1 + 1 + 1 + 1) 25 (.slice (some ⟨n9 + 1 + 1 + 1, 0, none⟩) apB.length apB.length) (.slice (some ⟨n9 + 1 + 1 + 1 + 1, 0, none⟩) apU.length apU.length)) (by kernel_rfl) rfl ⟨B1.out, B2.out⟩ (fun _ => ?_)
  refine wpAnyL_load2 (i := 1) (v := .agg #[.slice (some ⟨n9, 0, none⟩) lpB.length lpB.length, .slice (some ⟨n9 + 1, 0, none⟩) lpU.length lpU.length]) (by simp only [List.getElem?_toArray, List.getElem?_cons_zero, List.getElem?_cons_succ] <;> rfl) (by kernel_rfl) (by kernel_rfl) (by kernel_rfl) (by exact fun _ _ _ h => h) (by decide) (Waits.more (j := 12) rfl ⟨⟨12, .guard⟩, by simp, rfl, rfl⟩ (Waits.more (j := 11) rfl ⟨⟨11, .data⟩, by simp, rfl, rfl⟩ (Waits.more (j := 4) rfl ⟨⟨4, .data⟩, by simp, rfl, rfl⟩ (Waits.more (j := 2) rfl ⟨⟨2, .chain⟩, by simp, rfl, rfl⟩ (Waits.one rfl ⟨⟨1, .data⟩, by simp, rfl, rfl⟩))))) (by kernel_rfl) (by kernel_rfl) (.inr ⟨B1.out, B2.out⟩) (Or.inl ⟨by rfl, fun w hw => (by obtain ⟨x0, _⟩ := hw; simp [execOp, go_sem, Act.eval, x0.cells.1, x0.cells.2.1])⟩) (fun _ => ?_)
  simp only [Act.put, List.setIfInBounds_toArray, List.set_cons_zero, List.set_cons_succ]
  refine wpAnyL_one (i := 0) (by kernel_rfl) (by simp only [List.getElem?_toArray, List.getElem?_cons_zero] <;> rfl) (by rfl) ?_
  refine opwp_call (f := 14) (args := #[]) (w' := w30.drew) (by simp [go_sem]) ?_
  refine (circle_c w30.drew).mono ?_
  rintro e w31 ⟨v31, rfl, hs31, hb31⟩
  have hcz1_0 := hid (B1.out.below hb31 B1.out.lt)
  have hcz1_1 := hid (B2.out.below hb31 B2.out.lt)
  have hBz1 := HBS.out.trans (hb31.mono HBS.out.size)
  have HC5 := hid (Check_c _ _ _ cyc lpB lpU w31 hs31 (HS1d.out _ hBz1) (HI1d.out _ hBz1) (HTd.out _ hBz1) (by decide) (by decide) (by decide))
  rw [k_chk5] at HC5
  refine .inl ⟨_, rfl, .inr ⟨hcz1_0.out, hcz1_1.out⟩, ?_⟩
  simp only [Act.put, List.setIfInBounds_toArray, List.set_cons_zero, List.set_cons_succ]
  refine wpAnyL_one (i := 2) (by kernel_rfl) (by simp only [List.getElem?_toArray, List.getElem?_cons_zero, List.getElem?_cons_succ] <;> rfl) (by rfl) ?_
  refine opwp_call (f := 20) (args := #[v31, .agg #[.slice (some ⟨n9, 0, none⟩) lpB.length lpB.length, .slice (some ⟨n9 + 1, 0, none⟩) lpU.length lpU.length]]) (w' := w31) (by simp [go_sem, Act.eval]) ?_
  refine (HC5.out).mono ?_
  rintro e w32 ⟨rfl, hb32⟩
  have hcz2_0 := hid (hcz1_0.out.below hb32 hcz1_0.out.lt)
  have hcz2_1 := hid (hcz1_1.out.below hb32 hcz1_1.out.lt)
  have hBz2 := hBz1.trans (hb32.mono hBz1.size)
  refine .inl ⟨_, rfl, .inr ⟨hcz2_0.out, hcz2_1.out⟩, ?_⟩
  simp only [Act.put, List.setIfInBounds_toArray, List.set_cons_zero, List.set_cons_succ]
  refine wpAnyL_pure (i := 3) (v := .bool true) (by simp only [List.getElem?_toArray, List.getElem?_cons_zero, List.getElem?_cons_succ] <;> rfl) (by kernel_rfl) (by kernel_rfl) (by kernel_rfl) (by exact fun _ _ _ h => h) (by decide) (.inr ⟨hcz2_0.out, hcz2_1.out⟩) (Or.inl ⟨by rfl, fun w _ => (by simp [execOp, go_sem, Act.eval])⟩) (fun _ => ?_)
  simp only [Act.put, List.setIfInBounds_toArray, List.set_cons_zero, List.set_cons_succ]
  refine wpAnyL_pure (i := 4) (v := .bool true) (by simp only [List.getElem?_toArray, List.getElem?_cons_zero, List.getElem?_cons_succ] <;> rfl) (by kernel_rfl) (by kernel_rfl) (by kernel_rfl) (by exact fun _ _ _ h => h) (by decide) (.inr ⟨hcz2_0.out, hcz2_1.out⟩) (Or.inl ⟨by rfl, fun w _ => (by simp [execOp, go_sem, Act.eval])⟩) (fun _ => ?_)
  simp only [Act.put, List.setIfInBounds_toArray, List.set_cons_zero, List.set_cons_succ]
  refine wpAnyL_load2 (i := 5) (v := .agg #[.slice (some ⟨n9, 0, none⟩) lpB.length lpB.length, .slice (some ⟨n9 + 1, 0, none⟩) lpU.length lpU.length]) (by simp only [List.getElem?_toArray, List.getElem?_cons_zero, List.getElem?_cons_succ] <;> rfl) (by kernel_rfl) (by kernel_rfl) (by kernel_rfl) (by exact fun _ _ _ h => h) (by decide) (Waits.more (j := 12) rfl ⟨⟨12, .guard⟩, by simp, rfl, rfl⟩ (Waits.more (j := 10) rfl ⟨⟨10, .chain⟩, by simp, rfl, rfl⟩ (Waits.more (j := 7) rfl ⟨⟨7, .data⟩, by simp, rfl, rfl⟩ (Waits.more (j := 6) rfl ⟨⟨6, .data⟩, by simp, rfl, rfl⟩ (Waits.one rfl ⟨⟨5, .data⟩, by simp, rfl, rfl⟩))))) (by kernel_rfl) (by kernel_rfl) (.inr ⟨hcz2_0.out, hcz2_1.out⟩) (Or.inl ⟨by rfl, fun w hw => (by obtain ⟨x0, _⟩ := hw; simp [execOp, go_sem, Act.eval, x0.cells.1, x0.cells.2.1])⟩) (fun _ => ?_)
  simp only [Act.put, List.setIfInBounds_toArray, List.set_cons_zero, List.set_cons_succ]
  refine wpAnyL_load2 (i := 8) (v := .agg #[.slice (some ⟨n9, 0, none⟩) lpB.length lpB.length, .slice (some ⟨n9 + 1, 0, none⟩) lpU.length lpU.length]) (by simp only [List.getElem?_toArray, List.getElem?_cons_zero, List.getElem?_cons_succ] <;> rfl) (by kernel_rfl) (by kernel_rfl) (by kernel_rfl) (by exact fun _ _ _ h => h) (by decide) (Waits.more (j := 12) rfl ⟨⟨12, .guard⟩, by simp, rfl, rfl⟩ (Waits.more (j := 10) rfl ⟨⟨10, .chain⟩, by simp, rfl, rfl⟩ (Waits.more (j := 9) rfl ⟨⟨9, .data⟩, by simp, rfl, rfl⟩ (Waits.one rfl ⟨⟨8, .data⟩, by simp, rfl, rfl⟩)))) (by kernel_rfl) (by kernel_rfl) (.inr ⟨hcz2_0.out, hcz2_1.out⟩) (Or.inl ⟨by rfl, fun w hw => (by obtain ⟨x0, _⟩ := hw; simp [execOp, go_sem, Act.eval, x0.cells.1, x0.cells.2.1])⟩) (fun _ => ?_)
  simp only [Act.put, List.setIfInBounds_toArray, List.set_cons_zero, List.set_cons_succ]
  refine wpAnyL_one (i := 6) (by kernel_rfl) (by simp only [List.getElem?_toArray, List.getElem?_cons_zero, List.getElem?_cons_succ] <;> rfl) (by rfl) ?_
  refine opwp_call (f := 18) (args := #[.agg #[.slice (some ⟨n9, 0, none⟩) lpB.length lpB.length, .slice (some ⟨n9 + 1, 0, none⟩) lpU.length lpU.length]]) (w' := w32) (by simp [go_sem, Act.eval]) ?_
  refine (Merge_c _ _ lpB lpU w32 (HS1d.out _ hBz2) (HI1d.out _ hBz2) (by decide) (by decide)).mono ?_
  rintro e w33 ⟨vB3, vU3, B3, U3, rfl, o1, o2, hb33, hmt3⟩
  have hcz3_0 := hid (hcz2_0.out.below hb33 hcz2_0.out.lt)
  have hcz3_1 := hid (hcz2_1.out.below hb33 hcz2_1.out.lt)
  have hBz3 := hBz2.trans (hb33.mono hBz2.size)
  obtain ⟨e1, e2⟩ : B3 = lpB ∧ U3 = lpU := by
    rcases hmt3 with ⟨_, a, b⟩ | ⟨a, _⟩
    · exact ⟨a, b⟩
    · rw [k_lp] at a; cases a
  subst e1; subst e2
  have hs33 := o1.sets
  have hi33 := o2.ints
  obtain ⟨p9, c9, e9, _⟩ := o1.sets
  obtain ⟨q9, d9, f9, _⟩ := o2.ints
  subst e9; subst f9
  refine .inl ⟨_, rfl, .inr ⟨hcz3_0.out, hcz3_1.out⟩, ?_⟩
  simp only [Act.put, List.setIfInBounds_toArray, List.set_cons_zero, List.set_cons_succ]
  refine wpAnyL_one (i := 7) (by kernel_rfl) (by simp only [List.getElem?_toArray, List.getElem?_cons_zero, List.getElem?_cons_succ] <;> rfl) (by rfl) ?_
  refine opwp_call (f := 17) (args := #[.agg #[.slice p9 lpB.length c9, .slice q9 lpU.length d9]]) (w' := w33) (by simp [go_sem, Act.eval]) ?_
  refine (taken_c p9 q9 lpB.length c9 lpU.length d9 w33).mono ?_
  rintro e w34 ⟨rfl, hb34⟩
  have hcz4_0 := hid (hcz3_0.out.below hb34 hcz3_0.out.lt)
  have hcz4_1 := hid (hcz3_1.out.below hb34 hcz3_1.out.lt)
  have hBz4 := hBz3.trans (hb34.mono hBz3.size)
  refine .inl ⟨_, rfl, .inr ⟨hcz4_0.out, hcz4_1.out⟩, ?_⟩
  simp only [Act.put, List.setIfInBounds_toArray, List.set_cons_zero, List.set_cons_succ]
  refine wpAnyL_one (i := 9) (by kernel_rfl) (by simp only [List.getElem?_toArray, List.getElem?_cons_zero, List.getElem?_cons_succ] <;> rfl) (by rfl) ?_
  refine opwp_call (f := 17) (args := #[.agg #[.slice (some ⟨n9, 0, none⟩) lpB.length lpB.length, .slice (some ⟨n9 + 1, 0, none⟩) lpU.length lpU.length]]) (w' := w34) (by simp [go_sem, Act.eval]) ?_
  refine (taken_c (some ⟨n9, 0, none⟩) (some ⟨n9 + 1, 0, none⟩) lpB.length lpB.length lpU.length lpU.length w34).mono ?_
  rintro e w35 ⟨rfl, hb35⟩
  have hcz5_0 := hid (hcz4_0.out.below hb35 hcz4_0.out.lt)
  have hcz5_1 := hid (hcz4_1.out.below hb35 hcz4_1.out.lt)
  have hBz5 := hBz4.trans (hb35.mono hBz4.size)
  have HSM := hid (same_c _ _ _ _ lpB lpB lpU lpU w35 ((hs33.below hb34).below hb35) ((hi33.below hb34).below hb35) (HS1d.out _ hBz5) (HI1d.out _ hBz5) (by decide) (by decide) (by decide) (by decide))
  rw [decide_eq_true (show lpB = lpB ∧ lpU = lpU from ⟨rfl, rfl⟩)] at HSM
  refine .inl ⟨_, rfl, .inr ⟨hcz5_0.out, hcz5_1.out⟩, ?_⟩
  simp only [Act.put, List.setIfInBounds_toArray, List.set_cons_zero, List.set_cons_succ]
  refine wpAnyL_one (i := 10) (by kernel_rfl) (by simp only [List.getElem?_toArray, List.getElem?_cons_zero, List.getElem?_cons_succ] <;> rfl) (by rfl) ?_
  refine opwp_call (f := 16) (args := #[.agg #[.slice p9 lpB.length c9, .slice q9 lpU.length d9], .agg #[.slice (some ⟨n9, 0, none⟩) lpB.length lpB.length, .slice (some ⟨n9 + 1, 0, none⟩) lpU.length lpU.length]]) (w' := w35) (by simp [go_sem, Act.eval]) ?_
  refine (HSM.out).mono ?_
  rintro e w36 ⟨rfl, hb36⟩
  have hcz6_0 := hid (hcz5_0.out.below hb36 hcz5_0.out.lt)
  have hcz6_1 := hid (hcz5_1.out.below hb36 hcz5_1.out.lt)
  have hBz6 := hBz5.trans (hb36.mono hBz5.size)
  refine .inl ⟨_, rfl, .inr ⟨hcz6_0.out, hcz6_1.out⟩, ?_⟩
  simp only [Act.put, List.setIfInBounds_toArray, List.set_cons_zero, List.set_cons_succ]
  refine wpAnyL_pure (i := 11) (v := .bool true) (by simp only [List.getElem?_toArray, List.getElem?_cons_zero, List.getElem?_cons_succ] <;> rfl) (by kernel_rfl) (by kernel_rfl) (by kernel_rfl) (by exact fun _ _ _ h => h) (by decide) (.inr ⟨hcz6_0.out, hcz6_1.out⟩) (Or.inl ⟨by rfl, fun w _ => (by simp [execOp, go_sem, Act.eval])⟩) (fun _ => ?_)
  simp only [Act.put, List.setIfInBounds_toArray, List.set_cons_zero, List.set_cons_succ]
  refine wpAnyL_pure (i := 12) (v := .bool true) (by simp only [List.getElem?_toArray, List.getElem?_cons_zero, List.getElem?_cons_succ] <;> rfl) (by kernel_rfl) (by kernel_rfl) (by kernel_rfl) (by exact fun _ _ _ h => h) (by decide) (.inr ⟨hcz6_0.out, hcz6_1.out⟩) (Or.inl ⟨by rfl, fun w _ => (by simp [execOp, go_sem, Act.eval])⟩) (fun _ => ?_)
  simp only [Act.put, List.setIfInBounds_toArray, List.set_cons_zero, List.set_cons_succ]
  refine wpAnyL_load2 (i := 14) (v := .agg #[.slice (some ⟨n9 + 1 + 1 + 1, 0, none⟩) apB.length apB.length, .slice (some ⟨n9 + 1 + 1 + 1 + 1, 0, none⟩) apU.length apU.length]) (by simp only [List.getElem?_toArray, List.getElem?_cons_zero, List.getElem?_cons_succ] <;> rfl) (by kernel_rfl) (by kernel_rfl) (by kernel_rfl) (by exact fun _ _ _ h => h) (by decide) (Waits.one rfl ⟨⟨14, .data⟩, by simp, rfl, rfl⟩) (by kernel_rfl) (by kernel_rfl) (.inr ⟨hcz6_0.out, hcz6_1.out⟩) (Or.inl ⟨by rfl, fun w hw => (by obtain ⟨_, x1⟩ := hw; simp [execOp, go_sem, Act.eval, x1.cells.1, x1.cells.2.1])⟩) (fun _ => ?_)
  simp only [Act.put, List.setIfInBounds_toArray, List.set_cons_zero, List.set_cons_succ]
  refine wpAnyL_one (i := 13) (by kernel_rfl) (by simp only [List.getElem?_toArray, List.getElem?_cons_zero, List.getElem?_cons_succ] <;> rfl) (by rfl) ?_
  refine opwp_call (f := 14) (args := #[]) (w' := w36) (by simp [go_sem]) ?_
  refine (circle_c w36).mono ?_
  rintro e w37 ⟨v37, rfl, hs37, hb37⟩
  have hcz7_0 := hid (hcz6_0.out.below hb37 hcz6_0.out.lt)
  have hcz7_1 := hid (hcz6_1.out.below hb37 hcz6_1.out.lt)
  have hBz7 := hBz6.trans (hb37.mono hBz6.size)
  have HC6 := hid (Check_c _ _ _ cyc apB apU w37 hs37 (HS2d.out _ hBz7) (HI2d.out _ hBz7) (HTd.out _ hBz7) (by decide) (by decide) (by decide))
  rw [k_chk210] at HC6
  refine .inl ⟨_, rfl, .inr ⟨hcz7_0.out, hcz7_1.out⟩, ?_⟩
  simp only [Act.put, List.setIfInBounds_toArray, List.set_cons_zero, List.set_cons_succ]
  refine wpAnyL_one (i := 15) (by kernel_rfl) (by simp only [List.getElem?_toArray, List.getElem?_cons_zero, List.getElem?_cons_succ] <;> rfl) (by rfl) ?_
  refine opwp_call (f := 20) (args := #[v37, .agg #[.slice (some ⟨n9 + 1 + 1 + 1, 0, none⟩) apB.length apB.length, .slice (some ⟨n9 + 1 + 1 + 1 + 1, 0, none⟩) apU.length apU.length]]) (w' := w37) (by simp [go_sem, Act.eval]) ?_
  refine (HC6.out).mono ?_
  rintro e w38 ⟨rfl, hb38⟩
  have hBz8 := hBz7.trans (hb38.mono hBz7.size)
  refine .inl ⟨_, rfl, .inl (by kernel_rfl), ?_⟩
  simp only [Act.put, List.setIfInBounds_toArray, List.set_cons_zero, List.set_cons_succ]
  refine wpAnyL_pure (i := 16) (v := .bool true) (by simp only [List.getElem?_toArray, List.getElem?_cons_zero, List.getElem?_cons_succ] <;> rfl) (by kernel_rfl) (by kernel_rfl) (by kernel_rfl) (by exact fun _ _ _ h => h) (by decide) (.inl (by kernel_rfl)) (Or.inl ⟨by rfl, fun w _ => (by simp [execOp, go_sem, Act.eval])⟩) (fun _ => ?_)
  simp only [Act.put, List.setIfInBounds_toArray, List.set_cons_zero, List.set_cons_succ]
  refine wpAnyL_pure (i := 17) (v := .bool true) (by simp only [List.getElem?_toArray, List.getElem?_cons_zero, List.getElem?_cons_succ] <;> rfl) (by kernel_rfl) (by kernel_rfl) (by kernel_rfl) (by exact fun _ _ _ h => h) (by decide) (.inl (by kernel_rfl)) (Or.inl ⟨by rfl, fun w _ => (by simp [execOp, go_sem, Act.eval])⟩) (fun _ => ?_)
  simp only [Act.put, List.setIfInBounds_toArray, List.set_cons_zero, List.set_cons_succ]
  refine wpAnyL_pure (i := 18) (v := .bool true) (by simp only [List.getElem?_toArray, List.getElem?_cons_zero, List.getElem?_cons_succ] <;> rfl) (by kernel_rfl) (by kernel_rfl) (by kernel_rfl) (by exact fun _ _ _ h => h) (by decide) (.inl (by kernel_rfl)) (Or.inl ⟨by rfl, fun w _ => (by simp [execOp, go_sem, Act.eval])⟩) (fun _ => ?_)
  simp only [Act.put, List.setIfInBounds_toArray, List.set_cons_zero, List.set_cons_succ]
  refine wpAnyL_one (i := 19) (by kernel_rfl) (by simp only [List.getElem?_toArray, List.getElem?_cons_zero, List.getElem?_cons_succ] <;> rfl) (by rfl) ?_
  refine opwp_call (f := 21) (args := #[]) (w' := w38) (by simp [go_sem]) ?_
  refine (HWd.out _ hBz8).mono ?_
  rintro e w39 ⟨rfl, hb39⟩
  have hBz9 := hBz8.trans (hb39.mono hBz8.size)
  refine .inl ⟨_, rfl, .inl (by kernel_rfl), ?_⟩
  simp only [Act.put, List.setIfInBounds_toArray, List.set_cons_zero, List.set_cons_succ]
  refine wpAnyL_pure (i := 20) (v := .bool true) (by simp only [List.getElem?_toArray, List.getElem?_cons_zero, List.getElem?_cons_succ] <;> rfl) (by kernel_rfl) (by kernel_rfl) (by kernel_rfl) (by exact fun _ _ _ h => h) (by decide) (.inl (by kernel_rfl)) (Or.inl ⟨by rfl, fun w _ => (by simp [execOp, go_sem, Act.eval])⟩) (fun _ => ?_)
  simp only [Act.put, List.setIfInBounds_toArray, List.set_cons_zero, List.set_cons_succ]
  refine wpAnyL_pure (i := 21) (v := .bool true) (by simp only [List.getElem?_toArray, List.getElem?_cons_zero, List.getElem?_cons_succ] <;> rfl) (by kernel_rfl) (by kernel_rfl) (by kernel_rfl) (by exact fun _ _ _ h => h) (by decide) (.inl (by kernel_rfl)) (Or.inl ⟨by rfl, fun w _ => (by simp [execOp, go_sem, Act.eval])⟩) (fun _ => ?_)
  simp only [Act.put, List.setIfInBounds_toArray, List.set_cons_zero]
  refine wpAnyL_done (by kernel_rfl) ?_ _
  have HBE := HBd.out.trans (hBz9.mono HBd.out.size)
  go_wp2_with fail
  go_ret
  exact ⟨rfl, HBE⟩
end Go.Proofs.YtmlecpapoeodkaaDoor
