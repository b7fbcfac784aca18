/- Plain: lists of sets as graphs; which are valid; elimination on lists. -/
import Derived.Test.YthgkklahiclcpaaDoorKOrder
namespace Go.Proofs.YthgkklahiclcpaaDoor

/-- The graph of a list of sets. -/
def gOf (L : List VS) : Gr := fun v => if 0 ≤ v then L.getD v.toNat 0 else 0
theorem gOf_nat (L : List VS) (k : Nat) (h : k < L.length) : gOf L (k : Int) = L[k] := by
  unfold gOf
  rw [if_pos (by omega), Int.toNat_natCast, List.getD_eq_getElem?_getD, List.getElem?_eq_getElem h, Option.getD_some]
theorem gOf_out (L : List VS) (v : Int) (h : v < 0 ∨ (L.length : Int) ≤ v) : gOf L v = 0 := by
  unfold gOf
  by_cases h0 : 0 ≤ v
  · rw [if_pos h0, List.getD_eq_getElem?_getD, List.getElem?_eq_none (by omega)]; rfl
  · rw [if_neg h0]
/-- What is asked of a vertex. -/
structure OkV (L : List VS) (v : Int) : Prop where
  self : has (gOf L v) v = false
  le : ∀ w, has (gOf L v) w = true → w ≤ (L.length : Int) - 1
  sym : ∀ w, has (gOf L v) w = true → has (gOf L w) v = true
structure ValidG (L : List VS) : Prop where
  pos : 1 ≤ L.length
  le : L.length ≤ 129
  zero : gOf L 0 = 0
  ok : ∀ k : Nat, 1 ≤ k → k < L.length → OkV L (k : Int)
def okB (L : List VS) (v : Int) : Bool := !has (gOf L v) v && (mems (gOf L v)).all fun w => decide (w ≤ (L.length : Int) - 1) && has (gOf L w) v
theorem okB_iff {L : List VS} {v : Int} : okB L v = true ↔ OkV L v := by
  unfold okB
  simp only [Bool.and_eq_true, Bool.not_eq_true', List.all_eq_true, decide_eq_true_eq, mem_mems]
  exact ⟨fun h => ⟨h.1, fun w hw => (h.2 w hw).1, fun w hw => (h.2 w hw).2⟩, fun h => ⟨h.self, fun w hw => ⟨h.le w hw, h.sym w hw⟩⟩⟩
/-- Whether a list of sets is a valid graph. -/
def validG (L : List VS) : Bool := decide (1 ≤ L.length) && decide (L.length ≤ 129) && decide (gOf L 0 = 0) && (List.range L.length).all fun k => decide (k = 0) || okB L (k : Int)
theorem validG_iff {L : List VS} : validG L = true ↔ ValidG L := by
  unfold validG
  simp only [Bool.and_eq_true, decide_eq_true_eq, List.all_eq_true, List.mem_range, Bool.or_eq_true, okB_iff]
  constructor
  · rintro ⟨⟨⟨h1, h2⟩, h3⟩, h4⟩
    exact ⟨h1, h2, h3, fun k hk1 hk2 => (h4 k hk2).resolve_left (by omega)⟩
  · intro h
    refine ⟨⟨⟨h.pos, h.le⟩, h.zero⟩, fun k hk => ?_⟩
    by_cases e : k = 0
    · exact .inl e
    · exact .inr (h.ok k (by omega) hk)
theorem validG_yes {L : List VS} (h : ValidG L) : validG L = true := validG_iff.2 h
theorem validG_no {L : List VS} (h : ¬ ValidG L) : validG L = false := by
  cases e : validG L with
  | false => rfl
  | true => exact absurd (validG_iff.1 e) h
theorem ValidG.okAll {L : List VS} (h : ValidG L) (v : Int) : OkV L v := by
  by_cases h1 : 1 ≤ v ∧ v < (L.length : Int)
  · have := h.ok v.toNat (by omega) (by omega)
    rwa [show ((v.toNat : Nat) : Int) = v by omega] at this
  · have h0 : gOf L v = 0 := by
      by_cases e : v = 0
      · rw [e]; exact h.zero
      · exact gOf_out L v (by omega)
    refine ⟨by rw [h0, has_zero], fun w hw => ?_, fun w hw => ?_⟩ <;> (rw [h0, has_zero] at hw; cases hw)
theorem ValidG.sym {L : List VS} (h : ValidG L) : SymG (gOf L) := ⟨fun v => (h.okAll v).self, fun v w e => (h.okAll v).sym w e⟩
theorem ValidG.range {L : List VS} (h : ValidG L) {v w : Int} (e : has (gOf L v) w = true) : 1 ≤ w ∧ w ≤ (L.length : Int) - 1 := ⟨(has_range e).1, (h.okAll v).le w e⟩
/-- The neighbours' part of an elimination. -/
def elStep (near : VS) (v : Int) (L : List VS) (w : Int) : List VS := L.set w.toNat (withoutV (withoutV (gOf L w ||| near) w) v)
def elTo (L : List VS) (v : Int) (ws : List Int) : List VS := ws.foldl (elStep (gOf L v) v) L
def elL (L : List VS) (v : Int) : List VS := (elTo L v (mems (gOf L v))).set v.toNat 0
theorem elStep_length (near : VS) (v : Int) (L : List VS) (w : Int) : (elStep near v L w).length = L.length := by simp [elStep]
theorem elFold_length (near : VS) (v : Int) : ∀ (ws : List Int) (L : List VS), (ws.foldl (elStep near v) L).length = L.length
  | [], L => rfl
  | w :: ws, L => by rw [List.foldl_cons, elFold_length near v ws, elStep_length]
theorem elL_length (L : List VS) (v : Int) : (elL L v).length = L.length := by unfold elL elTo; rw [List.length_set, elFold_length]
theorem gOf_set (L : List VS) (k : Nat) (h : k < L.length) (s : VS) (v : Int) : gOf (L.set k s) v = if v = (k : Int) then s else gOf L v := by
  by_cases e : v = (k : Int)
  · subst e
    rw [if_pos rfl, gOf_nat _ k (by simpa using h)]; simp
  · rw [if_neg e]
    unfold gOf
    by_cases h0 : 0 ≤ v
    · rw [if_pos h0, if_pos h0, List.getD_eq_getElem?_getD, List.getD_eq_getElem?_getD, List.getElem?_set, if_neg (by omega)]
    · rw [if_neg h0, if_neg h0]
theorem elFold_get (near : VS) (v : Int) : ∀ (ws : List Int) (L : List VS), ws.Nodup → (∀ w ∈ ws, 0 ≤ w ∧ w < (L.length : Int)) → ∀ u, gOf (ws.foldl (elStep near v) L) u = if u ∈ ws then withoutV (withoutV (gOf L u ||| near) u) v else gOf L u
  | [], L, _, _, u => by simp
  | w :: ws, L, hn, hr, u => by
    obtain ⟨hn1, hn2⟩ := List.nodup_cons.1 hn
    have hw := hr w (by simp)
    rw [List.foldl_cons, elFold_get near v ws _ hn2 (fun x hx => by rw [elStep_length]; exact hr x (by simp [hx]))]
    have hg : ∀ x, gOf (elStep near v L w) x = if x = w then withoutV (withoutV (gOf L w ||| near) w) v else gOf L x := fun x => by
      unfold elStep
      rw [gOf_set L _ (by omega) _ x, show ((w.toNat : Nat) : Int) = w by omega]
    rw [hg]
    by_cases e : u = w
    · subst e
      rw [if_neg hn1, if_pos rfl, if_pos (by simp)]
    · rw [if_neg e]
      by_cases e2 : u ∈ ws
      · rw [if_pos e2, if_pos (by simp [e2])]
      · rw [if_neg e2, if_neg (by simp [e, e2])]
theorem gOf_elL {L : List VS} (h : ValidG L) {v : Int} (h1 : 0 ≤ v) (h2 : v < (L.length : Int)) : gOf (elL L v) = el (gOf L) v := by
  funext u
  unfold elL elTo
  rw [gOf_set _ _ (by rw [elFold_length]; omega), show ((v.toNat : Nat) : Int) = v by omega]
  unfold el
  by_cases e : u = v
  · rw [if_pos e, if_pos e]
  · rw [if_neg e, if_neg e, elFold_get _ _ _ _ (mems_nodup _) (fun w hw => by have := h.range ((mem_mems _ _).1 hw); omega)]
    by_cases e2 : u ∈ mems (gOf L v)
    · rw [if_pos e2, if_pos ((mem_mems _ _).1 e2)]
    · rw [if_neg e2, if_neg (fun e3 => e2 ((mem_mems _ _).2 e3))]
theorem elL_valid {L : List VS} (h : ValidG L) {v : Int} (h1 : 0 ≤ v) (h2 : v < (L.length : Int)) : ValidG (elL L v) := by
  have e := gOf_elL h h1 h2
  have hs := el_sym h.sym v
  refine ⟨by rw [elL_length]; exact h.pos, by rw [elL_length]; exact h.le, ?_, fun k _ _ => ⟨by rw [e]; exact hs.irr _, fun w hw => ?_, fun w hw => ?_⟩⟩
  · rw [e]
    apply zero_of_none
    intro w
    cases hw : has (el (gOf L) v 0) w with
    | false => rfl
    | true => have := has_range (hs.sym _ _ hw); omega
  · rw [e] at hw
    rw [elL_length]
    obtain ⟨_, _, h3 | ⟨_, h3, _⟩⟩ := (has_el h.sym v _ w).1 hw
    · exact (h.range h3).2
    · exact (h.range h3).2
  · rw [e] at hw ⊢; exact hs.sym _ _ hw
/-- All are dead outside. -/
theorem gOf_dead {L : List VS} (h : ValidG L) : ∀ v, has (allV ((L.length : Int) - 1)) v = false → gOf L v = 0 := by
  intro v hv
  rw [has_allV] at hv
  by_cases e : v = 0
  · rw [e]; exact h.zero
  · by_cases h1 : 1 ≤ v ∧ v < (L.length : Int)
    · have := h.le
      exfalso
      have : (decide (v ≤ (L.length : Int) - 1) && decide (1 ≤ v) && decide (v ≤ 128)) = true := by
        simp; omega
      rw [hv] at this; cases this
    · exact gOf_out L v (by omega)
end Go.Proofs.YthgkklahiclcpaaDoor
