/- Plain mathematics of nets: scans over nodes, variables below nodes, which nets are decomposable, smooth, or decide. No program in sight. -/
import Derived.Test.YtpdbfbjfodckgaaDoorNPlain
import Derived.Test.YtpdbfbjfodckgaaDoorVPlain
namespace Go.Proofs.YtpdbfbjfodckgaaDoor

/-! ### scans: each entry is made out of those before it -/
def scanF {α β : Type} (f : List β → α → β) (l : List α) : List β := l.foldl (fun acc x => acc ++ [f acc x]) []
section
variable {α β : Type} (f : List β → α → β)
theorem scanF_nil : scanF f [] = [] := rfl
theorem scanF_snoc (l : List α) (x : α) : scanF f (l ++ [x]) = scanF f l ++ [f (scanF f l) x] := by
  unfold scanF; rw [List.foldl_append]; rfl
theorem scanF_take_succ (l : List α) (k : Nat) (h : k < l.length) : scanF f (l.take (k + 1)) = scanF f (l.take k) ++ [f (scanF f (l.take k)) l[k]] := by
  rw [List.take_succ_eq_append_getElem h, scanF_snoc]
theorem scanF_take_length (l : List α) : ∀ k, k ≤ l.length → (scanF f (l.take k)).length = k
  | 0, _ => by rw [List.take_zero]; rfl
  | k + 1, h => by rw [scanF_take_succ f l k (by omega), List.length_append, scanF_take_length l k (by omega)]; rfl
theorem scanF_length (l : List α) : (scanF f l).length = l.length := by
  have := scanF_take_length f l l.length (Nat.le_refl _)
  rwa [List.take_length] at this
theorem scanF_prefix (l : List α) : ∀ k m, k ≤ m → m ≤ l.length → (scanF f (l.take m)).take k = scanF f (l.take k)
  | k, 0, h, _ => by obtain rfl : k = 0 := by omega
                     rfl
  | k, m + 1, h, hm => by
    by_cases e : k = m + 1
    · subst e
      rw [List.take_of_length_le (by rw [scanF_take_length f l _ hm]; exact Nat.le_refl _)]
    · rw [scanF_take_succ f l m (by omega), List.take_append_of_le_length (by rw [scanF_take_length f l m (by omega)]; omega)]
      exact scanF_prefix l k m (by omega) (by omega)
theorem scanF_take (l : List α) (k : Nat) (h : k ≤ l.length) : (scanF f l).take k = scanF f (l.take k) := by
  have := scanF_prefix f l k l.length h (Nat.le_refl _)
  rwa [List.take_length] at this
theorem scanF_get (l : List α) (k : Nat) (h : k < l.length) : (scanF f l)[k]'(by rw [scanF_length]; exact h) = f (scanF f (l.take k)) l[k] := by
  have h1 := scanF_take f l (k + 1) h
  rw [scanF_take_succ f l k h] at h1
  have h2 : ((scanF f l).take (k + 1))[k]? = some (f (scanF f (l.take k)) l[k]) := by
    rw [h1, List.getElem?_append_right (by rw [scanF_take_length f l k (by omega)]; exact Nat.le_refl _), scanF_take_length f l k (by omega)]
    simp
  rw [List.getElem?_take, if_pos (by omega)] at h2
  rw [List.getElem?_eq_getElem (by rw [scanF_length]; exact h)] at h2
  exact Option.some.inj h2
end
/-! ### the variables below the nodes -/
def sOf (M : List VS) (i : Int) : VS := if 0 ≤ i then M.getD i.toNat 0 else 0
theorem sOf_nat (M : List VS) (k : Nat) (h : k < M.length) : sOf M (k : Int) = M[k] := by
  unfold sOf; rw [if_pos (by omega), Int.toNat_natCast, List.getD_eq_getElem?_getD, List.getElem?_eq_getElem h, Option.getD_some]
theorem sOf_take (M : List VS) (k : Nat) (i : Int) (h : i < (k : Int)) : sOf (M.take k) i = sOf M i := by
  unfold sOf
  by_cases h0 : 0 ≤ i
  · rw [if_pos h0, if_pos h0, List.getD_eq_getElem?_getD, List.getD_eq_getElem?_getD, List.getElem?_take, if_pos (by omega)]
  · rw [if_neg h0, if_neg h0]
def orIns (M : List VS) (s : VS) (l : List Int) : VS := l.foldl (fun s k => s ||| sOf M k) s
theorem orIns_snoc (M : List VS) (s : VS) (l : List Int) (x : Int) : orIns M s (l ++ [x]) = orIns M s l ||| sOf M x := by unfold orIns; rw [List.foldl_append]; rfl
theorem orIns_congr {M N : List VS} {s : VS} : ∀ {l : List Int}, (∀ x ∈ l, sOf M x = sOf N x) → orIns M s l = orIns N s l := by
  intro l
  induction l generalizing s with
  | nil => intro _; rfl
  | cons x l ih =>
    intro h
    show orIns M (s ||| sOf M x) l = orIns N (s ||| sOf N x) l
    rw [h x List.mem_cons_self]
    exact ih fun y hy => h y (List.mem_cons_of_mem _ hy)
def vsNode (M : List VS) (x : NodeT) : VS := orIns M (ofL [litVar x.lit]) x.ins
def vsOf (L : List NodeT) : List VS := scanF vsNode L
theorem vsOf_length (L : List NodeT) : (vsOf L).length = L.length := scanF_length _ _
/-- Inputs are earlier nodes. -/
theorem ins_lt {n : Int} {L : List NodeT} (h : formedTo n L L.length) {k : Nat} (hk : k < L.length) : ∀ x ∈ L[k].ins, 0 ≤ x ∧ x < (k : Int) := by
  intro x hx
  have h1 := h k hk hk
  unfold formed at h1
  split at h1
  · cases h1
  · rename_i hb
    rw [Bool.not_eq_true] at hb
    unfold badIn at hb
    rw [List.any_eq_false] at hb
    have := hb x hx
    simp only [Bool.or_eq_true, decide_eq_true_eq, not_or] at this
    omega
theorem vsOf_get {n : Int} {L : List NodeT} (h : formedTo n L L.length) {k : Nat} (hk : k < L.length) : sOf (vsOf L) (k : Int) = orIns (vsOf L) (ofL [litVar L[k].lit]) L[k].ins := by
  rw [sOf_nat _ k (by rw [vsOf_length]; exact hk)]
  have hg : (vsOf L)[k]'(by rw [vsOf_length]; exact hk) = vsNode (scanF vsNode (L.take k)) L[k] := scanF_get vsNode L k hk
  rw [hg]
  show orIns (scanF vsNode (L.take k)) (ofL [litVar L[k].lit]) L[k].ins = orIns (vsOf L) (ofL [litVar L[k].lit]) L[k].ins
  refine orIns_congr fun x hx => ?_
  have hx2 := ins_lt h hk x hx
  rw [← scanF_take vsNode L k (by omega)]
  exact sOf_take (scanF vsNode L) k x hx2.2
/-- What stands in the row while the sets are made: k nodes are through, the next one's set is s. -/
def rowV (L : List NodeT) (k : Nat) (s : VS) : List VS := vsOf (L.take k) ++ s :: List.replicate (L.length - k - 1) 0
theorem rowV_length {L : List NodeT} {k : Nat} (s : VS) (h : k < L.length) : (rowV L k s).length = L.length := by
  unfold rowV
  rw [List.length_append, List.length_cons, List.length_replicate, show (vsOf (L.take k)).length = k from by rw [vsOf_length, List.length_take]; omega]
  omega
theorem rowV_set {L : List NodeT} {k : Nat} (s t : VS) (h : k < L.length) : (rowV L k s).set k t = rowV L k t := by
  unfold rowV
  have hl : (vsOf (L.take k)).length = k := by rw [vsOf_length, List.length_take]; omega
  rw [List.set_append_right _ _ (by omega), hl, Nat.sub_self]; rfl
theorem rowV_at {L : List NodeT} {k : Nat} (s : VS) (h : k < L.length) : sOf (rowV L k s) (k : Int) = s := by
  rw [sOf_nat _ k (by rw [rowV_length s h]; exact h)]
  unfold rowV
  have hl : (vsOf (L.take k)).length = k := by rw [vsOf_length, List.length_take]; omega
  rw [List.getElem_append_right (by omega)]
  simp [hl]
theorem rowV_low {L : List NodeT} {k : Nat} (s : VS) (h : k < L.length) (i : Int) (hi : i < (k : Int)) : sOf (rowV L k s) i = sOf (vsOf (L.take k)) i := by
  have hl : (vsOf (L.take k)).length = k := by rw [vsOf_length, List.length_take]; omega
  unfold sOf rowV
  by_cases h0 : 0 ≤ i
  · rw [if_pos h0, if_pos h0, List.getD_eq_getElem?_getD, List.getD_eq_getElem?_getD, List.getElem?_append_left (by omega)]
  · rw [if_neg h0, if_neg h0]
theorem rowV_next {L : List NodeT} {k : Nat} (h : k < L.length) {s : VS} (hs : s = vsNode (vsOf (L.take k)) L[k]) : vsOf (L.take (k + 1)) ++ List.replicate (L.length - (k + 1)) 0 = rowV L k s := by
  unfold rowV
  have : vsOf (L.take (k + 1)) = vsOf (L.take k) ++ [s] := by rw [hs]; exact scanF_take_succ vsNode L k h
  rw [this, List.append_assoc]
  congr 2
theorem rowV_start {L : List NodeT} {k : Nat} (h : k < L.length) : vsOf (L.take k) ++ List.replicate (L.length - k) 0 = rowV L k 0 := by
  unfold rowV
  congr 1
  obtain ⟨m, hm⟩ : ∃ m, L.length - k = m + 1 := ⟨L.length - k - 1, by omega⟩
  rw [hm, show m + 1 - 1 = m from rfl]; rfl
/-! ### decomposable -/
def disj (M : List VS) : VS → List Int → Bool
  | _, [] => true
  | s, k :: l => (s &&& sOf M k == 0) && disj M (s ||| sOf M k) l
def decomB (L : List NodeT) : Bool := L.all fun x => x.kind != 3 || disj (vsOf L) 0 x.ins
theorem disj_take_bad {M : List VS} : ∀ (l : List Int) (s : VS) (k : Nat) (h : k < l.length), (orIns M s (l.take k) &&& sOf M l[k] == 0) = false → disj M s l = false
  | x :: l, s, 0, _, e => by
    show ((s &&& sOf M x == 0) && disj M (s ||| sOf M x) l) = false
    have e2 : (s &&& sOf M x == 0) = false := e
    rw [e2]; rfl
  | x :: l, s, k + 1, h, e => by
    show ((s &&& sOf M x == 0) && disj M (s ||| sOf M x) l) = false
    rw [disj_take_bad l (s ||| sOf M x) k (by simpa using h) e, Bool.and_false]
theorem disj_all {M : List VS} : ∀ (l : List Int) (s : VS), (∀ k (h : k < l.length), (orIns M s (l.take k) &&& sOf M l[k] == 0) = true) → disj M s l = true
  | [], _, _ => rfl
  | x :: l, s, h => by
    show ((s &&& sOf M x == 0) && disj M (s ||| sOf M x) l) = true
    have h0 := h 0 (by simp)
    have h1 : (s &&& sOf M x == 0) = true := h0
    rw [h1, disj_all l (s ||| sOf M x) fun k hk => h (k + 1) (by simpa using hk)]; rfl
/-! ### smooth -/
def smoothB (L : List NodeT) : Bool := (List.range L.length).all fun i => (L.getD i ⟨0, 0, []⟩).kind != 4 || (L.getD i ⟨0, 0, []⟩).ins.all fun k => sOf (vsOf L) k == sOf (vsOf L) (i : Int)
/-! ### decision -/
def nOf (L : List NodeT) (i : Int) : NodeT := if 0 ≤ i then L.getD i.toNat ⟨0, 0, []⟩ else ⟨0, 0, []⟩
theorem nOf_nat (L : List NodeT) (k : Nat) (h : k < L.length) : nOf L (k : Int) = L[k] := by
  unfold nOf; rw [if_pos (by omega), Int.toNat_natCast, List.getD_eq_getElem?_getD, List.getElem?_eq_getElem h, Option.getD_some]
def litsOf (L : List NodeT) (l : List Int) : List Int := l.filterMap fun k => if (nOf L k).kind = 2 then some (nOf L k).lit else none
def heads (L : List NodeT) (i : Int) : List Int := if (nOf L i).kind = 2 then [(nOf L i).lit] else if (nOf L i).kind = 3 then litsOf L (nOf L i).ins else []
def opp (a b : List Int) : Bool := b.any fun l => a.contains (-l)
def decideB (L : List NodeT) : Bool := L.all fun x => x.kind != 4 || (x.ins.length == 2 && opp (heads L (x.ins.getD 0 0)) (heads L (x.ins.getD 1 0)))
end Go.Proofs.YtpdbfbjfodckgaaDoor
