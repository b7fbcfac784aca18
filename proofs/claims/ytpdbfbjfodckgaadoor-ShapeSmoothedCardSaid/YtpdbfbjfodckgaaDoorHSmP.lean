/- Plain mathematics of nets: the smooth form of a net. No program in sight. -/
import Derived.Test.YtpdbfbjfodckgaaDoorHSepP
namespace Go.Proofs.YtpdbfbjfodckgaaDoor

def iOf (A : List Int) (i : Int) : Int := if 0 ≤ i then A.getD i.toNat 0 else 0
theorem iOf_nat (A : List Int) (k : Nat) (h : k < A.length) : iOf A (k : Int) = A[k] := by
  unfold iOf; rw [if_pos (by omega), Int.toNat_natCast, List.getD_eq_getElem?_getD, List.getElem?_eq_getElem h, Option.getD_some]
theorem iOf_append (A B : List Int) (i : Int) (h : i < (A.length : Int)) : iOf (A ++ B) i = iOf A i := by
  unfold iOf
  by_cases h0 : 0 ≤ i
  · rw [if_pos h0, if_pos h0, List.getD_eq_getElem?_getD, List.getD_eq_getElem?_getD, List.getElem?_append_left (by omega)]
  · rw [if_neg h0, if_neg h0]
/-- Nodes so far, the choices that there are, inputs so far. -/
structure FS where
  out : List NodeT
  ch : Int → Option Int
  inn : List Int
/-- The three nodes of a choice. -/
def choice (v : Int) (k : Nat) : List NodeT := [⟨2, -v, []⟩, ⟨2, v, []⟩, ⟨4, 0, [(k : Int), (k : Int) + 1]⟩]
def stepV (s : FS) (v : Int) : FS := match s.ch v with
  | some c => ⟨s.out, s.ch, s.inn ++ [c]⟩
  | none => ⟨s.out ++ choice v s.out.length, fun u => if u = v then some ((s.out.length : Int) + 2) else s.ch u, s.inn ++ [(s.out.length : Int) + 2]⟩
def fillV (s : FS) (l : List Int) : FS := l.foldl stepV s
theorem fillV_snoc (s : FS) (l : List Int) (v : Int) : fillV s (l ++ [v]) = stepV (fillV s l) v := by unfold fillV; rw [List.foldl_append]; rfl
/-- The inputs of the conjunction that an input becomes, ahead of the choices. -/
def inn0 (L : List NodeT) (A : List Int) (old : Int) : List Int := if (nOf L old).kind = 3 then (nOf L old).ins.map (iOf A) else [iOf A old]
def fillO (L : List NodeT) (M : List VS) (A : List Int) (out : List NodeT) (ch : Int → Option Int) (old : Int) (all : VS) : FS := fillV ⟨out, ch, inn0 L A old⟩ (mems (minus all (sOf M old)))
/-- An input. -/
def stepO (L : List NodeT) (M : List VS) (A : List Int) (or : Bool) (all : VS) (s : FS) (old : Int) : FS :=
  if or = true ∧ sOf M old ≠ all then
    ⟨(fillO L M A s.out s.ch old all).out ++ [⟨3, 0, (fillO L M A s.out s.ch old all).inn⟩], (fillO L M A s.out s.ch old all).ch, s.inn ++ [((fillO L M A s.out s.ch old all).out.length : Int)]⟩
  else ⟨s.out, s.ch, s.inn ++ [iOf A old]⟩
def insO (L : List NodeT) (M : List VS) (A : List Int) (or : Bool) (all : VS) (s : FS) (l : List Int) : FS := l.foldl (stepO L M A or all) s
theorem insO_snoc (L : List NodeT) (M : List VS) (A : List Int) (or : Bool) (all : VS) (s : FS) (l : List Int) (v : Int) : insO L M A or all s (l ++ [v]) = stepO L M A or all (insO L M A or all s l) v := by unfold insO; rw [List.foldl_append]; rfl
/-- Nodes so far, choices, the new places of the old nodes. -/
structure SM where
  out : List NodeT
  ch : Int → Option Int
  at_ : List Int
def stepN (L : List NodeT) (M : List VS) (s : SM) (x : NodeT) : SM :=
  let r := insO L M s.at_ (x.kind == 4) (sOf M (s.at_.length : Int)) ⟨s.out, s.ch, []⟩ x.ins
  ⟨r.out ++ [⟨x.kind, x.lit, r.inn⟩], r.ch, s.at_ ++ [(r.out.length : Int)]⟩
def smF (L : List NodeT) (M : List VS) (l : List NodeT) : SM := l.foldl (stepN L M) ⟨[], fun _ => none, []⟩
theorem smF_snoc (L : List NodeT) (M : List VS) (l : List NodeT) (x : NodeT) : smF L M (l ++ [x]) = stepN L M (smF L M l) x := by unfold smF; rw [List.foldl_append]; rfl
theorem smF_take (L : List NodeT) (M : List VS) (k : Nat) (h : k < L.length) : smF L M (L.take (k + 1)) = stepN L M (smF L M (L.take k)) L[k] := by
  rw [List.take_succ_eq_append_getElem h, smF_snoc]
/-- The smooth form. -/
def smT (L : List NodeT) : List NodeT := (smF L (vsOf L) L).out
/-! ### lengths -/
theorem stepV_out (s : FS) (v : Int) : ∃ t, (stepV s v).out = s.out ++ t := by
  unfold stepV; split
  · exact ⟨[], (List.append_nil _).symm⟩
  · exact ⟨_, rfl⟩
theorem fillV_out (l : List Int) : ∀ s : FS, ∃ t, (fillV s l).out = s.out ++ t := by
  induction l with
  | nil => exact fun s => ⟨[], (List.append_nil _).symm⟩
  | cons v l ih =>
    intro s
    obtain ⟨t, ht⟩ := stepV_out s v
    obtain ⟨t', ht'⟩ := ih (stepV s v)
    exact ⟨t ++ t', by show (fillV (stepV s v) l).out = _; rw [ht', ht, List.append_assoc]⟩
theorem stepV_inn (s : FS) (v : Int) : (stepV s v).inn.length = s.inn.length + 1 := by
  unfold stepV; split <;> simp
theorem fillV_inn (l : List Int) : ∀ s : FS, (fillV s l).inn.length = s.inn.length + l.length := by
  induction l with
  | nil => exact fun s => rfl
  | cons v l ih => intro s; show (fillV (stepV s v) l).inn.length = _; rw [ih, stepV_inn, List.length_cons]; omega
theorem fillO_out (L : List NodeT) (M : List VS) (A : List Int) (out : List NodeT) (ch : Int → Option Int) (old : Int) (all : VS) : ∃ t, (fillO L M A out ch old all).out = out ++ t := fillV_out _ _
theorem stepO_out (L : List NodeT) (M : List VS) (A : List Int) (or : Bool) (all : VS) (s : FS) (old : Int) : ∃ t, (stepO L M A or all s old).out = s.out ++ t := by
  unfold stepO; split
  · obtain ⟨t, ht⟩ := fillO_out L M A s.out s.ch old all
    rw [ht, List.append_assoc]; exact ⟨_, rfl⟩
  · exact ⟨[], (List.append_nil _).symm⟩
theorem insO_out (L : List NodeT) (M : List VS) (A : List Int) (or : Bool) (all : VS) (l : List Int) : ∀ s : FS, ∃ t, (insO L M A or all s l).out = s.out ++ t := by
  induction l with
  | nil => exact fun s => ⟨[], (List.append_nil _).symm⟩
  | cons v l ih =>
    intro s
    obtain ⟨t, ht⟩ := stepO_out L M A or all s v
    obtain ⟨t', ht'⟩ := ih (stepO L M A or all s v)
    exact ⟨t ++ t', by show (insO L M A or all (stepO L M A or all s v) l).out = _; rw [ht', ht, List.append_assoc]⟩
theorem stepO_inn (L : List NodeT) (M : List VS) (A : List Int) (or : Bool) (all : VS) (s : FS) (old : Int) : (stepO L M A or all s old).inn.length = s.inn.length + 1 := by
  unfold stepO; split <;> simp
theorem insO_inn (L : List NodeT) (M : List VS) (A : List Int) (or : Bool) (all : VS) (l : List Int) : ∀ s : FS, (insO L M A or all s l).inn.length = s.inn.length + l.length := by
  induction l with
  | nil => exact fun s => rfl
  | cons v l ih => intro s; show (insO L M A or all (stepO L M A or all s v) l).inn.length = _; rw [ih, stepO_inn, List.length_cons]; omega
theorem stepN_out (L : List NodeT) (M : List VS) (s : SM) (x : NodeT) : ∃ t, (stepN L M s x).out = s.out ++ t := by
  obtain ⟨t, ht⟩ := insO_out L M s.at_ (x.kind == 4) (sOf M (s.at_.length : Int)) x.ins ⟨s.out, s.ch, []⟩
  unfold stepN
  simp only []
  rw [ht, List.append_assoc]
  exact ⟨_, rfl⟩
theorem smF_out (L : List NodeT) (M : List VS) (k m : Nat) (h : k ≤ m) (hm : m ≤ L.length) : ∃ t, (smF L M (L.take m)).out = (smF L M (L.take k)).out ++ t := by
  induction m with
  | zero => obtain rfl : k = 0 := by omega
            exact ⟨[], (List.append_nil _).symm⟩
  | succ m ih =>
    by_cases e : k = m + 1
    · subst e; exact ⟨[], (List.append_nil _).symm⟩
    · obtain ⟨t, ht⟩ := ih (by omega) (by omega)
      rw [smF_take L M m (by omega)]
      obtain ⟨t', ht'⟩ := stepN_out L M (smF L M (L.take m)) L[m]
      exact ⟨t ++ t', by rw [ht', ht, List.append_assoc]⟩
theorem smF_at (L : List NodeT) (M : List VS) : ∀ k, k ≤ L.length → (smF L M (L.take k)).at_.length = k
  | 0, _ => rfl
  | k + 1, h => by
    rw [smF_take L M k (by omega)]
    show ((smF L M (L.take k)).at_ ++ [_]).length = _
    rw [List.length_append, smF_at L M k (by omega)]; rfl
end Go.Proofs.YtpdbfbjfodckgaaDoor
