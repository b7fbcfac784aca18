/- Plain mathematics: forests that are given by the index above each one. No program in sight. -/
import Derived.Test.YtmlecpapoeodkaaDoorSOrder
namespace Go.Proofs.YtmlecpapoeodkaaDoor
theorem nodup_sub_length : ∀ {a b : List Int}, a.Nodup → (∀ x ∈ a, x ∈ b) → a.length ≤ b.length
  | [], _, _, _ => Nat.zero_le _
  | x :: a, b, hn, hs => by
    have hx := hs x List.mem_cons_self
    have h1 := nodup_sub_length (a := a) (b := b.erase x) (List.nodup_cons.1 hn).2 (fun y hy => by
      have hne : y ≠ x := fun e => (List.nodup_cons.1 hn).1 (e ▸ hy)
      exact (List.mem_erase_of_ne hne).2 (hs y (List.mem_cons_of_mem _ hy)))
    rw [List.length_erase_of_mem hx] at h1
    have := List.length_pos_of_mem hx
    simp only [List.length_cons]; omega
def nums (n : Nat) : List Int := (List.range n).map fun i : Nat => (i : Int)
theorem mem_nums {n : Nat} {x : Int} : x ∈ nums n ↔ 0 ≤ x ∧ x < (n : Int) := by
  unfold nums
  rw [List.mem_map]
  constructor
  · rintro ⟨i, hi, rfl⟩; rw [List.mem_range] at hi; omega
  · intro h; exact ⟨x.toNat, by rw [List.mem_range]; omega, by omega⟩
theorem nums_length (n : Nat) : (nums n).length = n := by simp [nums]
theorem nums_succ (n : Nat) : nums (n + 1) = nums n ++ [(n : Int)] := by unfold nums; rw [List.range_succ, List.map_append]; rfl
theorem nums_nodup (n : Nat) : (nums n).Nodup := by
  induction n with
  | zero => simp [nums]
  | succ n ih =>
    rw [nums_succ, List.nodup_append]
    refine ⟨ih, by simp, fun a ha b hb => ?_⟩
    rw [mem_nums] at ha
    simp at hb
    omega
theorem nodup_le {l : List Int} {n : Nat} (h : l.Nodup) (hr : ∀ x ∈ l, 0 ≤ x ∧ x < (n : Int)) : l.length ≤ n := by
  have := nodup_sub_length h (b := nums n) (fun x hx => mem_nums.2 (hr x hx))
  rwa [nums_length] at this
theorem nodup_all {l : List Int} {n : Nat} (h : l.Nodup) (hr : ∀ x ∈ l, 0 ≤ x ∧ x < (n : Int)) (hl : l.length = n) (x : Int) (h0 : 0 ≤ x) (h1 : x < (n : Int)) : x ∈ l := by
  apply Classical.byContradiction
  intro hx
  have := nodup_le (l := x :: l) (n := n) (List.nodup_cons.2 ⟨hx, h⟩) (fun y hy => by
    rcases List.mem_cons.1 hy with rfl | hy
    · exact ⟨h0, h1⟩
    · exact hr y hy)
  simp only [List.length_cons] at this
  omega

/-- The index above. -/
def upF (U : List Int) (i : Int) : Int := if 0 ≤ i then U.getD i.toNat (-1) else -1
theorem upF_nat (U : List Int) (k : Nat) (h : k < U.length) : upF U (k : Int) = U[k] := by
  unfold upF
  rw [if_pos (by omega), Int.toNat_natCast, List.getD_eq_getElem?_getD, List.getElem?_eq_getElem h, Option.getD_some]
theorem upF_neg (U : List Int) {i : Int} (h : i < 0) : upF U i = -1 := by unfold upF; rw [if_neg (by omega)]
structure Formed (n : Nat) (U : List Int) : Prop where
  len : U.length = n
  le : n ≤ 65536
  range : ∀ i, 0 ≤ i → i < (n : Int) → -1 ≤ upF U i ∧ upF U i < (n : Int)
  one : ∀ i j, 0 ≤ i → i < (n : Int) → 0 ≤ j → j < (n : Int) → upF U i = -1 → upF U j = -1 → i = j
  root : 0 < n → ∃ r, 0 ≤ r ∧ r < (n : Int) ∧ upF U r = -1
  rank : ∃ h : Int → Nat, ∀ i, 0 ≤ i → i < (n : Int) → 0 ≤ upF U i → h (upF U i) < h i
/-- Going up so often. -/
def climb (U : List Int) : Nat → Int → Int
  | 0, a => a
  | k + 1, a => if a < 0 then a else climb U k (upF U a)
theorem climb_neg (U : List Int) {a : Int} (h : a < 0) : ∀ k, climb U k a = a
  | 0 => rfl
  | k + 1 => by rw [climb, if_pos h]
theorem climb_snoc (U : List Int) : ∀ (k : Nat) (a : Int), climb U (k + 1) a = if climb U k a < 0 then climb U k a else upF U (climb U k a)
  | 0, a => by rw [climb, climb, climb]
  | k + 1, a => by
    rw [climb]
    by_cases h : a < 0
    · rw [if_pos h, climb_neg U h, if_pos h]
    · rw [if_neg h, climb_snoc U k, climb, if_neg h]
/-- The roots among the first ones. -/
def roots (U : List Int) : Nat → Nat
  | 0 => 0
  | k + 1 => roots U k + if upF U (k : Int) = -1 then 1 else 0
theorem roots_le (U : List Int) : ∀ k, roots U k ≤ k
  | 0 => Nat.le_refl _
  | k + 1 => by have := roots_le U k; rw [roots]; split <;> omega
theorem roots_some (U : List Int) : ∀ k, 1 ≤ roots U k ↔ ∃ i, 0 ≤ i ∧ i < (k : Int) ∧ upF U i = -1
  | 0 => by
    constructor
    · intro h; simp [roots] at h
    · rintro ⟨i, h1, h2, _⟩; omega
  | k + 1 => by
    rw [roots]
    have ih := roots_some U k
    by_cases e : upF U (k : Int) = -1
    · rw [if_pos e]
      exact ⟨fun _ => ⟨(k : Int), by omega, by omega, e⟩, fun _ => by omega⟩
    · rw [if_neg e, Nat.add_zero, ih]
      constructor
      · rintro ⟨i, h1, h2, h3⟩; exact ⟨i, h1, by omega, h3⟩
      · rintro ⟨i, h1, h2, h3⟩
        refine ⟨i, h1, ?_, h3⟩
        have : i ≠ (k : Int) := fun e' => e (e' ▸ h3)
        omega
theorem roots_one (U : List Int) : ∀ k, roots U k ≤ 1 ↔ ∀ i j, 0 ≤ i → i < (k : Int) → 0 ≤ j → j < (k : Int) → upF U i = -1 → upF U j = -1 → i = j
  | 0 => by
    constructor
    · intro _ i j h1 h2; omega
    · intro _; simp [roots]
  | k + 1 => by
    rw [roots]
    have ih := roots_one U k
    have is := roots_some U k
    by_cases e : upF U (k : Int) = -1
    · rw [if_pos e]
      constructor
      · intro h i j h1 h2 h3 h4 h5 h6
        have h0 : ¬ 1 ≤ roots U k := by omega
        have hk : ∀ x, 0 ≤ x → x < ((k + 1 : Nat) : Int) → upF U x = -1 → x = (k : Int) := fun x x1 x2 x3 => by
          apply Classical.byContradiction
          intro hne
          exact h0 (is.2 ⟨x, x1, by omega, x3⟩)
        rw [hk i h1 h2 h5, hk j h3 h4 h6]
      · intro h
        apply Classical.byContradiction
        intro hc
        obtain ⟨i, h1, h2, h3⟩ := is.1 (by omega)
        have := h i (k : Int) h1 (by omega) (by omega) (by omega) h3 e
        omega
    · rw [if_neg e, Nat.add_zero, ih]
      have hk : ∀ x, x < ((k + 1 : Nat) : Int) → upF U x = -1 → x < (k : Int) := fun x x2 x3 => by
        have : x ≠ (k : Int) := fun e' => e (e' ▸ x3)
        omega
      constructor
      · intro h i j h1 h2 h3 h4 h5 h6
        exact h i j h1 (hk i h2 h5) h3 (hk j h4 h6) h5 h6
      · intro h i j h1 h2 h3 h4 h5 h6
        exact h i j h1 (by omega) h3 (by omega) h5 h6
def inRange (n : Nat) (U : List Int) : Bool := (nums n).all fun i => decide (-1 ≤ upF U i) && decide (upF U i < (n : Int))
def formedB (n : Nat) (U : List Int) : Bool :=
  decide (U.length = n) && (decide (n ≤ 65536) && (inRange n U && ((decide (n = 0) || decide (roots U n = 1)) && (nums n).all fun i => decide (climb U n i < 0))))
theorem inRange_iff {n : Nat} {U : List Int} : inRange n U = true ↔ ∀ i, 0 ≤ i → i < (n : Int) → -1 ≤ upF U i ∧ upF U i < (n : Int) := by
  unfold inRange
  rw [List.all_eq_true]
  constructor
  · intro h i h0 h1
    simpa using h i (mem_nums.2 ⟨h0, h1⟩)
  · intro h i hi
    rw [mem_nums] at hi
    simpa using h i hi.1 hi.2
/-- How far it is to the end. -/
def dep (U : List Int) : Nat → Int → Nat
  | 0, _ => 0
  | k + 1, a => if a < 0 then 0 else dep U k (upF U a) + 1
theorem dep_more (U : List Int) : ∀ (k : Nat) (a : Int), climb U k a < 0 → dep U (k + 1) a = dep U k a
  | 0, a, h => by rw [climb] at h; show dep U (0 + 1) a = 0; unfold dep; rw [if_pos h]
  | k + 1, a, h => by
    rw [climb] at h
    by_cases ha : a < 0
    · rw [dep, if_pos ha, dep, if_pos ha]
    · rw [if_neg ha] at h
      rw [dep, if_neg ha, dep_more U k _ h]
      rw [dep, if_neg ha]
theorem dep_pos (U : List Int) (n : Nat) (a : Int) (ha : 0 ≤ a) : dep U (n + 1) a = dep U n (upF U a) + 1 := by rw [dep, if_neg (by omega)]
/-- A path that has not ended has as many stations. -/
theorem climb_path {n : Nat} {U : List Int} (hr : ∀ i, 0 ≤ i → i < (n : Int) → -1 ≤ upF U i ∧ upF U i < (n : Int)) {h : Int → Nat} (hh : ∀ i, 0 ≤ i → i < (n : Int) → 0 ≤ upF U i → h (upF U i) < h i) :
    ∀ (k : Nat) (a : Int), 0 ≤ a → a < (n : Int) → 0 ≤ climb U k a → ∃ l : List Int, l.length = k + 1 ∧ l.Nodup ∧ (∀ x ∈ l, 0 ≤ x ∧ x < (n : Int)) ∧ ∀ x ∈ l, h x ≤ h a
  | 0, a, h0, h1, _ => ⟨[a], rfl, by simp, fun x hx => by simp at hx; omega, fun x hx => by simp at hx; subst hx; exact Nat.le_refl _⟩
  | k + 1, a, h0, h1, h2 => by
    rw [climb, if_neg (by omega)] at h2
    have hu : 0 ≤ upF U a := by
      apply Classical.byContradiction
      intro hc
      rw [climb_neg U (by omega)] at h2
      omega
    obtain ⟨l, e1, e2, e3, e4⟩ := climb_path hr hh k (upF U a) hu (hr a h0 h1).2 h2
    have hlt := hh a h0 h1 hu
    refine ⟨a :: l, by simp [e1], List.nodup_cons.2 ⟨fun ha => by have := e4 a ha; omega, e2⟩, fun x hx => ?_, fun x hx => ?_⟩
    · rcases List.mem_cons.1 hx with rfl | hx
      · exact ⟨h0, h1⟩
      · exact e3 x hx
    · rcases List.mem_cons.1 hx with rfl | hx
      · exact Nat.le_refl _
      · have := e4 x hx; omega
theorem formedB_iff {n : Nat} {U : List Int} : formedB n U = true ↔ Formed n U := by
  unfold formedB
  simp only [Bool.and_eq_true, decide_eq_true_eq, Bool.or_eq_true, List.all_eq_true, inRange_iff]
  constructor
  · rintro ⟨h1, h2, h3, h4, h5⟩
    refine ⟨h1, h2, h3, ?_, ?_, ⟨dep U n, ?_⟩⟩
    · rcases h4 with h4 | h4
      · intro i j _ h; omega
      · exact (roots_one U n).1 (by omega)
    · intro hn
      rcases h4 with h4 | h4
      · omega
      · exact (roots_some U n).1 (by omega)
    · intro i h0 h6 h7
      have e1 := dep_more U n i (h5 i (mem_nums.2 ⟨h0, h6⟩))
      have e2 := dep_pos U n i h0
      omega
  · intro hf
    obtain ⟨h, hh⟩ := hf.rank
    refine ⟨hf.len, hf.le, hf.range, ?_, fun i hi => ?_⟩
    · rcases Nat.eq_zero_or_pos n with e | e
      · exact .inl e
      · right
        have := (roots_one U n).2 hf.one
        have := (roots_some U n).2 (hf.root e)
        omega
    · rw [mem_nums] at hi
      apply Classical.byContradiction
      intro hc
      obtain ⟨l, e1, e2, e3, _⟩ := climb_path hf.range hh n i hi.1 hi.2 (by omega)
      have := nodup_le e2 e3
      omega

/-! ### from the root down -/
def dnTo (U : List Int) (k : Nat) (x : Int) : List Int := (nums k).filter fun i => decide (upF U i = x)
theorem mem_dnTo {U : List Int} {k : Nat} {x i : Int} : i ∈ dnTo U k x ↔ (0 ≤ i ∧ i < (k : Int)) ∧ upF U i = x := by
  unfold dnTo; rw [List.mem_filter, mem_nums]; simp
theorem dnTo_succ (U : List Int) (k : Nat) (x : Int) : dnTo U (k + 1) x = if upF U (k : Int) = x then dnTo U k x ++ [(k : Int)] else dnTo U k x := by
  unfold dnTo
  rw [nums_succ, List.filter_append]
  by_cases e : upF U (k : Int) = x
  · rw [if_pos e]; simp [e]
  · rw [if_neg e]; simp [e]
theorem dnTo_length (U : List Int) (k : Nat) (x : Int) : (dnTo U k x).length ≤ k := by
  unfold dnTo
  have := List.length_filter_le (fun i => decide (upF U i = x)) (nums k)
  rwa [nums_length] at this
structure Bfs (U : List Int) (r : Int) (l : List Int) (k : Nat) : Prop where
  nd : l.Nodup
  rng : ∀ x ∈ l, 0 ≤ x ∧ x < (U.length : Int)
  hd : r ∈ l
  old : ∀ j (h : j < l.length), l[j] ≠ r → 0 ≤ upF U l[j] ∧ upF U l[j] ∈ l.take j ∧ upF U l[j] ∈ l.take k
  all : ∀ x ∈ l.take k, ∀ i, 0 ≤ i → i < (U.length : Int) → upF U i = x → i ∈ l
theorem Bfs.start {U : List Int} {r : Int} (h0 : 0 ≤ r) (h1 : r < (U.length : Int)) : Bfs U r [r] 0 :=
  ⟨by simp, fun x hx => by simp at hx; omega, by simp, fun j hj hne => by
    simp at hj; subst hj; simp at hne, fun x hx => by simp at hx⟩
theorem Bfs.len {U : List Int} {r : Int} {l : List Int} {k : Nat} (h : Bfs U r l k) : l.length ≤ U.length := nodup_le h.nd h.rng
theorem Bfs.step {U : List Int} {r : Int} {l : List Int} {k : Nat} (h : Bfs U r l k) (hr : upF U r = -1) (hk : k < l.length) : Bfs U r (l ++ dnTo U U.length l[k]) (k + 1) := by
  have hx := h.rng _ (List.getElem_mem hk)
  have htk : (l ++ dnTo U U.length l[k]).take (k + 1) = l.take (k + 1) := by rw [List.take_append_of_le_length (by omega)]
  have htk2 : l.take (k + 1) = l.take k ++ [l[k]] := List.take_succ_eq_append_getElem hk
  refine ⟨?_, ?_, List.mem_append_left _ h.hd, ?_, ?_⟩
  · rw [List.nodup_append]
    refine ⟨h.nd, (nums_nodup _).filter _, fun a ha b hb e => ?_⟩
    subst e
    rw [mem_dnTo] at hb
    by_cases ear : a = r
    · rw [ear, hr] at hb; omega
    · obtain ⟨j, hj, rfl⟩ := List.getElem_of_mem ha
      obtain ⟨_, _, h3⟩ := h.old j hj ear
      rw [hb.2] at h3
      have hnd := h.nd
      have : l[k] ∈ l.drop k := by rw [List.drop_eq_getElem_cons hk]; exact List.mem_cons_self
      rw [← List.take_append_drop k l, List.nodup_append] at hnd
      exact hnd.2.2 _ h3 _ this rfl
  · intro x hx
    rcases List.mem_append.1 hx with hx | hx
    · exact h.rng x hx
    · exact (mem_dnTo.1 hx).1
  · intro j hj hne
    rw [htk]
    by_cases hjl : j < l.length
    · have e : (l ++ dnTo U U.length l[k])[j] = l[j] := List.getElem_append_left hjl
      rw [e] at hne ⊢
      obtain ⟨h1, h2, h3⟩ := h.old j hjl hne
      refine ⟨h1, ?_, ?_⟩
      · rw [List.take_append_of_le_length (by omega)]; exact h2
      · rw [htk2]; exact List.mem_append_left _ h3
    · have e : (l ++ dnTo U U.length l[k])[j] ∈ dnTo U U.length l[k] := by
        rw [List.getElem_append_right (by omega)]; exact List.getElem_mem _
      rw [mem_dnTo] at e
      rw [e.2]
      refine ⟨hx.1, ?_, ?_⟩
      · rw [List.take_append]
        refine List.mem_append_left _ ?_
        rw [List.take_of_length_le (by omega)]
        exact List.getElem_mem hk
      · rw [htk2]; exact List.mem_append_right _ (List.mem_singleton.2 rfl)
  · intro x hx i h0 h1 hi
    rw [htk, htk2] at hx
    rcases List.mem_append.1 hx with hx | hx
    · exact List.mem_append_left _ (h.all x hx i h0 h1 hi)
    · simp at hx
      subst hx
      exact List.mem_append_right _ (mem_dnTo.2 ⟨⟨h0, h1⟩, hi⟩)
theorem Bfs.all_formed {U : List Int} {r : Int} {l : List Int} (h : Bfs U r l l.length) (h0 : U.length ≤ 65536)
    (hr : ∀ i, 0 ≤ i → i < (U.length : Int) → -1 ≤ upF U i ∧ upF U i < (U.length : Int)) (hru : upF U r = -1)
    (h1 : ∀ i, 0 ≤ i → i < (U.length : Int) → upF U i = -1 → i = r) (hl : l.length = U.length) : Formed U.length U := by
  refine ⟨rfl, h0, hr, fun i j a b c d e f => by rw [h1 i a b e, h1 j c d f], fun _ => ⟨r, (h.rng r h.hd).1, (h.rng r h.hd).2, hru⟩, ⟨fun x => l.idxOf x, fun i a b c => ?_⟩⟩
  have hi := nodup_all h.nd h.rng hl i a b
  have hj := List.idxOf_lt_length_of_mem hi
  have he : l[l.idxOf i] = i := List.getElem_idxOf hj
  have hne : l[l.idxOf i] ≠ r := fun e => by rw [he] at e; rw [e, hru] at c; omega
  obtain ⟨_, h2, _⟩ := h.old _ hj hne
  rw [he] at h2
  obtain ⟨j, hjl, hj2⟩ := List.getElem_of_mem h2
  rw [List.getElem_take] at hj2
  rw [List.length_take] at hjl
  show l.idxOf (upF U i) < l.idxOf i
  rw [← hj2, h.nd.idxOf_getElem]
  omega
theorem Bfs.of_formed {U : List Int} {r : Int} {l : List Int} (h : Bfs U r l l.length) (hf : Formed U.length U) (hru : upF U r = -1) : l.length = U.length := by
  obtain ⟨f, hh⟩ := hf.rank
  have key : ∀ (m : Nat) (i : Int), f i = m → 0 ≤ i → i < (U.length : Int) → i ∈ l := by
    intro m
    induction m using Nat.strongRecOn with
    | _ m ih =>
      intro i hm h0 h1
      by_cases hu : 0 ≤ upF U i
      · have := ih (f (upF U i)) (by rw [← hm]; exact hh i h0 h1 hu) _ rfl hu (hf.range i h0 h1).2
        rw [← List.take_length (l := l)] at this
        exact h.all _ this i h0 h1 rfl
      · have he : upF U i = -1 := by have := hf.range i h0 h1; omega
        rw [hf.one i r h0 h1 (h.rng r h.hd).1 (h.rng r h.hd).2 he hru]
        exact h.hd
  have := nodup_sub_length (nums_nodup U.length) (b := l) (fun x hx => by rw [mem_nums] at hx; exact key _ x rfl hx.1 hx.2)
  rw [nums_length] at this
  have := h.len
  omega
theorem Bfs.formedB {U : List Int} {r : Int} {l : List Int} (h : Bfs U r l l.length) (h0 : U.length ≤ 65536)
    (hr : ∀ i, 0 ≤ i → i < (U.length : Int) → -1 ≤ upF U i ∧ upF U i < (U.length : Int)) (hru : upF U r = -1)
    (h1 : ∀ i, 0 ≤ i → i < (U.length : Int) → upF U i = -1 → i = r) : formedB U.length U = decide (l.length = U.length) := by
  rw [Bool.eq_iff_iff, formedB_iff, decide_eq_true_eq]
  exact ⟨fun hf => h.of_formed hf hru, h.all_formed h0 hr hru h1⟩
/-- What is known ahead of the k-th index; r: the root so far. -/
structure DnSt (U : List Int) (k : Nat) (r : Int) : Prop where
  rng : ∀ i, 0 ≤ i → i < (k : Int) → -1 ≤ upF U i ∧ upF U i < (U.length : Int)
  root : (r = -1 ∧ ∀ i, 0 ≤ i → i < (k : Int) → upF U i ≠ -1) ∨ (0 ≤ r ∧ r < (k : Int) ∧ upF U r = -1 ∧ ∀ i, 0 ≤ i → i < (k : Int) → upF U i = -1 → i = r)
theorem DnSt.start (U : List Int) : DnSt U 0 (-1) := ⟨fun i h1 h2 => by omega, .inl ⟨rfl, fun i h1 h2 => by omega⟩⟩
theorem DnSt.first {U : List Int} {k : Nat} {r : Int} (h : DnSt U k r) (hr : r < 0) (hu : upF U (k : Int) = -1) : DnSt U (k + 1) (k : Int) := by
  have h2 := h.root.resolve_right (by rintro ⟨h1, _⟩; omega)
  refine ⟨fun i h0 h1 => ?_, .inr ⟨by omega, by omega, hu, fun i h0 h1 e => ?_⟩⟩
  · by_cases e : i = (k : Int)
    · rw [e, hu]; omega
    · exact h.rng i h0 (by omega)
  · by_cases e' : i = (k : Int)
    · exact e'
    · exact absurd e (h2.2 i h0 (by omega))
theorem DnSt.next {U : List Int} {k : Nat} {r : Int} (h : DnSt U k r) (h0 : 0 ≤ upF U (k : Int)) (h1 : upF U (k : Int) < (U.length : Int)) : DnSt U (k + 1) r := by
  refine ⟨fun i a b => ?_, ?_⟩
  · by_cases e : i = (k : Int)
    · rw [e]; omega
    · exact h.rng i a (by omega)
  · rcases h.root with ⟨hr, h2⟩ | ⟨hr1, hr2, hr3, h2⟩
    · refine .inl ⟨hr, fun i a b => ?_⟩
      by_cases e : i = (k : Int)
      · rw [e]; omega
      · exact h2 i a (by omega)
    · refine .inr ⟨hr1, by omega, hr3, fun i a b e' => ?_⟩
      by_cases e : i = (k : Int)
      · rw [e] at e'; omega
      · exact h2 i a (by omega) e'
theorem not_formed {n : Nat} {U : List Int} (h : ¬ Formed n U) : formedB n U = false := by
  cases hb : formedB n U
  · rfl
  · exact absurd (formedB_iff.1 hb) h
theorem DnSt.bad {U : List Int} {k : Nat} {r : Int} (h : DnSt U k r) (hk : k < U.length) (hb : ¬ (0 ≤ upF U (k : Int) ∧ upF U (k : Int) < (U.length : Int))) (hn : ¬ (upF U (k : Int) = -1 ∧ r < 0)) : formedB U.length U = false := by
  refine not_formed fun hf => ?_
  have hr := hf.range (k : Int) (by omega) (by omega)
  have hu : upF U (k : Int) = -1 := by omega
  have hr0 : ¬ r < 0 := fun e => hn ⟨hu, e⟩
  obtain ⟨h1, h2, h3, _⟩ := h.root.resolve_left (by rintro ⟨e, _⟩; omega)
  have := hf.one r (k : Int) h1 (by omega) (by omega) (by omega) h3 hu
  omega
theorem DnSt.none {U : List Int} {r : Int} (h : DnSt U U.length r) (hn : 0 < U.length) (hr : r < 0) : formedB U.length U = false := by
  refine not_formed fun hf => ?_
  obtain ⟨x, h1, h2, h3⟩ := hf.root hn
  have h4 := h.root.resolve_right (by rintro ⟨e, _⟩; omega)
  exact h4.2 x h1 h2 h3
theorem formedB_nil : formedB 0 [] = true := formedB_iff.2 ⟨rfl, by omega, fun i h1 h2 => by omega, fun i j h1 h2 => by omega, fun h => by omega, ⟨fun _ => 0, fun i h1 h2 => by omega⟩⟩
end Go.Proofs.YtmlecpapoeodkaaDoor
