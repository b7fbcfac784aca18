/- Plain mathematics: tree decompositions: tops, the deepest one, which trees are decompositions. No program in sight. -/
import Derived.Test.YtmlecpapoeodkaaDoorWTree
namespace Go.Proofs.YtmlecpapoeodkaaDoor

/-- The bag above. -/
def aboveB (B : List VS) (U : List Int) (i : Int) : VS := if 0 ≤ upF U i then gOf B (upF U i) else 0
def Top (B : List VS) (U : List Int) (v i : Int) : Prop := has (gOf B i) v = true ∧ has (aboveB B U i) v = false
theorem bag_range {B : List VS} {i v : Int} (h : has (gOf B i) v = true) : 0 ≤ i ∧ i < (B.length : Int) := by
  apply Classical.byContradiction
  intro hc
  rw [gOf_out B i (by omega), has_zero] at h
  cases h
/-- Up through the bags of a vertex. -/
inductive Cl (B : List VS) (U : List Int) (v : Int) : Int → Int → Prop
  | refl {i : Int} (h : has (gOf B i) v = true) : Cl B U v i i
  | step {i t : Int} (h : has (gOf B i) v = true) (hu : 0 ≤ upF U i) (hc : Cl B U v (upF U i) t) : Cl B U v i t
theorem Cl.first {B : List VS} {U : List Int} {v i t : Int} (h : Cl B U v i t) : has (gOf B i) v = true := by cases h <;> assumption
theorem Cl.last {B : List VS} {U : List Int} {v i t : Int} (h : Cl B U v i t) : has (gOf B t) v = true := by
  induction h with
  | refl h => exact h
  | step _ _ _ ih => exact ih
theorem climb_top {B : List VS} {U : List Int} (hf : Formed B.length U) (v : Int) {i : Int} (hi : has (gOf B i) v = true) : ∃ t, Cl B U v i t ∧ Top B U v t := by
  obtain ⟨f, hh⟩ := hf.rank
  have key : ∀ (m : Nat) (i : Int), f i = m → has (gOf B i) v = true → ∃ t, Cl B U v i t ∧ Top B U v t := by
    intro m
    induction m using Nat.strongRecOn with
    | _ m ih =>
      intro i hm hi
      obtain ⟨h0, h1⟩ := bag_range hi
      cases ha : has (aboveB B U i) v
      · exact ⟨i, .refl hi, hi, ha⟩
      · by_cases hu : 0 ≤ upF U i
        · rw [aboveB, if_pos hu] at ha
          obtain ⟨t, hc, ht⟩ := ih (f (upF U i)) (by rw [← hm]; exact hh i h0 h1 hu) _ rfl ha
          exact ⟨t, .step hi hu hc, ht⟩
        · rw [aboveB, if_neg hu, has_zero] at ha; cases ha
  exact key _ i rfl hi
def Uniq (B : List VS) (U : List Int) (v : Int) : Prop := ∀ i j, Top B U v i → Top B U v j → i = j
theorem exists_max {α : Type} (f : α → Nat) : ∀ {l : List α}, l ≠ [] → ∃ v, v ∈ l ∧ ∀ w ∈ l, f w ≤ f v
  | [], h => absurd rfl h
  | [a], _ => ⟨a, List.mem_cons_self, fun w hw => by simp at hw; subst hw; exact Nat.le_refl _⟩
  | a :: b :: l, _ => by
    obtain ⟨v, hv, hm⟩ := exists_max f (l := b :: l) (by simp)
    by_cases h : f v ≤ f a
    · refine ⟨a, List.mem_cons_self, fun w hw => ?_⟩
      rcases List.mem_cons.1 hw with rfl | hw
      · exact Nat.le_refl _
      · have := hm w hw; omega
    · refine ⟨v, List.mem_cons_of_mem _ hv, fun w hw => ?_⟩
      rcases List.mem_cons.1 hw with rfl | hw
      · omega
      · exact hm w hw
theorem cl_rank {B : List VS} {U : List Int} {f : Int → Nat} (hh : ∀ i, 0 ≤ i → i < (B.length : Int) → 0 ≤ upF U i → f (upF U i) < f i) {v i t : Int} (hc : Cl B U v i t) : f t ≤ f i := by
  induction hc with
  | refl _ => exact Nat.le_refl _
  | step h hu2 _ ih =>
    have := hh _ (bag_range h).1 (bag_range h).2 hu2
    omega
theorem cl_shared {B : List VS} {U : List Int} {f : Int → Nat} (hh : ∀ i, 0 ≤ i → i < (B.length : Int) → 0 ≤ upF U i → f (upF U i) < f i) {v w i t : Int} (hc : Cl B U v i t) :
    has (gOf B i) w = true → (∀ t', Top B U w t' → f t' ≤ f t) → has (gOf B t) w = true := by
  induction hc with
  | refl _ => exact fun h _ => h
  | step h hu2 hc2 ih =>
    intro hj hm
    apply ih _ hm
    apply Classical.byContradiction
    intro hno
    have h2 := hm _ ⟨hj, by rw [aboveB, if_pos hu2]; simpa using hno⟩
    have h1 := hh _ (bag_range h).1 (bag_range h).2 hu2
    have h3 := cl_rank hh hc2
    omega
/-- Of some vertices, one has a bag with all of them that share a bag with it. -/
theorem deepest {B : List VS} {U : List Int} (hf : Formed B.length U) {S : VS} (hS : S ≠ 0) (hu : ∀ v, has S v = true → Uniq B U v) (hb : ∀ v, has S v = true → ∃ i, has (gOf B i) v = true) :
    ∃ v, has S v = true ∧ ∃ i, has (gOf B i) v = true ∧ ∀ w, has S w = true → (∃ j, has (gOf B j) v = true ∧ has (gOf B j) w = true) → has (gOf B i) w = true := by
  obtain ⟨f, hh⟩ := hf.rank
  have ht : ∀ v, ∃ t, has S v = true → Top B U v t := fun v => by
    by_cases hv : has S v = true
    · obtain ⟨i, hi⟩ := hb v hv
      obtain ⟨t, _, h⟩ := climb_top hf v hi
      exact ⟨t, fun _ => h⟩
    · exact ⟨0, fun h => absurd h hv⟩
  obtain ⟨t, ht⟩ := Classical.axiomOfChoice ht
  obtain ⟨v, hv, hm⟩ := exists_max (fun v => f (t v)) (mems_ne hS)
  rw [mem_mems] at hv
  refine ⟨v, hv, t v, (ht v hv).1, fun w hw ⟨j, hj1, hj2⟩ => ?_⟩
  have hwm := hm w ((mem_mems _ _).2 hw)
  obtain ⟨t', hc, htop⟩ := climb_top hf v hj1
  obtain rfl := hu v hv _ _ htop (ht v hv)
  refine cl_shared hh hc hj2 fun t' ht' => ?_
  rw [hu w hw _ _ ht' (ht w hw)]
  exact hwm

/-! ### which trees are decompositions -/
def together (B : List VS) (v : Int) : VS := B.foldl (fun t b => if has b v = true then t ||| b else t) 0
theorem has_together_aux (v w : Int) : ∀ (B : List VS) (t : VS), has (B.foldl (fun t b => if has b v = true then t ||| b else t) t) w = true ↔ has t w = true ∨ ∃ b ∈ B, has b v = true ∧ has b w = true
  | [], t => by simp
  | b :: B, t => by
    rw [List.foldl_cons, has_together_aux v w B]
    by_cases h : has b v = true
    · rw [if_pos h, has_or, Bool.or_eq_true]
      constructor
      · rintro ((h1 | h1) | ⟨c, hc, h1⟩)
        · exact .inl h1
        · exact .inr ⟨b, List.mem_cons_self, h, h1⟩
        · exact .inr ⟨c, List.mem_cons_of_mem _ hc, h1⟩
      · rintro (h1 | ⟨c, hc, h1⟩)
        · exact .inl (.inl h1)
        · rcases List.mem_cons.1 hc with rfl | hc
          · exact .inl (.inr h1.2)
          · exact .inr ⟨c, hc, h1⟩
    · rw [if_neg h]
      constructor
      · rintro (h1 | ⟨c, hc, h1⟩)
        · exact .inl h1
        · exact .inr ⟨c, List.mem_cons_of_mem _ hc, h1⟩
      · rintro (h1 | ⟨c, hc, h1⟩)
        · exact .inl h1
        · rcases List.mem_cons.1 hc with rfl | hc
          · exact absurd h1.1 h
          · exact .inr ⟨c, hc, h1⟩
theorem mem_bags {B : List VS} {p : VS → Prop} : (∃ b ∈ B, p b) ↔ ∃ i, (0 ≤ i ∧ i < (B.length : Int)) ∧ p (gOf B i) := by
  constructor
  · rintro ⟨b, hb, hp⟩
    obtain ⟨i, hi, rfl⟩ := List.getElem_of_mem hb
    exact ⟨(i : Int), ⟨by omega, by omega⟩, by rw [gOf_nat B i hi]; exact hp⟩
  · rintro ⟨i, ⟨h0, h1⟩, hp⟩
    obtain ⟨k, rfl⟩ : ∃ k : Nat, i = (k : Int) := ⟨i.toNat, by omega⟩
    have hk : k < B.length := by omega
    rw [gOf_nat B k hk] at hp
    exact ⟨_, List.getElem_mem hk, hp⟩
def Tog (B : List VS) (v w : Int) : Prop := ∃ i, has (gOf B i) v = true ∧ has (gOf B i) w = true
theorem Tog.comm {B : List VS} {v w : Int} (h : Tog B v w) : Tog B w v := by obtain ⟨i, h1, h2⟩ := h; exact ⟨i, h2, h1⟩
theorem has_together {B : List VS} {v w : Int} : has (together B v) w = true ↔ Tog B v w := by
  unfold together
  rw [has_together_aux, has_zero, mem_bags]
  constructor
  · rintro (h | ⟨i, _, h⟩)
    · cases h
    · exact ⟨i, h⟩
  · rintro ⟨i, h⟩
    exact .inr ⟨i, bag_range h.1, h⟩
def Cov (L B : List VS) : Prop := ∀ v w, 1 ≤ v → v < (L.length : Int) → (v = w ∨ has (gOf L v) w = true) → Tog B v w
def covAt (L B : List VS) (v : Int) : Bool := (decide (v ≤ 0) || has (together B v) v) && sub (gOf L v) (together B v)
def covB (L B : List VS) : Bool := (List.range L.length).all fun k : Nat => covAt L B (k : Int)
theorem covAt_iff {L B : List VS} {v : Int} (hv : 1 ≤ v) : covAt L B v = true ↔ ∀ w, (v = w ∨ has (gOf L v) w = true) → Tog B v w := by
  unfold covAt
  rw [Bool.and_eq_true, sub_iff, decide_eq_false (by omega : ¬ v ≤ 0), Bool.false_or]
  constructor
  · rintro ⟨h1, h2⟩ w (rfl | h)
    · exact has_together.1 h1
    · exact has_together.1 (h2 w h)
  · intro h
    exact ⟨has_together.2 (h v (.inl rfl)), fun w hw => has_together.2 (h w (.inr hw))⟩
theorem covB_iff {L B : List VS} (h0 : gOf L 0 = 0) : covB L B = true ↔ Cov L B := by
  unfold covB
  rw [List.all_eq_true]
  constructor
  · intro h v w h1 h2
    obtain ⟨k, rfl⟩ : ∃ k : Nat, v = (k : Int) := ⟨v.toNat, by omega⟩
    exact (covAt_iff h1).1 (h k (by rw [List.mem_range]; omega)) w
  · intro h k hk
    rw [List.mem_range] at hk
    by_cases hk0 : k = 0
    · subst hk0
      unfold covAt
      rw [show ((0 : Nat) : Int) = 0 from rfl, h0]
      rw [Bool.and_eq_true, sub_iff]
      exact ⟨by simp, fun v hv => by rw [has_zero] at hv; cases hv⟩
    · exact (covAt_iff (by omega)).2 fun w hw => h (k : Int) w (by omega) (by omega) hw
/-- The vertices that have a top among the first bags; none: one has two. -/
def topsTo (B : List VS) (U : List Int) : Nat → Option VS
  | 0 => some 0
  | k + 1 => match topsTo B U k with
    | none => none
    | some t => if minus (gOf B (k : Int)) (aboveB B U (k : Int)) &&& t = 0 then some (t ||| minus (gOf B (k : Int)) (aboveB B U (k : Int))) else none
def connB (B : List VS) (U : List Int) : Bool := (topsTo B U B.length).isSome
def Conn (B : List VS) (U : List Int) : Prop := ∀ v, Uniq B U v
theorem top_iff {B : List VS} {U : List Int} {v i : Int} : Top B U v i ↔ has (minus (gOf B i) (aboveB B U i)) v = true := by
  rw [has_minus, Bool.and_eq_true, Bool.not_eq_true']; rfl
theorem topsTo_some {B : List VS} {U : List Int} : ∀ (k : Nat) (t : VS), topsTo B U k = some t →
    (∀ v, has t v = true ↔ ∃ i, 0 ≤ i ∧ i < (k : Int) ∧ Top B U v i) ∧ ∀ v i j, 0 ≤ i → i < (k : Int) → 0 ≤ j → j < (k : Int) → Top B U v i → Top B U v j → i = j
  | 0, t, h => by
    rw [topsTo] at h
    obtain rfl := Option.some.inj h
    exact ⟨fun v => by rw [has_zero]; exact ⟨fun h => (by cases h), fun ⟨i, h1, h2, _⟩ => (by omega)⟩, fun v i j h1 h2 => (by omega)⟩
  | k + 1, t, h => by
    rw [topsTo] at h
    cases hk : topsTo B U k with
    | none => rw [hk] at h; cases h
    | some s =>
      rw [hk] at h
      obtain ⟨h1, h2⟩ := topsTo_some k s hk
      simp only at h
      split at h
      · rename_i h0
        obtain rfl := Option.some.inj h
        have hno : ∀ v, Top B U v (k : Int) → has s v = true → False := fun v hv hs => by
          have := congrArg (fun x => has x v) h0
          simp only [has_and, has_zero] at this
          rw [top_iff.1 hv, hs] at this
          cases this
        refine ⟨fun v => ?_, fun v i j a b c d e f => ?_⟩
        · rw [has_or, Bool.or_eq_true, h1, ← top_iff]
          constructor
          · rintro (⟨i, a, b, c⟩ | c)
            · exact ⟨i, a, by omega, c⟩
            · exact ⟨(k : Int), by omega, by omega, c⟩
          · rintro ⟨i, a, b, c⟩
            by_cases e : i = (k : Int)
            · exact .inr (e ▸ c)
            · exact .inl ⟨i, a, by omega, c⟩
        · by_cases e1 : i = (k : Int)
          · by_cases e2 : j = (k : Int)
            · omega
            · exact absurd ((h1 v).2 ⟨j, c, by omega, f⟩) (fun hs => hno v (e1 ▸ e) hs)
          · by_cases e2 : j = (k : Int)
            · exact absurd ((h1 v).2 ⟨i, a, by omega, e⟩) (fun hs => hno v (e2 ▸ f) hs)
            · exact h2 v i j a (by omega) c (by omega) e f
      · cases h
theorem topsTo_none {B : List VS} {U : List Int} : ∀ (k : Nat), topsTo B U k = none → ∃ v i j, Top B U v i ∧ Top B U v j ∧ i ≠ j
  | 0, h => by rw [topsTo] at h; cases h
  | k + 1, h => by
    rw [topsTo] at h
    cases hk : topsTo B U k with
    | none => exact topsTo_none k hk
    | some s =>
      rw [hk] at h
      obtain ⟨h1, _⟩ := topsTo_some k s hk
      simp only at h
      split at h
      · cases h
      · rename_i h0
        have hm := mems_ne h0
        obtain ⟨v, hv⟩ := List.exists_mem_of_ne_nil _ hm
        rw [mem_mems, has_and, Bool.and_eq_true, ← top_iff] at hv
        obtain ⟨i, a, b, c⟩ := (h1 v).1 hv.2
        exact ⟨v, i, (k : Int), c, hv.1, by omega⟩
theorem connB_iff {B : List VS} {U : List Int} : connB B U = true ↔ Conn B U := by
  unfold connB
  cases h : topsTo B U B.length with
  | none =>
    obtain ⟨v, i, j, a, b, c⟩ := topsTo_none _ h
    simp only [Option.isSome_none, Bool.false_eq_true, false_iff]
    exact fun hc => c (hc v i j a b)
  | some t =>
    obtain ⟨_, h2⟩ := topsTo_some _ t h
    simp only [Option.isSome_some, true_iff]
    intro v i j a b
    obtain ⟨x, y⟩ := bag_range a.1
    obtain ⟨z, u⟩ := bag_range b.1
    exact h2 v i j x y z u a b
def inAll (n : Int) (B : List VS) : Bool := B.all fun b => sub b (allV n)
/-- The number that Check returns. -/
def checkW (L B : List VS) (U : List Int) : Int :=
  if validG L = false then 1 else if formedB B.length U = false then 5 else if inAll ((L.length : Int) - 1) B = false then 6 else if covB L B = false then 3 else if connB B U = false then 210 else 0
structure Deco (L B : List VS) (U : List Int) : Prop where
  ok : ValidG L
  formed : Formed B.length U
  inn : ∀ b ∈ B, ∀ v, has b v = true → v < (L.length : Int)
  cov : Cov L B
  conn : Conn B U
theorem inAll_iff {L B : List VS} (_h : ValidG L) : inAll ((L.length : Int) - 1) B = true ↔ ∀ b ∈ B, ∀ v, has b v = true → v < (L.length : Int) := by
  unfold inAll
  rw [List.all_eq_true]
  constructor
  · intro h b hb v hv
    have := (sub_iff _ _).1 (h b hb) v hv
    rw [has_allV] at this
    simp at this; omega
  · intro h b hb
    rw [sub_iff]
    intro v hv
    have h1 := h b hb v hv
    have h2 := has_range hv
    rw [has_allV]
    simp; omega
theorem checkW_ok {L B : List VS} {U : List Int} : checkW L B U = 0 ↔ Deco L B U := by
  unfold checkW
  constructor
  · intro h
    split at h
    · omega
    · rename_i h1
      have h1 := validG_iff.1 (by simpa using h1)
      split at h
      · omega
      · rename_i h2
        split at h
        · omega
        · rename_i h3
          split at h
          · omega
          · rename_i h4
            split at h
            · omega
            · rename_i h5
              exact ⟨h1, formedB_iff.1 (by simpa using h2), (inAll_iff h1).1 (by simpa using h3), (covB_iff h1.zero).1 (by simpa using h4), connB_iff.1 (by simpa using h5)⟩
  · rintro ⟨h1, h2, h3, h4, h5⟩
    rw [if_neg (by rw [validG_yes h1]; simp), if_neg (by rw [formedB_iff.2 h2]; simp), if_neg (by rw [(inAll_iff h1).2 h3]; simp), if_neg (by rw [(covB_iff h1.zero).2 h4]; simp), if_neg (by rw [connB_iff.2 h5]; simp)]
/-- The greatest number of elements. -/
def mostL (B : List VS) : Int := B.foldl (fun m b => max m (len b)) 0
def widthT (B : List VS) : Int := if B = [] then -1 else mostL B - 1
theorem mostL_aux : ∀ (B : List VS) (m : Int), m ≤ B.foldl (fun m b => max m (len b)) m ∧ (∀ b ∈ B, len b ≤ B.foldl (fun m b => max m (len b)) m) ∧ (B.foldl (fun m b => max m (len b)) m = m ∨ ∃ b ∈ B, len b = B.foldl (fun m b => max m (len b)) m)
  | [], m => ⟨Int.le_refl _, fun b hb => (by cases hb), .inl rfl⟩
  | b :: B, m => by
    obtain ⟨h1, h2, h3⟩ := mostL_aux B (max m (len b))
    rw [List.foldl_cons]
    refine ⟨by omega, fun c hc => ?_, ?_⟩
    · rcases List.mem_cons.1 hc with rfl | hc
      · omega
      · exact h2 c hc
    · rcases h3 with h3 | ⟨c, hc, h3⟩
      · by_cases hm : len b ≤ m
        · left; omega
        · right; exact ⟨b, List.mem_cons_self, by omega⟩
      · exact .inr ⟨c, List.mem_cons_of_mem _ hc, h3⟩
theorem le_widthT {B : List VS} {b : VS} (h : b ∈ B) : len b - 1 ≤ widthT B := by
  unfold widthT
  rw [if_neg (by intro e; rw [e] at h; cases h)]
  have := (mostL_aux B 0).2.1 b h
  unfold mostL
  omega
theorem widthT_at {B : List VS} (h : B ≠ []) : ∃ b ∈ B, len b - 1 = widthT B := by
  unfold widthT mostL
  rw [if_neg h]
  rcases (mostL_aux B 0).2.2 with h1 | ⟨b, hb, h1⟩
  · match B, h with
    | b :: B, _ =>
      have h2 := (mostL_aux (b :: B) 0).2.1 b List.mem_cons_self
      have := len_pos (s := b)
      exact ⟨b, List.mem_cons_self, by omega⟩
  · exact ⟨b, hb, by omega⟩
/-- Vertices each two of which are neighbours are in a bag together. -/
theorem clique_bag {L B : List VS} {U : List Int} (h : Deco L B U) {S : VS} (hS : S ≠ 0) (hc : ∀ v w, has S v = true → has S w = true → v ≠ w → has (gOf L v) w = true) (hr : ∀ v, has S v = true → v < (L.length : Int)) : ∃ b ∈ B, ∀ v, has S v = true → has b v = true := by
  have hc2 : ∀ v w, has S v = true → has S w = true → Tog B v w := fun v w hv hw => by
    by_cases e : v = w
    · exact h.cov v w (has_range hv).1 (hr v hv) (.inl e)
    · exact h.cov v w (has_range hv).1 (hr v hv) (.inr (hc v w hv hw e))
  obtain ⟨v, hv, i, hi, hall⟩ := deepest h.formed hS (fun v _ => h.conn v) (fun v hv => by obtain ⟨j, hj, _⟩ := hc2 v v hv hv; exact ⟨j, hj⟩)
  refine mem_bags.2 ⟨i, bag_range hi, fun w hw => hall w hw (hc2 v w hv hw)⟩

/-! ### the lower bound -/
def degIn (g : Gr) (s : VS) (v : Int) : Int := len (g v &&& s)
def lowF (g : Gr) : Nat → VS → Int → Int
  | 0, _, m => m
  | k + 1, s, m => if s = 0 then m else lowF g k (withoutV s (pick (degIn g s) (mems s)).1) (max m (degIn g s (pick (degIn g s) (mems s)).1))
def lowerP (L : List VS) : Int := if validG L = true then lowF (gOf L) 129 (allV ((L.length : Int) - 1)) (-1) else -1
theorem pick_in {f : Int → Int} {s : VS} (h : s ≠ 0) : has s (pick f (mems s)).1 = true ∧ ∀ v, has s v = true → f (pick f (mems s)).1 ≤ f v := by
  obtain ⟨h1, _, h3⟩ := pick_spec (cost := f) (mems_ne h) (mems_pos s)
  exact ⟨(mem_mems _ _).1 h1, fun v hv => h3 v ((mem_mems _ _).2 hv)⟩
theorem lowF_ge (g : Gr) : ∀ (k : Nat) (s : VS) (m : Int), m ≤ lowF g k s m
  | 0, s, m => Int.le_refl _
  | k + 1, s, m => by
    rw [lowF]
    split
    · exact Int.le_refl _
    · have := lowF_ge g k (withoutV s (pick (degIn g s) (mems s)).1) (max m (degIn g s (pick (degIn g s) (mems s)).1))
      omega
theorem degIn_mono {g : Gr} {s t : VS} (h : ∀ v, has s v = true → has t v = true) (v : Int) : degIn g s v ≤ degIn g t v := by
  unfold degIn
  apply len_mono
  intro u hu
  rw [has_and, Bool.and_eq_true] at hu ⊢
  exact ⟨hu.1, h u hu.2⟩
theorem lowF_core (g : Gr) {c : VS} {d : Int} (hc : c ≠ 0) (hd : ∀ v, has c v = true → d ≤ degIn g c v) : ∀ (k : Nat) (s : VS) (m : Int), len s ≤ k → (∀ v, has c v = true → has s v = true) → d ≤ lowF g k s m
  | 0, s, m, hk, hs => by
    have := len_none hk
    subst this
    exact absurd (zero_of_none fun v => by
      cases hv : has c v
      · rfl
      · have := hs v hv; rw [has_zero] at this; cases this) hc
  | k + 1, s, m, hk, hs => by
    rw [lowF]
    have hs0 : s ≠ 0 := fun e => hc (zero_of_none fun v => by
      cases hv : has c v
      · rfl
      · have := hs v hv; rw [e, has_zero] at this; cases this)
    rw [if_neg hs0]
    obtain ⟨hp, _⟩ := pick_in (f := degIn g s) hs0
    generalize hpe : (pick (degIn g s) (mems s)).1 = p at *
    cases hcp : has c p
    · refine lowF_core g hc hd k _ _ ?_ fun v hv => ?_
      · rw [len_without hp]; omega
      · rw [has_withoutV, Bool.and_eq_true]
        refine ⟨hs v hv, ?_⟩
        have : v ≠ p := fun e => by rw [e, hcp] at hv; cases hv
        simp [this]
    · have h1 := hd p hcp
      have h2 := degIn_mono (g := g) hs p
      have h3 := lowF_ge g k (withoutV s p) (max m (degIn g s p))
      omega
theorem lowF_at (g : Gr) : ∀ (k : Nat) (s : VS) (m : Int), lowF g k s m = m ∨ ∃ c : VS, c ≠ 0 ∧ (∀ v, has c v = true → has s v = true) ∧ ∀ v, has c v = true → lowF g k s m ≤ degIn g c v
  | 0, s, m => .inl rfl
  | k + 1, s, m => by
    rw [lowF]
    by_cases hs : s = 0
    · rw [if_pos hs]; exact .inl rfl
    · rw [if_neg hs]
      obtain ⟨hp, hm⟩ := pick_in (f := degIn g s) hs
      generalize hpe : (pick (degIn g s) (mems s)).1 = p at *
      rcases lowF_at g k (withoutV s p) (max m (degIn g s p)) with h | ⟨c, h1, h2, h3⟩
      · by_cases hc : degIn g s p ≤ m
        · left; omega
        · exact .inr ⟨s, hs, fun v hv => hv, fun v hv => by have := hm v hv; omega⟩
      · refine .inr ⟨c, h1, fun v hv => ?_, h3⟩
        have := h2 v hv
        rw [has_withoutV, Bool.and_eq_true] at this
        exact this.1
theorem lowerP_at {L : List VS} (h : ValidG L) : lowerP L = -1 ∨ ∃ c : VS, c ≠ 0 ∧ (∀ v, has c v = true → v < (L.length : Int)) ∧ ∀ v, has c v = true → lowerP L ≤ degIn (gOf L) c v := by
  unfold lowerP
  rw [if_pos (validG_yes h)]
  rcases lowF_at (gOf L) 129 (allV ((L.length : Int) - 1)) (-1) with h1 | ⟨c, h1, h2, h3⟩
  · exact .inl h1
  · refine .inr ⟨c, h1, fun v hv => ?_, h3⟩
    have := h2 v hv
    rw [has_allV] at this
    simp at this; omega
theorem lowerP_ge {L : List VS} (h : ValidG L) {c : VS} {d : Int} (hc : c ≠ 0) (hr : ∀ v, has c v = true → v < (L.length : Int)) (hd : ∀ v, has c v = true → d ≤ degIn (gOf L) c v) : d ≤ lowerP L := by
  unfold lowerP
  rw [if_pos (validG_yes h)]
  refine lowF_core _ hc hd _ _ _ ?_ fun v hv => ?_
  · have := len_allL h
    have := h.le
    omega
  · have h1 := hr v hv
    have h2 := has_range hv
    rw [has_allV]; simp; omega
theorem lowerP_pos {L : List VS} : -1 ≤ lowerP L := by
  unfold lowerP
  split
  · exact lowF_ge _ _ _ _
  · exact Int.le_refl _
/-- No decomposition is less wide than the lower bound. -/
theorem bound {L B : List VS} {U : List Int} (h : Deco L B U) : lowerP L ≤ widthT B := by
  rcases lowerP_at h.ok with h1 | ⟨c, h1, h2, h3⟩
  · rw [h1]
    unfold widthT
    split
    · exact Int.le_refl _
    · have := (mostL_aux B 0).1
      unfold mostL
      omega
  · have hcv : ∀ v w, has c v = true → has c w = true → (v = w ∨ has (gOf L v) w = true) → Tog B v w := fun v w hv hw e => h.cov v w (has_range hv).1 (h2 v hv) e
    obtain ⟨v, hv, i, hi, hall⟩ := deepest h.formed h1 (fun v _ => h.conn v) (fun v hv => by obtain ⟨j, hj, _⟩ := hcv v v hv hv (.inl rfl); exact ⟨j, hj⟩)
    have hd := h3 v hv
    unfold degIn at hd
    have hself : has (gOf L v &&& c) v = false := by
      rw [has_and]
      have := (h.ok.okAll v).self
      rw [this]; rfl
    have hl : len (withV (gOf L v &&& c) v) = len (gOf L v &&& c) + 1 := len_with hself (has_range hv).1 (has_range hv).2
    have hm : len (withV (gOf L v &&& c) v) ≤ len (gOf B i) := len_mono fun u hu => by
      rw [has_withV, has_and] at hu
      simp only [Bool.or_eq_true, Bool.and_eq_true, decide_eq_true_eq] at hu
      rcases hu with hu | hu
      · exact hall u hu.2 (hcv v u hv hu.2 (.inr hu.1))
      · rw [hu.1.1]; exact hi
    obtain ⟨b, hb, e⟩ := mem_bags (p := fun b => b = gOf B i).2 ⟨i, bag_range hi, rfl⟩
    have := le_widthT hb
    rw [e] at this
    omega
end Go.Proofs.YtmlecpapoeodkaaDoor
