/- Words for memory: the reader, the numbers that a call owns. -/
import Derived.Test.YtkfmblpcfgdgpaaFNext
import Derived.Test.YtkfmblpcfgdgpaaNSame
namespace Go.Proofs.Ytkfmblpcfgdgpaa
open Go.RowKit

/-- The reader's variables: the place pa, the bytes pb; all blocks lie below B. -/
structure Rdr (B : Nat) (w : World) (pa pb : Nat) (v : Value) (l : List UInt8) (a : Nat) : Prop where
  bytes : BytesAt w v l
  at_ : Boxed w pa 3 (.int .i64 (a : Int))
  b : Boxed w pb 28 v
  ne : pb ≠ pa
  far : ∀ x n c, v = .slice (some x) n c → x.block ≠ pa ∧ x.block < B
  le : a ≤ l.length
  len : l.length ≤ 140737488355328
  la : pa < B
  lb : pb < B
theorem BytesAt.kept {w w' : World} {v : Value} {l : List UInt8} {row : Option Nat} (h : BytesAt w v l) (hg : w.grownBy w' row) (hne : ∀ x n c, v = .slice (some x) n c → some x.block ≠ row) : BytesAt w' v l := by
  obtain ⟨p, c, rfl, h⟩ := h
  refine ⟨p, c, rfl, ?_⟩
  rcases h with h | ⟨b, off, rfl, h⟩
  · exact .inl h
  · refine .inr ⟨b, off, rfl, fun i hi => ?_⟩
    rw [World.cell?_of_block (w := w) (hg.block b (cell_lt (h i hi)) (hne _ _ _ rfl))]
    exact h i hi
theorem Rdr.kept {B : Nat} {w w' : World} {pa pb : Nat} {v : Value} {l : List UInt8} {a : Nat} {row : Option Nat} (h : Rdr B w pa pb v l a) (hg : w.grownBy w' row) (hrow : ∀ k, row = some k → B ≤ k) : Rdr B w' pa pb v l a :=
  ⟨h.bytes.kept hg (fun x n c e1 e2 => by have := (h.far x n c e1).2; have := hrow _ e2.symm; omega), h.at_.kept hg (fun e => by have := hrow _ e.symm; have := h.la; omega), h.b.kept hg (fun e => by have := hrow _ e.symm; have := h.lb; omega), h.ne, h.far, h.le, h.len, h.la, h.lb⟩
theorem grownBy_of_below {w w' : World} (hb : Below w.heap.size w w') (row : Option Nat) : w.grownBy w' row := ⟨hb.os, hb.tape, hb.output, hb.size, fun k hk _ => hb.block k hk⟩
theorem Rdr.below {B : Nat} {w w' : World} {pa pb : Nat} {v : Value} {l : List UInt8} {a : Nat} (h : Rdr B w pa pb v l a) (hb : Below w.heap.size w w') : Rdr B w' pa pb v l a :=
  h.kept (grownBy_of_below hb none) (by simp)
theorem Rdr.low {B : Nat} {w w' : World} {pa pb : Nat} {v : Value} {l : List UInt8} {a : Nat} (h : Rdr B w pa pb v l a) (hb : Below B w w') : Rdr B w' pa pb v l a := by
  have hc : ∀ {k : Nat} {t : TypeId} {u : Value}, k < B → Boxed w k t u → Boxed w' k t u := fun hk hbx => (hb.block _ hk).trans hbx
  refine ⟨?_, hc h.la h.at_, hc h.lb h.b, h.ne, h.far, h.le, h.len, h.la, h.lb⟩
  obtain ⟨p, c, rfl, hp⟩ := h.bytes
  refine ⟨p, c, rfl, ?_⟩
  rcases hp with hp | ⟨b, off, rfl, hp⟩
  · exact .inl hp
  · refine .inr ⟨b, off, rfl, fun i hi => ?_⟩
    rw [World.cell?_of_block (w := w) (hb.block b (h.far _ _ _ rfl).2)]
    exact hp i hi
theorem Rdr.mono {B B' : Nat} {w : World} {pa pb : Nat} {v : Value} {l : List UInt8} {a : Nat} (h : Rdr B w pa pb v l a) (hb : B ≤ B') : Rdr B' w pa pb v l a :=
  ⟨h.bytes, h.at_, h.b, h.ne, fun x n c e => ⟨(h.far x n c e).1, Nat.lt_of_lt_of_le (h.far x n c e).2 hb⟩, h.le, h.len, Nat.lt_of_lt_of_le h.la hb, Nat.lt_of_lt_of_le h.lb hb⟩
theorem Rdr.next {B : Nat} {w w' : World} {pa pb : Nat} {v : Value} {l : List UInt8} {a a' : Nat} (h : Rdr B w pa pb v l a) (hat : AtSet w w' pa a') (hle : a' ≤ l.length) : Rdr B w' pa pb v l a' :=
  ⟨h.bytes.kept hat.2 (fun x n c e1 e2 => (h.far x n c e1).1 (by simpa using e2)), hat.1, h.b.kept hat.2 (by simpa using h.ne), h.ne, h.far, hle, h.len, h.la, h.lb⟩
/-- The reader of numbers, where it reads one. -/
theorem next_some {most : Nat} (hm : most ≤ 16777216) {B : Nat} {w : World} {pa pb : Nat} {v : Value} {l : List UInt8} {a : Nat} (h : Rdr B w pa pb v l a) {n : Nat} {r : List UInt8} (hr : rd most 0 0 (l.drop a) = some (n, r)) :
    Calls Try.prog 49 #[.int .i64 most, .pointer (some ⟨pa, 0, none⟩), .pointer (some ⟨pb, 0, none⟩)] w fun e w' => e = .returned (.int .i64 (n : Int)) ∧ ∃ a', r = l.drop a' ∧ a ≤ a' ∧ a' ≤ l.length ∧ AtSet w w' pa a' :=
  (next_c most hm a l v pa pb w h.bytes h.len h.le h.at_ h.b h.ne (fun b n c e => (h.far b n c e).1)).mono fun e w' hp => by
    unfold NextPost at hp
    rw [hr] at hp
    obtain ⟨a', h1, h2, h3, h4, h5⟩ := hp
    exact ⟨h4, a', h1, h2, h3, h5⟩
theorem next_none {most : Nat} (hm : most ≤ 16777216) {B : Nat} {w : World} {pa pb : Nat} {v : Value} {l : List UInt8} {a : Nat} (h : Rdr B w pa pb v l a) (hr : rd most 0 0 (l.drop a) = none) :
    Calls Try.prog 49 #[.int .i64 most, .pointer (some ⟨pa, 0, none⟩), .pointer (some ⟨pb, 0, none⟩)] w fun e w' => e = .panicked wrongs ∧ ∃ a', AtSet w w' pa a' :=
  (next_c most hm a l v pa pb w h.bytes h.len h.le h.at_ h.b h.ne (fun b n c e => (h.far b n c e).1)).mono fun e w' hp => by
    unfold NextPost at hp
    rw [hr] at hp
    obtain ⟨a', h1, h2⟩ := hp
    exact ⟨h1, a', h2⟩
/-- The slice value v is numbers of the call's own. -/
def OwnInts (w : World) (base : Nat) (v : Value) (l : List Int) : Prop := w.ownsRow base 3 1 v l.length (l.map (Value.int .i64))
theorem OwnInts.ints {w : World} {base : Nat} {v : Value} {l : List Int} (h : OwnInts w base v l) : IntsAt w v l := by
  rcases h.2 with ⟨rfl, h0⟩ | ⟨g, cap, cur, rfl, _, hg, hn, _, hs, ht⟩
  · have : l = [] := by simpa using h0
    subst this; exact ⟨none, 0, rfl, .inl rfl⟩
  · refine ⟨_, _, rfl, .inr ⟨g, 0, rfl, fun i hi => ?_⟩⟩
    have h1 : cur[i]? = some (.int .i64 (l[i]?.getD 0)) := by
      have := congrArg (fun x => x[i]?) ht
      simp only [Nat.mul_one, List.getElem?_take, List.getElem?_map, hi, if_true, List.getElem?_eq_getElem, Option.map_some] at this
      rw [← Array.getElem?_toList, this]; simp [hi]
    simp [World.cell?, hg, h1]
theorem info_int : (Try.prog.info? 3).map (fun i => (i.zero, i.size, i.bytes)) = some (some (.int .i64 0), 1, 8) := by kernel_rfl
/-- How one leaves. -/
def OnePost (i a : Nat) (l : List UInt8) (pa : Nat) (w : World) (e : Ending) (w' : World) : Prop :=
  match rdNode i (l.drop a) with
  | some (x, r) => ∃ a' v, r = l.drop a' ∧ a ≤ a' ∧ a' ≤ l.length ∧ e = .returned (encN x v) ∧ AtSet w w' pa a' ∧ OwnInts w' w.heap.size v x.ins
  | none => ∃ a', e = .panicked wrongs ∧ AtSet w w' pa a'
theorem onePost_no {i a : Nat} {l : List UInt8} {pa : Nat} {w w' : World} {a' : Nat} (h : rdNode i (l.drop a) = none) (hat : AtSet w w' pa a') : OnePost i a l pa w (.panicked wrongs) w' := by
  unfold OnePost; rw [h]; exact ⟨a', rfl, hat⟩
theorem onePost_yes {i a : Nat} {x : NodeT} {l : List UInt8} {pa : Nat} {w w' : World} {a' : Nat} {v : Value} (h : rdNode i (l.drop a) = some (x, l.drop a')) (h1 : a ≤ a') (h2 : a' ≤ l.length) (hat : AtSet w w' pa a') (ho : OwnInts w' w.heap.size v x.ins) : OnePost i a l pa w (.returned (encN x v)) w' := by
  unfold OnePost; rw [h]; exact ⟨a', v, rfl, h1, h2, rfl, hat, ho⟩
theorem AtSet.after {w w1 w2 : World} {pa a : Nat} (hb : Below w.heap.size w w1) (h : AtSet w1 w2 pa a) : AtSet w w2 pa a := ⟨h.1, grownBy_trans (grownBy_of_below hb _) h.2⟩
theorem AtSet.trans {w w1 w2 : World} {pa a a' : Nat} (h : AtSet w w1 pa a) (g : AtSet w1 w2 pa a') : AtSet w w2 pa a' := ⟨g.1, grownBy_trans h.2 g.2⟩
theorem AtSet.then {w w1 w2 : World} {pa a : Nat} (h : AtSet w w1 pa a) (hb : Below w.heap.size w1 w2) (hp : pa < w.heap.size) : AtSet w w2 pa a :=
  ⟨(hb.block pa hp).trans h.1, ⟨hb.os.trans h.2.os, hb.tape.trans h.2.tape, hb.output.trans h.2.output, Nat.le_trans h.2.size hb.size, fun k hk hne => (hb.block k hk).trans (h.2.block k hk hne)⟩⟩
end Go.Proofs.Ytkfmblpcfgdgpaa
