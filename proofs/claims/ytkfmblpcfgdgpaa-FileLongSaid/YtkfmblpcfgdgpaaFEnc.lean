/- Walks: Encode. -/
import Derived.Test.YtkfmblpcfgdgpaaFWrite3
import Derived.Test.YtkfmblpcfgdgpaaFCode4
namespace Go.Proofs.Ytkfmblpcfgdgpaa
open Go.RowKit

/-- The slice value v is new memory of the bytes l, and no more can be appended in place. -/
def OwnBytes (w : World) (base : Nat) (v : Value) (l : List UInt8) : Prop :=
  (v = .slice none 0 0 ∧ l = []) ∨ ∃ g cur, v = .slice (some ⟨g, 0, none⟩) l.length l.length ∧ base ≤ g ∧ w.heap[g]? = some (.cells cur 5 (0, 0)) ∧ l.length ≤ cur.size ∧ cur.toList.take l.length = l.map encB ∧ l.length ≤ maxLen
theorem OwnBytes.bytes {w : World} {base : Nat} {v : Value} {l : List UInt8} (h : OwnBytes w base v l) : BytesAt w v l := by
  rcases h with ⟨rfl, rfl⟩ | ⟨g, cur, rfl, _, hg, hn, ht, _⟩
  · exact ⟨none, 0, rfl, .inl rfl⟩
  · refine ⟨_, _, rfl, .inr ⟨g, 0, rfl, fun i hi => ?_⟩⟩
    have h1 : cur[i]? = some (encB l[i]) := by
      have := congrArg (fun x => x[i]?) ht
      simp only [List.getElem?_take, List.getElem?_map, hi, if_true, List.getElem?_eq_getElem, Option.map_some] at this
      rw [← Array.getElem?_toList]; exact this
    simp [World.cell?, hg, h1]
theorem OwnBytes.below {w w' : World} {base : Nat} {v : Value} {l : List UInt8} (h : OwnBytes w base v l) (hb : Below w.heap.size w w') : OwnBytes w' base v l := by
  rcases h with h | ⟨g, cur, h1, h2, hg, h3⟩
  · exact .inl h
  · exact .inr ⟨g, cur, h1, h2, by rw [hb.block g (Array.getElem?_eq_some_iff.1 hg).1]; exact hg, h3⟩
theorem row_bytes {w : World} {base : Nat} {v : Value} {l : List UInt8} (h : w.ownsRow base 5 1 v l.length (l.map encB)) : BytesAt w v l := by
  rcases h.2 with ⟨rfl, h0⟩ | ⟨g, cap, cur, rfl, _, hg, hn, _, hs, ht⟩
  · have : l = [] := by simpa using h0
    subst this; exact ⟨none, 0, rfl, .inl rfl⟩
  · refine ⟨_, _, rfl, .inr ⟨g, 0, rfl, fun i hi => ?_⟩⟩
    have h1 : cur[i]? = some (encB l[i]) := by
      have := congrArg (fun x => x[i]?) ht
      simp only [Nat.mul_one, List.getElem?_take, List.getElem?_map, hi, if_true, List.getElem?_eq_getElem, Option.map_some] at this
      rw [← Array.getElem?_toList]; exact this
    simp [World.cell?, hg, h1]
theorem Clip_c (g n c : Nat) (h : n ≤ c) (_hc : c ≤ maxLen) (w : World) :
    Calls Try.prog 31 #[.slice (some ⟨g, 0, none⟩) n c] w fun e w' => e = .returned (.slice (some ⟨g, 0, none⟩) n n) ∧ w = w' := by
  unfold maxLen at _hc
  go_enter Try.func31, Try.ntmps31
  go_wp2
  go_ret
  exact ⟨rfl, rfl⟩
/-! ### plain: how long the files are -/
theorem encFrom_append (A B : List NodeT) : ∀ i, encFrom i (A ++ B) = encFrom i A ++ encFrom (i + A.length) B := by
  induction A with
  | nil => intro i; simp [encFrom]
  | cons a A ih => intro i; simp only [List.cons_append, encFrom, ih, List.append_assoc, List.length_cons]; rw [show i + 1 + A.length = i + (A.length + 1) by omega]
theorem encFrom_snoc (L : List NodeT) (k : Nat) (hk : k < L.length) : encFrom 0 (L.take (k + 1)) = encFrom 0 (L.take k) ++ encNode k L[k] := by
  rw [List.take_succ_eq_append_getElem hk, encFrom_append]
  simp [encFrom]; rw [Nat.min_eq_left (by omega)]
theorem node_ins_le {i : Nat} {n : Int} {y : NodeT} (hf : formed y n i = true) : y.ins.length ≤ (encNode i y).length := by
  obtain ⟨_, h | h | h⟩ := formed_parts hf
  · rw [h.2.2]; simp
  · rw [h.2.2]; simp
  · unfold encNode
    rw [if_neg (by omega), if_pos h.1]
    have := encIns_length i y.ins
    simp; omega
theorem node_len_le {i : Nat} (hi : i < 9223372036854775808) {n : Int} {y : NodeT} (hf : formed y n i = true) (hl : y.ins.length < 9223372036854775808) : (encNode i y).length ≤ 20 + 10 * y.ins.length := by
  obtain ⟨h0, hk⟩ := formed_parts hf
  have hkk : 0 ≤ y.kind ∧ y.kind ≤ 4 := by
    rcases hk with h | h | h
    · have := h.1; omega
    · have := h.1; omega
    · have := h.1; omega
  have h1 := encNum10 (n := y.kind.toNat) (by omega)
  have h2 := encNum10 (n := y.ins.length) hl
  have h3 := encIns_len10 i hi y.ins (fun k hk => (h0 k hk).1)
  have h4 : litValid y.lit n = true → (encNum (litCode y.lit)).length ≤ 10 := fun h => by
    obtain ⟨_, r1, r2⟩ := litValid_range h
    have := litCode_le ⟨r1, r2⟩
    exact encNum10 (by omega)
  unfold encNode
  rcases hk with h | h | h
  · rw [if_neg (by omega), if_neg (by omega)]; simp; omega
  · rw [if_pos h.1]; have := h4 h.2.1; simp; omega
  · rw [if_neg (by omega), if_pos h.1]; simp; omega
/-- The bytes behind k nodes. -/
def upTo (x : NetT) (k : Nat) : List UInt8 := headOf x ++ encFrom 0 (x.l.take k)
theorem upTo_zero (x : NetT) : upTo x 0 = headOf x := by simp [upTo, encFrom]
theorem upTo_succ (x : NetT) (k : Nat) (hk : k < x.l.length) : upTo x (k + 1) = upTo x k ++ encNode k x.l[k] := by
  unfold upTo; rw [encFrom_snoc _ _ hk, List.append_assoc]
theorem upTo_all (x : NetT) : upTo x x.l.length = bodyOf x := by unfold upTo bodyOf; rw [List.take_length]
theorem upTo_le (x : NetT) (k j : Nat) (h : k ≤ j) (hj : j ≤ x.l.length) : (upTo x k).length ≤ (upTo x j).length := by
  induction j with
  | zero => rw [show k = 0 by omega]; exact Nat.le_refl _
  | succ j ih =>
    by_cases e : k = j + 1
    · rw [e]; exact Nat.le_refl _
    · have := ih (by omega) (by omega)
      rw [upTo_succ x j (by omega), List.length_append]; omega
theorem upTo_long {x : NetT} {k : Nat} (hk : k < x.l.length) (hf : formed x.l[k] x.n k = true) (h : 16777216 < (upTo x k).length + x.l[k].ins.length) : 16777216 < (encodeOf x).length := by
  have h1 := upTo_le x (k + 1) x.l.length (by omega) (Nat.le_refl _)
  rw [upTo_succ x k hk, upTo_all, List.length_append] at h1
  have := node_ins_le hf
  unfold encodeOf
  rw [sealOf_length]; omega
theorem headOf_len (x : NetT) (h : x.n.toNat < 9223372036854775808) (hl : x.l.length < 9223372036854775808) : (headOf x).length ≤ 24 := by
  have h1 := encNum10 h
  have h2 := encNum10 hl
  unfold headOf magic
  simp; omega
theorem enc_long {x : NetT} (hv : validNet x = true) (h : 16777216 < (encodeOf x).length) : encNo x = 2 ∧ encBytes x = [] := by
  have : encNo x = 2 := by unfold encNo maxFile; rw [if_pos hv, if_pos h]
  exact ⟨this, by unfold encBytes; rw [this]; simp⟩
theorem enc_bad {x : NetT} (hv : validNet x = false) : encNo x = 1 ∧ encBytes x = [] := by
  have : encNo x = 1 := by unfold encNo; rw [if_neg (by simp [hv])]
  exact ⟨this, by unfold encBytes; rw [this]; simp⟩
theorem enc_good {x : NetT} (hv : validNet x = true) (h : ¬ 16777216 < (encodeOf x).length) : encNo x = 0 ∧ encBytes x = sealOf (bodyOf x) := by
  have : encNo x = 0 := by unfold encNo maxFile; rw [if_pos hv, if_neg h]
  exact ⟨this, by unfold encBytes; rw [if_pos this]; rfl⟩
theorem magic_enc : magic.map encB = [.int .u8 67, .int .u8 78, .int .u8 69, .int .u8 84] := rfl
theorem le32_enc (s : BitVec 32) : (le32 s).map encB = [.int .u8 ((s.toNat : Int) % 256), .int .u8 ((s.toNat : Int) / 256 % 256), .int .u8 ((s.toNat : Int) / 65536 % 256), .int .u8 ((s.toNat : Int) / 16777216 % 256)] := by
  have h : ∀ n, n < 256 → encB (UInt8.ofNat n) = .int .u8 (n : Int) := fun n hn => byte_of hn
  simp only [le32, List.map_cons, List.map_nil]
  rw [h _ (by omega), h _ (by omega), h _ (by omega), h _ (by omega)]
  simp
end Go.Proofs.Ytkfmblpcfgdgpaa
