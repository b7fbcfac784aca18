/- Bytes as strings; bytes.Equal, bytes.HasPrefix, begins. -/
import Derived.Test.YtkfmblpcfgdgpaaFRow2
import Derived.Test.YtkfmblpcfgdgpaaFCode4
import Derived.Laws.BytesArg
import Derived.Lib.SlBytesConst
namespace Go.Proofs.Ytkfmblpcfgdgpaa
open Go.RowKit

/-- The string of bytes. -/
def strB (l : List UInt8) : ByteArray := ⟨l.toArray⟩
theorem strB_inj {a b : List UInt8} (h : strB a = strB b) : a = b := by
  have := congrArg (fun s => s.data.toList) h
  simpa [strB] using this
theorem strOf_bytes (l : List UInt8) : strOfNums (l.map fun c => (c.toNat : Int)) = strB l := by
  unfold strOfNums strB
  congr 1
  apply congrArg
  rw [List.map_map]
  conv => rhs; rw [← List.map_id l]
  exact List.map_congr_left fun x _ => by simp
theorem conv_str {w : World} {v : Value} {l : List UInt8} (h : BytesAt w v l) : (convert 28 9 v).run Try.prog w = .ok (.string (strB l)) w := by
  obtain ⟨p, c, rfl, hp⟩ := h
  cases l with
  | nil =>
    rw [run_convert_bytes_string w 28 9 5 p _ c Try.underlying28 Try.underlying5 Try.underlying9]
    cases p <;> simp [Conv.bytesToString, loadCells] <;> rfl
  | cons a t =>
    obtain ⟨b, off, rfl, hc⟩ := hp.resolve_left (by simp)
    rw [← strOf_bytes]
    refine run_convert_bytes_arg (P := Try.prog) w 28 5 Try.underlying28 Try.underlying5 b off _ c _ (by simp) (fun i hi => ?_) 9 Try.underlying9
    rw [hc i hi]
    simp only [List.getD_eq_getElem?_getD, List.getElem?_map, List.getElem?_eq_getElem hi, Option.map_some, Option.getD_some]
theorem strB_beq (a b : List UInt8) : ((strB a).toList == (strB b).toList) = decide (a = b) := by
  unfold strB
  rw [ByteArray.toList_mk, ByteArray.toList_mk]
  by_cases h : a = b <;> simp [h]
theorem Equal_c (u v : Value) (a b : List UInt8) (w : World) (hu : BytesAt w u a) (hv : BytesAt w v b) :
    Calls Try.prog 37 #[u, v] w fun e w' => e = .returned (.bool (decide (a = b))) ∧ w = w' := by
  have h1 := conv_str hu
  have h2 := conv_str hv
  have HB := hid (strB_beq a b)
  go_enter Try.func37, Try.ntmps37
  go_wp2_with fail
  go_ret
  exact ⟨by rw [← HB.out]; rfl, rfl⟩
/-- A slice's length is at most its capacity. -/
def CapOk (v : Value) : Prop := ∃ p n c, v = .slice p n c ∧ n ≤ c
theorem BytesAt.take {w : World} {p : Option Addr} {n c : Nat} {l : List UInt8} (h : BytesAt w (.slice p n c) l) (k c' : Nat) (hk : k ≤ n) : BytesAt w (.slice p k c') (l.take k) := by
  obtain ⟨p', c1, e, hp⟩ := h
  injection e with e1 e2 e3
  subst e1 e2
  have hlen : (l.take k).length = k := by simp; omega
  refine ⟨p, c', by rw [hlen], ?_⟩
  rcases hp with rfl | ⟨b, off, rfl, hc⟩
  · left; simp
  · right
    refine ⟨b, off, rfl, fun i hi => ?_⟩
    rw [hlen] at hi
    rw [hc i (by omega)]
    simp
theorem HasPrefix_c (u v : Value) (a b : List UInt8) (w : World) (hu : BytesAt w u a) (hv : BytesAt w v b) (hc : CapOk u) (_ha : a.length ≤ 140737488355328) (_hb : b.length ≤ 140737488355328) :
    Calls Try.prog 48 #[u, v] w fun e w' => e = .returned (.bool (decide (a.take b.length = b))) ∧ w = w' := by
  obtain ⟨p, n, c, rfl, hn⟩ := hc
  obtain ⟨p2, c2, rfl, hv2⟩ := id hv
  clear hv2
  have hna : n = a.length := by
    obtain ⟨p', c1, e, _⟩ := hu
    injection e
  by_cases h : b.length ≤ a.length
  · have E := Equal_c _ _ _ _ w (hu.take b.length c (by omega)) hv
    have hE := hid E
    clear E
    subst hna
    have h3 : b.length ≤ c := by omega
    go_enter Try.func48, Try.ntmps48
    go_wp2_with fail
    refine hE.out.mono ?_
    rintro e w' ⟨rfl, rfl⟩
    go_wp2_with fail
    go_ret
    exact ⟨rfl, rfl⟩
  · have hE : decide (a.take b.length = b) = false := by
      refine decide_eq_false fun e => ?_
      have := congrArg List.length e
      simp at this; omega
    have HE := hid hE
    clear hE
    subst hna
    go_enter Try.func48, Try.ntmps48
    go_wp2_with fail
    go_ret
    exact ⟨by rw [HE.out]; rfl, rfl⟩
theorem conv_bytes (w : World) (C : Array Value) (n c : Nat) : (convert 28 28 (.slice (some ⟨w.heap.size, 0, none⟩) n c)).run Try.prog (w.alloc (.cells C 5)) = .ok (.slice (some ⟨w.heap.size, 0, none⟩) n c) (w.alloc (.cells C 5 (C.size, C.size + 1))) :=
  Lib.run_convert_bytes_const (P := Try.prog) w 28 5 C n c Try.underlying28 Try.underlying5
theorem beginsNo_long {l : List UInt8} (h : 16777216 < l.length) : beginsNo l = 2 := by unfold beginsNo maxFile; rw [if_pos h]
theorem beginsNo_short {l : List UInt8} (h : ¬ 16777216 < l.length) (h2 : l.length < 11) : beginsNo l = 5 := by unfold beginsNo maxFile; rw [if_neg h, if_pos (.inl h2)]
theorem beginsNo_form {l : List UInt8} (h : ¬ 16777216 < l.length) (h2 : ¬ l.take 4 = magic) : beginsNo l = 5 := by unfold beginsNo maxFile; rw [if_neg h, if_pos (.inr h2)]
theorem beginsNo_ok {l : List UInt8} (h : ¬ 16777216 < l.length) (h1 : ¬ l.length < 11) (h2 : l.take 4 = magic) : beginsNo l = 0 := by unfold beginsNo maxFile; rw [if_neg h, if_neg (by simp [h1, h2])]; 
theorem begins_c (v : Value) (l : List UInt8) (w : World) (hI : BytesAt w v l) (hc : CapOk v) (hl : l.length ≤ 140737488355328) :
    Calls Try.prog 36 #[v] w fun e w' => e = .returned (.int .i64 (beginsNo l)) ∧ Below w.heap.size w w' := by
  have hcv := conv_bytes
  obtain ⟨p, n, c, rfl, hn⟩ := id hc
  have hna : n = l.length := by
    obtain ⟨p', c1, e, _⟩ := hI
    injection e
  subst hna
  by_cases h1 : 16777216 < l.length
  · have H := hid (beginsNo_long h1)
    have hg : decide ((16777216 : Int) < (l.length : Int)) = true := decide_eq_true (by omega)
    go_enter Try.func36, Try.ntmps36
    go_wp2_with fail
    go_ret
    exact ⟨by rw [H.out]; rfl, Below.refl _ _⟩
  · have hg : decide ((16777216 : Int) < (l.length : Int)) = false := decide_eq_false (by omega)
    by_cases h2 : l.length < 11
    · have H := hid (beginsNo_short h1 h2)
      go_enter Try.func36, Try.ntmps36
      go_wp2_with fail
      go_ret
      exact ⟨by rw [H.out]; rfl, Below.refl _ _⟩
    · have hb : Below w.heap.size w (w.alloc (.cells #[.int .u8 67, .int .u8 78, .int .u8 69, .int .u8 84] 5 (4, 5))) := (Below.refl _ w).alloc (Nat.le_refl _) _
      have hm : BytesAt (w.alloc (.cells #[.int .u8 67, .int .u8 78, .int .u8 69, .int .u8 84] 5 (4, 5))) (.slice (some ⟨w.heap.size, 0, none⟩) 4 4) magic := bytes_of_take (l := magic) (heap_alloc_new w _) rfl
      have E := HasPrefix_c _ _ _ _ _ (hI.below hb) hm hc hl (by decide)
      have hml : magic.length = 4 := rfl
      rw [hml] at E
      by_cases h3 : l.take 4 = magic
      · have H := hid (beginsNo_ok h1 h2 h3)
        rw [decide_eq_true h3] at E
        have HE := hid E
        clear E h3 hm hml
        go_enter Try.func36, Try.ntmps36
        go_wp2_with fail
        refine HE.out.mono ?_
        rintro e w' ⟨rfl, rfl⟩
        go_wp2_with fail
        go_ret
        exact ⟨by rw [H.out]; rfl, hb⟩
      · have H := hid (beginsNo_form h1 h3)
        rw [decide_eq_false h3] at E
        have HE := hid E
        clear E h3 hm hml
        go_enter Try.func36, Try.ntmps36
        go_wp2_with fail
        refine HE.out.mono ?_
        rintro e w' ⟨rfl, rfl⟩
        go_wp2_with fail
        go_ret
        exact ⟨by rw [H.out]; rfl, hb⟩
end Go.Proofs.Ytkfmblpcfgdgpaa
