/- Plain mathematics of files: the check sum. -/
import Derived.Laws.Entries
import Derived.RowKit
import Derived.Below
namespace Go.Proofs.Ytkfmblpcfgdgpaa

/-- One bit of the check sum. -/
def step1 (s : BitVec 32) : BitVec 32 := (s >>> 1) ^^^ (if s.getLsbD 0 then 3988292384#32 else 0#32)
def step8 (s : BitVec 32) : BitVec 32 := step1 (step1 (step1 (step1 (step1 (step1 (step1 (step1 s)))))))
def stepN : Nat → BitVec 32 → BitVec 32
  | 0, s => s
  | k + 1, s => step1 (stepN k s)
theorem step8_N (s : BitVec 32) : step8 s = stepN 8 s := rfl
def xor32 (a b : BitVec 32) : BitVec 32 := a ^^^ b
def byte32 (c : UInt8) : BitVec 32 := BitVec.ofNat 32 c.toNat
def crcFrom (s : BitVec 32) (l : List UInt8) : BitVec 32 := l.foldl (fun s c => stepN 8 (xor32 s (byte32 c))) s
def not32 (s : BitVec 32) : BitVec 32 := ~~~ s
def crc (l : List UInt8) : BitVec 32 := not32 (crcFrom (BitVec.allOnes 32) l)

/-! ### the model's operations at u32 -/
theorem bv32_of (a : BitVec 32) : BitVec.ofInt 32 ((a.toNat : Nat) : Int) = a := by
  rw [BitVec.ofInt_natCast, BitVec.ofNat_toNat, BitVec.setWidth_eq]
theorem wrap_u32_bv (a : BitVec 32) : IntKind.u32.wrap ((a.toNat : Nat) : Int) = (a.toNat : Int) := by
  have := a.isLt
  simp only [IntKind.wrap, IntKind.bits, IntKind.signed]
  simp
  omega
theorem bits_xor32 (a b : BitVec 32) : bits .xor .u32 (a.toNat : Int) (b.toNat : Int) = ((xor32 a b).toNat : Int) := by
  show IntKind.u32.wrap ((BitVec.ofInt 32 _ ^^^ BitVec.ofInt 32 _).toNat : Int) = _
  rw [bv32_of, bv32_of, wrap_u32_bv]; rfl
theorem byte32_toNat (c : UInt8) : (byte32 c).toNat = c.toNat := by
  have : c.toNat < 256 := c.toNat_lt
  unfold byte32; rw [BitVec.toNat_ofNat]; omega
theorem bits_and1 (s : BitVec 32) : bits .and .u32 (s.toNat : Int) 1 = if s.getLsbD 0 then 1 else 0 := by
  show IntKind.u32.wrap ((BitVec.ofInt 32 _ &&& BitVec.ofInt 32 1).toNat : Int) = _
  rw [bv32_of]
  have e : s &&& BitVec.ofInt 32 1 = if s.getLsbD 0 then 1#32 else 0#32 := by
    show s &&& BitVec.twoPow 32 0 = _
    rw [BitVec.and_twoPow]; rfl
  rw [e]
  split <;> rfl
theorem half32 (s : BitVec 32) : ((s.toNat : Int) / (2 : Int)) = (((s >>> 1).toNat : Nat) : Int) := by
  rw [BitVec.toNat_ushiftRight, Nat.shiftRight_eq_div_pow]; omega
/-- The program's step. -/
theorem step_prog (s : BitVec 32) : bits .xor .u32 ((s.toNat : Int) / 2) (bits .and .u32 3988292384 (IntKind.u32.wrap (-(bits .and .u32 (s.toNat : Int) 1)))) = ((step1 s).toNat : Int) := by
  rw [bits_and1, half32]
  unfold step1
  cases h : s.getLsbD 0
  · have e : bits .and .u32 3988292384 (IntKind.u32.wrap (-(if false = true then 1 else 0))) = ((0#32).toNat : Int) := by decide +kernel
    simp only [Bool.false_eq_true, if_false] at e ⊢
    rw [e, bits_xor32]; rfl
  · have e : bits .and .u32 3988292384 (IntKind.u32.wrap (-(if true = true then 1 else 0))) = ((3988292384#32).toNat : Int) := by decide +kernel
    simp only [if_true] at e ⊢
    rw [e, bits_xor32]; rfl
/-- The reference's step. -/
theorem step_ref (s : BitVec 32) : ((s.toNat : Int) % 2 == 1) = s.getLsbD 0 := by
  rw [BitVec.getLsbD]
  rw [Nat.testBit_zero, Bool.eq_iff_iff]
  simp
  omega
theorem step_ref_yes (s : BitVec 32) (h : s.getLsbD 0 = true) : bits .xor .u32 ((s.toNat : Int) / 2) 3988292384 = ((step1 s).toNat : Int) := by
  rw [half32, show (3988292384 : Int) = ((3988292384#32).toNat : Int) from rfl, bits_xor32]
  unfold step1; rw [h]; rfl
theorem step_ref_no (s : BitVec 32) (h : s.getLsbD 0 = false) : (s.toNat : Int) / 2 = ((step1 s).toNat : Int) := by
  rw [half32]
  unfold step1; rw [h]; simp
theorem not_ref (s : BitVec 32) : bits .xor .u32 (s.toNat : Int) 4294967295 = ((not32 s).toNat : Int) := by
  rw [show (4294967295 : Int) = ((BitVec.allOnes 32).toNat : Int) from rfl, bits_xor32]
  unfold xor32 not32
  rw [BitVec.xor_allOnes]
theorem crcFrom_snoc (s : BitVec 32) (l : List UInt8) (c : UInt8) : crcFrom s (l ++ [c]) = stepN 8 (xor32 (crcFrom s l) (byte32 c)) := by
  unfold crcFrom; rw [List.foldl_append]; rfl

/-! ### a changed byte changes the sum -/
theorem step1_inj {a b : BitVec 32} (h : step1 a = step1 b) : a = b := by
  have top : ∀ s : BitVec 32, (step1 s).getLsbD 31 = s.getLsbD 0 := by
    intro s
    unfold step1
    rw [BitVec.getLsbD_xor, BitVec.getLsbD_ushiftRight]
    cases s.getLsbD 0 <;> simp
  have h0 : a.getLsbD 0 = b.getLsbD 0 := by rw [← top a, ← top b, h]
  apply BitVec.eq_of_getLsbD_eq
  intro i hi
  cases i with
  | zero => exact h0
  | succ i =>
    have hx := congrArg (fun x => x.getLsbD i) h
    unfold step1 at hx
    simp only [BitVec.getLsbD_xor, BitVec.getLsbD_ushiftRight, h0] at hx
    rw [Nat.add_comm i 1]
    revert hx
    generalize a.getLsbD (1 + i) = x
    generalize b.getLsbD (1 + i) = y
    generalize (if b.getLsbD 0 = true then 3988292384#32 else 0#32).getLsbD i = z
    cases x <;> cases y <;> cases z <;> simp
theorem stepN_inj : ∀ {k : Nat} {a b : BitVec 32}, stepN k a = stepN k b → a = b
  | 0, _, _, h => h
  | _ + 1, _, _, h => stepN_inj (step1_inj h)
theorem xor32_left {a b c : BitVec 32} (h : xor32 a c = xor32 b c) : a = b := by
  have := congrArg (fun x => x ^^^ c) h
  simpa [xor32, BitVec.xor_assoc] using this
theorem xor32_right {a c d : BitVec 32} (h : xor32 a c = xor32 a d) : c = d := by
  have := congrArg (fun x => a ^^^ x) h
  simpa [xor32, ← BitVec.xor_assoc] using this
theorem crcFrom_inj : ∀ {l : List UInt8} {a b : BitVec 32}, crcFrom a l = crcFrom b l → a = b
  | [], _, _, h => h
  | _ :: _, _, _, h => xor32_left (stepN_inj (crcFrom_inj h))
theorem byte32_inj {c d : UInt8} (h : byte32 c = byte32 d) : c = d := by
  have := congrArg BitVec.toNat h
  rw [byte32_toNat, byte32_toNat] at this
  exact UInt8.toNat_inj.1 this
/-- One byte changed: another sum. -/
theorem crc_change (p q : List UInt8) (c d : UInt8) (h : c ≠ d) : crc (p ++ c :: q) ≠ crc (p ++ d :: q) := by
  intro e
  unfold crc not32 at e
  have e2 : crcFrom (BitVec.allOnes 32) (p ++ c :: q) = crcFrom (BitVec.allOnes 32) (p ++ d :: q) := by
    have := congrArg (fun x => ~~~ x) e; simpa using this
  unfold crcFrom at e2
  rw [List.foldl_append, List.foldl_append, List.foldl_cons, List.foldl_cons] at e2
  exact h (byte32_inj (xor32_right (stepN_inj (crcFrom_inj e2))))
end Go.Proofs.Ytkfmblpcfgdgpaa
