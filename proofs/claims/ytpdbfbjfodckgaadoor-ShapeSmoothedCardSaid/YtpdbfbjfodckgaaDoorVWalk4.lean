/- Walks of math/bits: counting bits; the lowest bit; how many variables a set has. -/
import Derived.Test.YtpdbfbjfodckgaaDoorVWalk2
import Derived.Test.YtpdbfbjfodckgaaDoorMem
import Derived.Test.YtpdbfbjfodckgaaDoorVBits
import Derived.Laws.Bits128
namespace Go.Proofs.YtpdbfbjfodckgaaDoor
open Go.RowKit

theorem ret_int {k : IntKind} {a b : Int} (h : a = b) : Ending.returned (.int k a) = .returned (.int k b) := by rw [h]
theorem wrap_small {n : Nat} (h : n < 18446744073709551616) : IntKind.u64.wrap (n : Int) = (n : Int) := by rw [IntKind.wrap_u64]; omega
theorem mask85 : mask 85 8 = 6148914691236517205 := by decide
theorem mask51 : mask 51 8 = 3689348814741910323 := by decide
theorem mask15 : mask 15 8 = 1085102592571150095 := by decide
theorem e1 (x : Nat) (hx : x < 18446744073709551616) : IntKind.u64.wrap (bits .and .u64 ((x : Int) / 2) 6148914691236517205 + bits .and .u64 (x : Int) 6148914691236517205) = ((p1 8 x : Nat) : Int) ∧ p1 8 x ≤ 2 * 6148914691236517205 := by
  have h1 : (x / 2) &&& 6148914691236517205 ≤ 6148914691236517205 := Nat.and_le_right
  have h2 : x &&& 6148914691236517205 ≤ 6148914691236517205 := Nat.and_le_right
  have d : ((x : Int) / 2) = ((x / 2 : Nat) : Int) := by omega
  unfold p1
  rw [mask85, d]
  have b1 := bits_and_u64_nat (x / 2) 6148914691236517205 (by omega) (by decide)
  have b2 := bits_and_u64_nat x 6148914691236517205 hx (by decide)
  refine ⟨?_, by omega⟩
  rw [show ((6148914691236517205 : Nat) : Int) = 6148914691236517205 from rfl] at b1 b2
  rw [b1, b2, ← Int.natCast_add, wrap_small (by omega)]
theorem e2 (x : Nat) (hx : x < 18446744073709551616) : IntKind.u64.wrap (bits .and .u64 ((x : Int) / 4) 3689348814741910323 + bits .and .u64 (x : Int) 3689348814741910323) = ((p2 8 x : Nat) : Int) ∧ p2 8 x ≤ 2 * 3689348814741910323 := by
  have h1 : (x / 4) &&& 3689348814741910323 ≤ 3689348814741910323 := Nat.and_le_right
  have h2 : x &&& 3689348814741910323 ≤ 3689348814741910323 := Nat.and_le_right
  have d : ((x : Int) / 4) = ((x / 4 : Nat) : Int) := by omega
  unfold p2
  rw [mask51, d]
  have b1 := bits_and_u64_nat (x / 4) 3689348814741910323 (by omega) (by decide)
  have b2 := bits_and_u64_nat x 3689348814741910323 hx (by decide)
  refine ⟨?_, by omega⟩
  rw [show ((3689348814741910323 : Nat) : Int) = 3689348814741910323 from rfl] at b1 b2
  rw [b1, b2, ← Int.natCast_add, wrap_small (by omega)]
theorem e3 (x : Nat) (hx : x ≤ 2 * 3689348814741910323) : bits .and .u64 (IntKind.u64.wrap ((x : Int) / 16 + (x : Int))) 1085102592571150095 = ((p3 8 x : Nat) : Int) := by
  have d : ((x : Int) / 16 + (x : Int)) = ((x / 16 + x : Nat) : Int) := by omega
  unfold p3
  rw [mask15, d, wrap_small (by omega)]
  exact bits_and_u64_nat (x / 16 + x) 1085102592571150095 (by omega) (by decide)
theorem e4 (y : Nat) (hy : y ≤ 578721382704613384) :
    bits .and .i64 (wrap64 (IntKind.u64.wrap (((IntKind.u64.wrap (((IntKind.u64.wrap ((y : Int) + (y : Int) / 256)) + (IntKind.u64.wrap ((y : Int) + (y : Int) / 256)) / 65536)))) + (IntKind.u64.wrap (((IntKind.u64.wrap ((y : Int) + (y : Int) / 256)) + (IntKind.u64.wrap ((y : Int) + (y : Int) / 256)) / 65536))) / 4294967296))) 127 = ((fold8 y : Nat) : Int) := by
  rw [i64_and127]
  have d1 : ((y : Int) + (y : Int) / 256) = ((y + y / 256 : Nat) : Int) := by omega
  rw [d1, wrap_small (by omega)]
  have b1 : y + y / 256 ≤ 590000000000000000 := by omega
  unfold fold8
  simp only []
  generalize y + y / 256 = z at b1
  have d2 : ((z : Int) + (z : Int) / 65536) = ((z + z / 65536 : Nat) : Int) := by omega
  rw [d2, wrap_small (by omega)]
  have b2 : z + z / 65536 ≤ 600000000000000000 := by omega
  generalize z + z / 65536 = u at b2
  have d3 : ((u : Int) + (u : Int) / 4294967296) = ((u + u / 4294967296 : Nat) : Int) := by omega
  rw [d3, wrap_small (by omega), IntWalk.wrap64_in _ (by omega)]
  omega

/-- How many bits of a word are set. -/
def pop (x : BitVec 64) : Int := (bitsL x.toNat).length
theorem pop_range (x : BitVec 64) : 0 ≤ pop x ∧ pop x ≤ 64 := by
  have := List.length_filter_le x.toNat.testBit (List.range 64)
  rw [List.length_range] at this
  unfold pop bitsL; omega
end Go.Proofs.YtpdbfbjfodckgaaDoor
