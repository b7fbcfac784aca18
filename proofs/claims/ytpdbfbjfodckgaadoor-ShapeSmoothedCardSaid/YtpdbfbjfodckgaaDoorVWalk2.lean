/- Walks of the package vars, second part: comparisons, numbers, loops. -/
import Derived.Test.YtpdbfbjfodckgaaDoorVWalk
import Derived.Laws.StructEq
namespace Go.Proofs.YtpdbfbjfodckgaaDoor
open Go.RowKit
attribute [local go_sem] bits_or bits_and bits_andNot

theorem range2 : List.range' 0 2 = [0, 1] := rfl
theorem sizeOf_u64 (w : World) : (sizeOf 40).run Tryd.prog w = .ok 1 w := by kernel_rfl
theorem part_u64 (x y : Value) (w : World) : (part 40 #[x, y] 0).run Tryd.prog w = .ok x w ∧ (part 40 #[x, y] 1).run Tryd.prog w = .ok y w := ⟨by kernel_rfl, by kernel_rfl⟩
/-- '==' between two sets, word by word. -/
theorem run_equalIn_set (d : Nat) (x0 x1 y0 y1 : Int) (w : World) :
    (Op.equalIn (d + 2) 42 (.agg #[.int .u64 x0, .int .u64 x1]) (.agg #[.int .u64 y0, .int .u64 y1])).run Tryd.prog w = .ok (x0 == y0 && x1 == y1) w := by
  rw [Op.equalIn]
  simp only [Sem.run_bind, run_underlying Tryd.underlying42, Result.andThen_ok, sizeOf_u64]
  simp only [Std.Legacy.Range.forIn_eq_forIn_range', Std.Legacy.Range.size, Nat.sub_zero, Nat.add_one_sub_one, Nat.div_one, range2, List.forIn_cons, List.forIn_nil]
  simp only [Sem.run_bind, (part_u64 _ _ _).1, Nat.zero_mul, Nat.one_mul, Result.andThen_ok]
  rw [run_equalIn_int (h := Tryd.underlying40)]
  cases h : x0 == y0
  · simp
  · simp only [Bool.not_true, Bool.false_eq_true, if_false, Sem.run_pure, Result.andThen_ok, Sem.run_bind, (part_u64 _ _ _).2]
    rw [run_equalIn_int (h := Tryd.underlying40)]
    cases h2 : x1 == y1 <;> simp
theorem run_equalIn_set10 (x0 x1 y0 y1 : Int) (w : World) : (Op.equalIn 10000 42 (.agg #[.int .u64 x0, .int .u64 x1]) (.agg #[.int .u64 y0, .int .u64 y1])).run Tryd.prog w = .ok (x0 == y0 && x1 == y1) w := run_equalIn_set 9998 _ _ _ _ w
theorem eqS (a b : VS) : (((lw a).toNat : Int) == ((lw b).toNat : Int) && ((hw a).toNat : Int) == ((hw b).toNat : Int)) = (a == b) := by
  rw [Bool.eq_iff_iff]
  simp only [Bool.and_eq_true, beq_iff_eq]
  constructor
  · rintro ⟨h1, h2⟩
    exact ext_lo_hi (BitVec.eq_of_toNat_eq (by omega)) (BitVec.eq_of_toNat_eq (by omega))
  · rintro rfl; exact ⟨rfl, rfl⟩
theorem eqS0 (a : VS) : (((lw a).toNat : Int) == 0 && ((hw a).toNat : Int) == 0) = (a == 0) := eqS a 0
theorem run_eqlS (a b : VS) (w : World) : (binOp .eql 42 (encS a) (encS b)).run Tryd.prog w = .ok (.bool (a == b)) w := by
  rw [run_eql_struct, run_equalIn_set 9998, eqS]; rfl
theorem run_neqS (a b : VS) (w : World) : (binOp .neq 42 (encS a) (encS b)).run Tryd.prog w = .ok (.bool (!(a == b))) w := by
  rw [run_neq_struct, run_equalIn_set 9998, eqS]; rfl
theorem run_eqlS0 (a : VS) (w : World) : (binOp .eql 42 (encS a) (.agg #[.int .u64 0, .int .u64 0])).run Tryd.prog w = .ok (.bool (a == 0)) w := run_eqlS a 0 w
theorem run_neqS0 (a : VS) (w : World) : (binOp .neq 42 (encS a) (.agg #[.int .u64 0, .int .u64 0])).run Tryd.prog w = .ok (.bool (!(a == 0))) w := run_neqS a 0 w
attribute [local go_sem ↓] run_eqlS run_neqS run_eqlS0 run_neqS0

end Go.Proofs.YtpdbfbjfodckgaaDoor
