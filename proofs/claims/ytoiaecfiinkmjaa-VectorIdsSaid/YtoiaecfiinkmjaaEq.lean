/- '==' of two vectors. -/
import Derived.Test.YtoiaecfiinkmjaaKit
namespace Go.Proofs.Ytoiaecfiinkmjaa
open Go.RowKit Go.Shelf
theorem ite_eq_and (a b : Int) (r : Bool) (w : World) : (if a = b then Result.ok r w else Result.ok false w) = Result.ok (a == b && r) w := by by_cases h : a = b <;> simp [h]

set_option maxRecDepth 100000 in
set_option maxHeartbeats 1000000 in
@[go_sem] theorem run_eq_vec (a0 a1 a2 c3 a4 a5 a6 a7 a8 b0 b1 b2 b3 b4 b5 b6 b7 b8 : Int) (w : World) :
    (Op.equalIn 10000 24 (.agg #[.int .u64 a0, .int .u64 a1, .int .u64 a2, .int .u64 c3, .int .u64 a4, .int .u64 a5, .int .u64 a6, .int .u64 a7, .int .u64 a8])
      (.agg #[.int .u64 b0, .int .u64 b1, .int .u64 b2, .int .u64 b3, .int .u64 b4, .int .u64 b5, .int .u64 b6, .int .u64 b7, .int .u64 b8])).run Try.prog w = .ok (a0 == b0 && (a1 == b1 && (a2 == b2 && (c3 == b3 && (a4 == b4 && (a5 == b5 && (a6 == b6 && (a7 == b7 && (a8 == b8))))))))) w := by
  have u3 := Try.underlying22
  have a3 := Try.isAgg22
  have z3 := Try.sizeOf22
  rw [show (10000 : Nat) = 9999 + 1 from rfl, Op.equalIn]
  simp only [Sem.run_bind, run_underlying Try.underlying24, Result.andThen_ok]
  simp only [Std.Legacy.Range.forIn_eq_forIn_range', Std.Legacy.Range.size, Nat.sub_zero, Nat.add_sub_cancel, Nat.div_one, List.range'_succ, List.range'_zero, List.forIn_cons, List.forIn_nil]
  go_simp
  simp only [ite_eq_and, Bool.and_true]
end Go.Proofs.Ytoiaecfiinkmjaa
