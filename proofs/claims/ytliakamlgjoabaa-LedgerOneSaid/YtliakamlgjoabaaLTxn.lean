/- Transactions compared. -/
import Derived.Test.YtliakamlgjoabaaLSame
namespace Go.Proofs.Ytliakamlgjoabaa
open Go.RowKit

theorem txn_ne (a b c x y z : Int) (h : ¬ (a, b, c) = (x, y, z)) (w : World) : (binOp .eql 33 (.agg #[.int .i64 a, .int .i64 b, .int .i64 c]) (.agg #[.int .i64 x, .int .i64 y, .int .i64 z])).run Try.prog w = .ok (.bool false) w := by
  have h' : ¬ (a = x ∧ b = y ∧ c = z) := by simpa using h
  by_cases h1 : a = x
  · by_cases h2 : b = y
    · have h3 : ¬ c = z := fun h3 => h' ⟨h1, h2, h3⟩
      simp [go_sem, h1, h2, h3]
    · simp [go_sem, h1, h2]
  · simp [go_sem, h1]
theorem txn_eq (a b c : Int) (w : World) : (binOp .eql 33 (.agg #[.int .i64 a, .int .i64 b, .int .i64 c]) (.agg #[.int .i64 a, .int .i64 b, .int .i64 c])).run Try.prog w = .ok (.bool true) w := by
  simp [go_sem]
end Go.Proofs.Ytliakamlgjoabaa
