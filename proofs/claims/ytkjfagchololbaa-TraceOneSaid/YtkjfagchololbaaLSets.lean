/- Sets of organisations, as the walks spell them: ledger.in, wire.org, MayTxn. -/
import Derived.Test.YtkjfagchololbaaProg
import Derived.WalkKit
import Derived.WalkSpells
import Derived.WalkLawsBesides
import Derived.Deep.QuietTactic
import Derived.BigQuiet
import Derived.Lib.Hide
import Derived.IntWalk
namespace Go.Proofs.Ytkjfagchololbaa
open Go.RowKit

theorem ret_bool {a b : Bool} (h : a = b) : Ending.returned (.bool a) = .returned (.bool b) := by rw [h]

def inB (s k : Int) : Bool := bits BinOp.and IntKind.u8 (s / 2 ^ k.toNat) 1 == 1

theorem in_any (s k : Int) (w : World) (h0 : 0 ≤ k) (h1 : k ≤ 7) : Calls Try.prog 58 #[.int .u8 s, .int .i64 k] w fun e w' => e = .returned (.bool (inB s k)) ∧ w = w' := by
  go_enter Try.func58, Try.ntmps58
  go_wp2
  go_ret
  exact ⟨rfl, rfl⟩
theorem in_is (s k : Int) (v : Bool) (hv : inB s k = v) (w : World) (h0 : 0 ≤ k) (h1 : k ≤ 7) : Calls Try.prog 58 #[.int .u8 s, .int .i64 k] w fun e w' => e = .returned (.bool v) ∧ w = w' := hv ▸ in_any s k w h0 h1

def orgB (k : Int) : Bool := decide (0 ≤ k) && decide (k < 8)
theorem org_any (k : Int) (w : World) : Calls Try.prog 64 #[.int .i64 k] w fun e w' => e = .returned (.bool (orgB k)) ∧ w = w' := by
  by_cases h1 : 0 ≤ k
  · have HV := Lib.hid (show orgB k = decide (k < 8) by simp [orgB, h1])
    go_enter Try.func64, Try.ntmps64
    go_wp2
    go_ret
    exact ⟨by rw [HV.out]; rfl, rfl⟩
  · have HV := Lib.hid (show orgB k = false by simp [orgB, h1])
    go_enter Try.func64, Try.ntmps64
    go_wp2
    go_ret
    exact ⟨by rw [HV.out]; rfl, rfl⟩
theorem org_is (k : Int) (v : Bool) (hv : orgB k = v) (w : World) : Calls Try.prog 64 #[.int .i64 k] w fun e w' => e = .returned (.bool v) ∧ w = w' := hv ▸ org_any k w

def txnB (c e q : Int) : Bool := orgB c && (decide (1 ≤ e) && decide (e ≤ 255) && decide (1 ≤ q) && decide (q ≤ 65535))
theorem txn_any (c e q : Int) (w : World) : Calls Try.prog 57 #[.agg #[.int .i64 c, .int .i64 e, .int .i64 q]] w fun r w' => r = .returned (.bool (txnB c e q)) ∧ Below w.heap.size w w' := by
  go_enter Try.func57, Try.ntmps57
  go_wp2_with (go_at_call 64; refine (org_any c _).mono ?_; rintro e w' ⟨rfl, rfl⟩)
  all_goals go_ret
  all_goals refine ⟨ret_bool ?_, (Below.refl _ _).alloc (Nat.le_refl _) _⟩
  all_goals (unfold txnB; rw [Bool.eq_iff_iff]; simp_all <;> omega)
theorem txn_is (c e q : Int) (v : Bool) (hv : txnB c e q = v) (w : World) : Calls Try.prog 57 #[.agg #[.int .i64 c, .int .i64 e, .int .i64 q]] w fun r w' => r = .returned (.bool v) ∧ Below w.heap.size w w' := hv ▸ txn_any c e q w
end Go.Proofs.Ytkjfagchololbaa
