/- The walk of the trace's Rows. -/
import Derived.Test.YtkjfagchololbaaTChk
namespace Go.Proofs.Ytkjfagchololbaa
open Go.RowKit Go.Shelf

theorem rowsNil_any (w : World) : Calls Try.prog 29 #[.pointer none] w fun e w' => e = .returned (.slice none 0 0) ∧ w = w' := by
  go_enter Try.func29, Try.ntmps29
  go_wp2
  go_ret
  exact ⟨rfl, rfl⟩

def TRowsPost (rs : List Row) (w : World) (e : Ending) (w' : World) : Prop :=
  ∃ v base, e = .returned (.tuple #[v, .int .i64 0]) ∧ w'.ownsRow base 62 10 v rs.length (rs.flatMap rowCells) ∧ rs.length ≤ 1000 ∧ Below w.heap.size w w'
theorem trows_ok (bad : Int) (av : Option Addr) (l : List Ev) (cap n : Nat) (rs : List Row) (hn : l.length = n) (hr : runT bad [] (actsTo bad l l.length) = .inl rs) (w : World) (hlen : l.length ≤ 900) (hev : EvsAt w w.heap.size av l) :
    Calls Try.prog 16 #[.int .u8 bad, .slice av n cap] w (TRowsPost rs w) := by
  subst hn
  have HR := Lib.hid hr
  clear hr
  go_enter Try.func16, Try.ntmps16
  go_wp2_with (first
    | (go_at_call 25; refine (trun_ok bad av l cap rs HR.out _ hlen (by exact hev)).mono ?_; rintro e w1 ⟨gb, mb, rv, rfl, hG, hB⟩)
    | (go_at_call 29; refine (rows_any _ gb mb rv bad rs _ (by exact hG)).mono ?_; rintro e w2 ⟨v, rfl, hW, hB2⟩))
  go_ret2
  exact ⟨v, _, rfl, hW, hG.few, hB.trans (hB2.mono hB.size)⟩
theorem trows_no (bad : Int) (av : Option Addr) (l : List Ev) (cap n : Nat) (k : Nat) (v : Int) (hn : l.length = n) (hr : runT bad [] (actsTo bad l l.length) = .inr (k, v)) (w : World) (hlen : l.length ≤ 900) (hev : EvsAt w w.heap.size av l) :
    Calls Try.prog 16 #[.int .u8 bad, .slice av n cap] w fun e w' => e = .returned (.tuple #[.slice none 0 0, .int .i64 v]) ∧ Below w.heap.size w w' := by
  subst hn
  have HR := Lib.hid hr
  clear hr
  go_enter Try.func16, Try.ntmps16
  go_wp2_with (first
    | (go_at_call 25; refine (trun_no bad av l cap k v HR.out _ hlen (by exact hev)).mono ?_; rintro e w1 ⟨rfl, hB⟩)
    | (go_at_call 29; refine (rowsNil_any _).mono ?_; rintro e w2 ⟨rfl, rfl⟩))
  go_ret2
  exact ⟨rfl, hB⟩
end Go.Proofs.Ytkjfagchololbaa
