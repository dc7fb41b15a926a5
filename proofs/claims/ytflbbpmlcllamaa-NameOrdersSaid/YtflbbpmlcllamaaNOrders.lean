/- The walk of NameOrders. -/
import Derived.Test.YtflbbpmlcllamaaRefO
namespace Go.Proofs.Ytflbbpmlcllamaa
open Go.RowKit Go.Lib Go.Maps

theorem rclash_is (a b : ByteArray) (v : Bool) (w : World) (ha : a.size ≤ 1024) (hb : b.size ≤ 1024) (h : clashV a b = v) : Calls Try.prog 18 #[.string a, .string b] w fun e w' => e = .returned (.bool v) ∧ Below w.heap.size w w' := h ▸ rClash_any a b w ha hb
theorem rorder_is (a b : ByteArray) (v : Int) (w : World) (ha : a.size ≤ 1024) (hb : b.size ≤ 1024) (h : orderV a b = v) : Calls Try.prog 20 #[.string a, .string b] w fun e w' => e = .returned (.int .i64 v) ∧ Below w.heap.size w w' := h ▸ rOrder_any a b w ha hb

set_option maxRecDepth 100000 in
set_option maxHeartbeats 4000000 in
theorem norders_any (a b : ByteArray) (w : World) (za : a.size ≤ maxLen) (zb : b.size ≤ maxLen) :
    Calls Try.prog 5 #[.string a, .string b] w fun e w' => e = .returned (.bool true) ∧ Below w.heap.size w w' := by
  have hcells : ∀ i, i < 2 → (w.alloc (.cells #[.string a, .string b] 9)).cell? ⟨w.heap.size, i, none⟩ = some (.string ([a, b].getD i ByteArray.empty)) := fun i hi => by
    refine (cell_of_row _ _ i _ _ _ (heap_alloc_new w _)).trans ?_
    match i, hi with
    | 0, _ | 1, _ => rfl
  have hsz : ∀ s ∈ [a, b], s.size ≤ maxLen := by
    intro s hs
    simp at hs
    rcases hs with rfl | rfl <;> assumption
  have hB0 : Below w.heap.size w (w.alloc (.cells #[.string a, .string b] 9)) := (Below.refl _ _).alloc (Nat.le_refl _) _
  by_cases hlong : 1024 < a.size ∨ 1024 < b.size
  · have HL := Lib.hid (show ([a, b].any fun s => decide (1024 < s.size)) = true by simpa using hlong)
    clear hlong
    go_enter Try.func5, Try.ntmps5
    have hB := hB0
    go_wp2_with (first | (go_at_call 7; refine (long_any [a, b] _ w.heap.size 2 (by simp) hsz (by exact hcells)).mono ?_; rw [HL.out]; rintro e w1 ⟨rfl, rfl⟩) | (go_at_call 8; ((with_reducible refine (alive_any _).mono ?_)); rintro e w' ⟨rfl, hB'⟩; have hB := hB.trans (hB'.mono hB.size); clear hB'))
    go_ret
    exact ⟨rfl, hB⟩
  · have HL := Lib.hid (show ([a, b].any fun s => decide (1024 < s.size)) = false by simp; omega)
    have ha : a.size ≤ 1024 := by omega
    have hb : b.size ≤ 1024 := by omega
    clear hlong za zb
    obtain ⟨v, hv⟩ : ∃ v, clashV a b = v := ⟨_, rfl⟩
    obtain ⟨o, ho⟩ : ∃ o, orderV a b = o := ⟨_, rfl⟩
    have HV := Lib.hid hv
    have HO := Lib.hid ho
    clear hv ho
    have hvv : (v == v) = true := by simp
    go_enter Try.func5, Try.ntmps5
    have hB := hB0
    go_wp2_with (first | (go_at_call 7; refine (long_any [a, b] _ w.heap.size 2 (by simp) hsz (by exact hcells)).mono ?_; rw [HL.out]; rintro e w1 ⟨rfl, rfl⟩) | (go_at_call 17; ((with_reducible refine (clash_is a b v _ ha hb HV.out).mono ?_)); rintro e w' ⟨rfl, hB'⟩; have hB := hB.trans (hB'.mono hB.size); clear hB') | (go_at_call 18; ((with_reducible refine (rclash_is a b v _ ha hb HV.out).mono ?_)); rintro e w' ⟨rfl, hB'⟩; have hB := hB.trans (hB'.mono hB.size); clear hB') | (go_at_call 19; ((with_reducible refine (order_is a b o _ ha hb HO.out).mono ?_)); rintro e w' ⟨rfl, hB'⟩; have hB := hB.trans (hB'.mono hB.size); clear hB') | (go_at_call 20; ((with_reducible refine (rorder_is a b o _ ha hb HO.out).mono ?_)); rintro e w' ⟨rfl, hB'⟩; have hB := hB.trans (hB'.mono hB.size); clear hB') | (go_at_call 8; ((with_reducible refine (alive_any _).mono ?_)); rintro e w' ⟨rfl, hB'⟩; have hB := hB.trans (hB'.mono hB.size); clear hB'))
    go_ret
    exact ⟨rfl, hB⟩
end Go.Proofs.Ytflbbpmlcllamaa
