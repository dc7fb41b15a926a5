/- The walk of NameRow: it answers true whatever comes. -/
import Derived.Test.YtflbbpmlcllamaaRowMath
namespace Go.Proofs.Ytflbbpmlcllamaa
open Go.RowKit Go.Lib Go.Maps

def RowPost (w : World) : Ending → World → Prop := fun e w' => e = .returned (.bool true) ∧ Below w.heap.size w w'

set_option maxRecDepth 100000 in
set_option maxHeartbeats 4000000 in
theorem row_mmm_t (a b c : ByteArray) (w : World) (hsz : ∀ s ∈ [a, b, c], s.size ≤ maxLen) (hcells : ∀ i, i < 3 → (w.alloc (.cells #[.string a, .string b, .string c] 9)).cell? ⟨w.heap.size, i, none⟩ = some (.string ([a, b, c].getD i ByteArray.empty))) (hB0 : Below w.heap.size w (w.alloc (.cells #[.string a, .string b, .string c] 9))) (ha : a.size ≤ 1024) (hb : b.size ≤ 1024) (hc : c.size ≤ 1024) (HL : Hid (([a, b, c].any fun s => decide (1024 < s.size)) = false)) (HCA : Hid (checkV a = 0)) (HCB : Hid (checkV b = 0)) (HCC : Hid (checkV c = 0)) (hab : (a.toList == b.toList) = false) (HX : Hid (orderV a b = (-1))) (HY : Hid (orderV b c = (-1))) (HZ : Hid (orderV a c = (-1))) (HN : Hid (orderV b a = 1)) (HAC : Hid (clashV a c = true)) (HAB : Hid (clashV a b = true)) (HBC : Hid (clashV b c = true)) :
    Calls Try.prog 6 #[.string a, .string b, .string c] w fun e w' => e = .returned (.bool true) ∧ Below w.heap.size w w' := by
  go_enter Try.func6, Try.ntmps6
  have hB := hB0
  go_wp2_with (first | (go_at_call 7; refine (long_any [a, b, c] _ w.heap.size 3 (by simp) hsz (by exact hcells)).mono ?_; rw [HL.out]; rintro e w1 ⟨rfl, rfl⟩) | (go_at_call 11; ((with_reducible refine (check_is a 0 _ ha HCA.out).mono ?_)); rintro e w' ⟨rfl, hB'⟩; have hB := hB.trans (hB'.mono hB.size); clear hB') | (go_at_call 11; ((with_reducible refine (check_is b 0 _ hb HCB.out).mono ?_)); rintro e w' ⟨rfl, hB'⟩; have hB := hB.trans (hB'.mono hB.size); clear hB') | (go_at_call 11; ((with_reducible refine (check_is c 0 _ hc HCC.out).mono ?_)); rintro e w' ⟨rfl, hB'⟩; have hB := hB.trans (hB'.mono hB.size); clear hB') | (go_at_call 19; ((with_reducible refine (order_is a b (-1) _ ha hb HX.out).mono ?_)); rintro e w' ⟨rfl, hB'⟩; have hB := hB.trans (hB'.mono hB.size); clear hB') | (go_at_call 19; ((with_reducible refine (order_is b c (-1) _ hb hc HY.out).mono ?_)); rintro e w' ⟨rfl, hB'⟩; have hB := hB.trans (hB'.mono hB.size); clear hB') | (go_at_call 19; ((with_reducible refine (order_is a c (-1) _ ha hc HZ.out).mono ?_)); rintro e w' ⟨rfl, hB'⟩; have hB := hB.trans (hB'.mono hB.size); clear hB') | (go_at_call 19; ((with_reducible refine (order_is b a 1 _ hb ha HN.out).mono ?_)); rintro e w' ⟨rfl, hB'⟩; have hB := hB.trans (hB'.mono hB.size); clear hB') | (go_at_call 17; ((with_reducible refine (clash_is a c true _ ha hc HAC.out).mono ?_)); rintro e w' ⟨rfl, hB'⟩; have hB := hB.trans (hB'.mono hB.size); clear hB') | (go_at_call 17; ((with_reducible refine (clash_is a b true _ ha hb HAB.out).mono ?_)); rintro e w' ⟨rfl, hB'⟩; have hB := hB.trans (hB'.mono hB.size); clear hB') | (go_at_call 17; ((with_reducible refine (clash_is b c true _ hb hc HBC.out).mono ?_)); rintro e w' ⟨rfl, hB'⟩; have hB := hB.trans (hB'.mono hB.size); clear hB') | (go_at_call 8; ((with_reducible refine (alive_any _).mono ?_)); rintro e w' ⟨rfl, hB'⟩; have hB := hB.trans (hB'.mono hB.size); clear hB'))
  go_ret
  exact ⟨rfl, hB⟩

set_option maxRecDepth 100000 in
set_option maxHeartbeats 4000000 in
theorem row_mmm_f (a b c : ByteArray) (w : World) (hsz : ∀ s ∈ [a, b, c], s.size ≤ maxLen) (hcells : ∀ i, i < 3 → (w.alloc (.cells #[.string a, .string b, .string c] 9)).cell? ⟨w.heap.size, i, none⟩ = some (.string ([a, b, c].getD i ByteArray.empty))) (hB0 : Below w.heap.size w (w.alloc (.cells #[.string a, .string b, .string c] 9))) (ha : a.size ≤ 1024) (hb : b.size ≤ 1024) (hc : c.size ≤ 1024) (HL : Hid (([a, b, c].any fun s => decide (1024 < s.size)) = false)) (HCA : Hid (checkV a = 0)) (HCB : Hid (checkV b = 0)) (HCC : Hid (checkV c = 0)) (hab : (a.toList == b.toList) = false) (HX : Hid (orderV a b = (-1))) (HY : Hid (orderV b c = (-1))) (HZ : Hid (orderV a c = (-1))) (HN : Hid (orderV b a = 1)) (HAC : Hid (clashV a c = false)) :
    Calls Try.prog 6 #[.string a, .string b, .string c] w fun e w' => e = .returned (.bool true) ∧ Below w.heap.size w w' := by
  go_enter Try.func6, Try.ntmps6
  have hB := hB0
  go_wp2_with (first | (go_at_call 7; refine (long_any [a, b, c] _ w.heap.size 3 (by simp) hsz (by exact hcells)).mono ?_; rw [HL.out]; rintro e w1 ⟨rfl, rfl⟩) | (go_at_call 11; ((with_reducible refine (check_is a 0 _ ha HCA.out).mono ?_)); rintro e w' ⟨rfl, hB'⟩; have hB := hB.trans (hB'.mono hB.size); clear hB') | (go_at_call 11; ((with_reducible refine (check_is b 0 _ hb HCB.out).mono ?_)); rintro e w' ⟨rfl, hB'⟩; have hB := hB.trans (hB'.mono hB.size); clear hB') | (go_at_call 11; ((with_reducible refine (check_is c 0 _ hc HCC.out).mono ?_)); rintro e w' ⟨rfl, hB'⟩; have hB := hB.trans (hB'.mono hB.size); clear hB') | (go_at_call 19; ((with_reducible refine (order_is a b (-1) _ ha hb HX.out).mono ?_)); rintro e w' ⟨rfl, hB'⟩; have hB := hB.trans (hB'.mono hB.size); clear hB') | (go_at_call 19; ((with_reducible refine (order_is b c (-1) _ hb hc HY.out).mono ?_)); rintro e w' ⟨rfl, hB'⟩; have hB := hB.trans (hB'.mono hB.size); clear hB') | (go_at_call 19; ((with_reducible refine (order_is a c (-1) _ ha hc HZ.out).mono ?_)); rintro e w' ⟨rfl, hB'⟩; have hB := hB.trans (hB'.mono hB.size); clear hB') | (go_at_call 19; ((with_reducible refine (order_is b a 1 _ hb ha HN.out).mono ?_)); rintro e w' ⟨rfl, hB'⟩; have hB := hB.trans (hB'.mono hB.size); clear hB') | (go_at_call 17; ((with_reducible refine (clash_is a c false _ ha hc HAC.out).mono ?_)); rintro e w' ⟨rfl, hB'⟩; have hB := hB.trans (hB'.mono hB.size); clear hB') | (go_at_call 8; ((with_reducible refine (alive_any _).mono ?_)); rintro e w' ⟨rfl, hB'⟩; have hB := hB.trans (hB'.mono hB.size); clear hB'))
  go_ret
  exact ⟨rfl, hB⟩

set_option maxRecDepth 100000 in
set_option maxHeartbeats 4000000 in
theorem row_mzm (a b c : ByteArray) (w : World) (hsz : ∀ s ∈ [a, b, c], s.size ≤ maxLen) (hcells : ∀ i, i < 3 → (w.alloc (.cells #[.string a, .string b, .string c] 9)).cell? ⟨w.heap.size, i, none⟩ = some (.string ([a, b, c].getD i ByteArray.empty))) (hB0 : Below w.heap.size w (w.alloc (.cells #[.string a, .string b, .string c] 9))) (ha : a.size ≤ 1024) (hb : b.size ≤ 1024) (hc : c.size ≤ 1024) (HL : Hid (([a, b, c].any fun s => decide (1024 < s.size)) = false)) (HCA : Hid (checkV a = 0)) (HCB : Hid (checkV b = 0)) (HCC : Hid (checkV c = 0)) (hab : (a.toList == b.toList) = false) (HX : Hid (orderV a b = (-1))) (HY : Hid (orderV b c = 0)) (HZ : Hid (orderV a c = (-1))) (HN : Hid (orderV b a = 1)) :
    Calls Try.prog 6 #[.string a, .string b, .string c] w fun e w' => e = .returned (.bool true) ∧ Below w.heap.size w w' := by
  go_enter Try.func6, Try.ntmps6
  have hB := hB0
  go_wp2_with (first | (go_at_call 7; refine (long_any [a, b, c] _ w.heap.size 3 (by simp) hsz (by exact hcells)).mono ?_; rw [HL.out]; rintro e w1 ⟨rfl, rfl⟩) | (go_at_call 11; ((with_reducible refine (check_is a 0 _ ha HCA.out).mono ?_)); rintro e w' ⟨rfl, hB'⟩; have hB := hB.trans (hB'.mono hB.size); clear hB') | (go_at_call 11; ((with_reducible refine (check_is b 0 _ hb HCB.out).mono ?_)); rintro e w' ⟨rfl, hB'⟩; have hB := hB.trans (hB'.mono hB.size); clear hB') | (go_at_call 11; ((with_reducible refine (check_is c 0 _ hc HCC.out).mono ?_)); rintro e w' ⟨rfl, hB'⟩; have hB := hB.trans (hB'.mono hB.size); clear hB') | (go_at_call 19; ((with_reducible refine (order_is a b (-1) _ ha hb HX.out).mono ?_)); rintro e w' ⟨rfl, hB'⟩; have hB := hB.trans (hB'.mono hB.size); clear hB') | (go_at_call 19; ((with_reducible refine (order_is b c 0 _ hb hc HY.out).mono ?_)); rintro e w' ⟨rfl, hB'⟩; have hB := hB.trans (hB'.mono hB.size); clear hB') | (go_at_call 19; ((with_reducible refine (order_is a c (-1) _ ha hc HZ.out).mono ?_)); rintro e w' ⟨rfl, hB'⟩; have hB := hB.trans (hB'.mono hB.size); clear hB') | (go_at_call 19; ((with_reducible refine (order_is b a 1 _ hb ha HN.out).mono ?_)); rintro e w' ⟨rfl, hB'⟩; have hB := hB.trans (hB'.mono hB.size); clear hB') | (go_at_call 8; ((with_reducible refine (alive_any _).mono ?_)); rintro e w' ⟨rfl, hB'⟩; have hB := hB.trans (hB'.mono hB.size); clear hB'))
  go_ret
  exact ⟨rfl, hB⟩

set_option maxRecDepth 100000 in
set_option maxHeartbeats 4000000 in
theorem row_mzz (a b c : ByteArray) (w : World) (hsz : ∀ s ∈ [a, b, c], s.size ≤ maxLen) (hcells : ∀ i, i < 3 → (w.alloc (.cells #[.string a, .string b, .string c] 9)).cell? ⟨w.heap.size, i, none⟩ = some (.string ([a, b, c].getD i ByteArray.empty))) (hB0 : Below w.heap.size w (w.alloc (.cells #[.string a, .string b, .string c] 9))) (ha : a.size ≤ 1024) (hb : b.size ≤ 1024) (hc : c.size ≤ 1024) (HL : Hid (([a, b, c].any fun s => decide (1024 < s.size)) = false)) (HCA : Hid (checkV a = 0)) (HCB : Hid (checkV b = 0)) (HCC : Hid (checkV c = 0)) (hab : (a.toList == b.toList) = false) (HX : Hid (orderV a b = (-1))) (HY : Hid (orderV b c = 0)) (HZ : Hid (orderV a c = 0)) (HN : Hid (orderV b a = 1)) :
    Calls Try.prog 6 #[.string a, .string b, .string c] w fun e w' => e = .returned (.bool true) ∧ Below w.heap.size w w' := by
  go_enter Try.func6, Try.ntmps6
  have hB := hB0
  go_wp2_with (first | (go_at_call 7; refine (long_any [a, b, c] _ w.heap.size 3 (by simp) hsz (by exact hcells)).mono ?_; rw [HL.out]; rintro e w1 ⟨rfl, rfl⟩) | (go_at_call 11; ((with_reducible refine (check_is a 0 _ ha HCA.out).mono ?_)); rintro e w' ⟨rfl, hB'⟩; have hB := hB.trans (hB'.mono hB.size); clear hB') | (go_at_call 11; ((with_reducible refine (check_is b 0 _ hb HCB.out).mono ?_)); rintro e w' ⟨rfl, hB'⟩; have hB := hB.trans (hB'.mono hB.size); clear hB') | (go_at_call 11; ((with_reducible refine (check_is c 0 _ hc HCC.out).mono ?_)); rintro e w' ⟨rfl, hB'⟩; have hB := hB.trans (hB'.mono hB.size); clear hB') | (go_at_call 19; ((with_reducible refine (order_is a b (-1) _ ha hb HX.out).mono ?_)); rintro e w' ⟨rfl, hB'⟩; have hB := hB.trans (hB'.mono hB.size); clear hB') | (go_at_call 19; ((with_reducible refine (order_is b c 0 _ hb hc HY.out).mono ?_)); rintro e w' ⟨rfl, hB'⟩; have hB := hB.trans (hB'.mono hB.size); clear hB') | (go_at_call 19; ((with_reducible refine (order_is a c 0 _ ha hc HZ.out).mono ?_)); rintro e w' ⟨rfl, hB'⟩; have hB := hB.trans (hB'.mono hB.size); clear hB') | (go_at_call 19; ((with_reducible refine (order_is b a 1 _ hb ha HN.out).mono ?_)); rintro e w' ⟨rfl, hB'⟩; have hB := hB.trans (hB'.mono hB.size); clear hB') | (go_at_call 8; ((with_reducible refine (alive_any _).mono ?_)); rintro e w' ⟨rfl, hB'⟩; have hB := hB.trans (hB'.mono hB.size); clear hB'))
  go_ret
  exact ⟨rfl, hB⟩

set_option maxRecDepth 100000 in
set_option maxHeartbeats 4000000 in
theorem row_mpm (a b c : ByteArray) (w : World) (hsz : ∀ s ∈ [a, b, c], s.size ≤ maxLen) (hcells : ∀ i, i < 3 → (w.alloc (.cells #[.string a, .string b, .string c] 9)).cell? ⟨w.heap.size, i, none⟩ = some (.string ([a, b, c].getD i ByteArray.empty))) (hB0 : Below w.heap.size w (w.alloc (.cells #[.string a, .string b, .string c] 9))) (ha : a.size ≤ 1024) (hb : b.size ≤ 1024) (hc : c.size ≤ 1024) (HL : Hid (([a, b, c].any fun s => decide (1024 < s.size)) = false)) (HCA : Hid (checkV a = 0)) (HCB : Hid (checkV b = 0)) (HCC : Hid (checkV c = 0)) (hab : (a.toList == b.toList) = false) (HX : Hid (orderV a b = (-1))) (HY : Hid (orderV b c = 1)) (HZ : Hid (orderV a c = (-1))) (HN : Hid (orderV b a = 1)) :
    Calls Try.prog 6 #[.string a, .string b, .string c] w fun e w' => e = .returned (.bool true) ∧ Below w.heap.size w w' := by
  go_enter Try.func6, Try.ntmps6
  have hB := hB0
  go_wp2_with (first | (go_at_call 7; refine (long_any [a, b, c] _ w.heap.size 3 (by simp) hsz (by exact hcells)).mono ?_; rw [HL.out]; rintro e w1 ⟨rfl, rfl⟩) | (go_at_call 11; ((with_reducible refine (check_is a 0 _ ha HCA.out).mono ?_)); rintro e w' ⟨rfl, hB'⟩; have hB := hB.trans (hB'.mono hB.size); clear hB') | (go_at_call 11; ((with_reducible refine (check_is b 0 _ hb HCB.out).mono ?_)); rintro e w' ⟨rfl, hB'⟩; have hB := hB.trans (hB'.mono hB.size); clear hB') | (go_at_call 11; ((with_reducible refine (check_is c 0 _ hc HCC.out).mono ?_)); rintro e w' ⟨rfl, hB'⟩; have hB := hB.trans (hB'.mono hB.size); clear hB') | (go_at_call 19; ((with_reducible refine (order_is a b (-1) _ ha hb HX.out).mono ?_)); rintro e w' ⟨rfl, hB'⟩; have hB := hB.trans (hB'.mono hB.size); clear hB') | (go_at_call 19; ((with_reducible refine (order_is b c 1 _ hb hc HY.out).mono ?_)); rintro e w' ⟨rfl, hB'⟩; have hB := hB.trans (hB'.mono hB.size); clear hB') | (go_at_call 19; ((with_reducible refine (order_is a c (-1) _ ha hc HZ.out).mono ?_)); rintro e w' ⟨rfl, hB'⟩; have hB := hB.trans (hB'.mono hB.size); clear hB') | (go_at_call 19; ((with_reducible refine (order_is b a 1 _ hb ha HN.out).mono ?_)); rintro e w' ⟨rfl, hB'⟩; have hB := hB.trans (hB'.mono hB.size); clear hB') | (go_at_call 8; ((with_reducible refine (alive_any _).mono ?_)); rintro e w' ⟨rfl, hB'⟩; have hB := hB.trans (hB'.mono hB.size); clear hB'))
  go_ret
  exact ⟨rfl, hB⟩

set_option maxRecDepth 100000 in
set_option maxHeartbeats 4000000 in
theorem row_mpz (a b c : ByteArray) (w : World) (hsz : ∀ s ∈ [a, b, c], s.size ≤ maxLen) (hcells : ∀ i, i < 3 → (w.alloc (.cells #[.string a, .string b, .string c] 9)).cell? ⟨w.heap.size, i, none⟩ = some (.string ([a, b, c].getD i ByteArray.empty))) (hB0 : Below w.heap.size w (w.alloc (.cells #[.string a, .string b, .string c] 9))) (ha : a.size ≤ 1024) (hb : b.size ≤ 1024) (hc : c.size ≤ 1024) (HL : Hid (([a, b, c].any fun s => decide (1024 < s.size)) = false)) (HCA : Hid (checkV a = 0)) (HCB : Hid (checkV b = 0)) (HCC : Hid (checkV c = 0)) (hab : (a.toList == b.toList) = false) (HX : Hid (orderV a b = (-1))) (HY : Hid (orderV b c = 1)) (HZ : Hid (orderV a c = 0)) (HN : Hid (orderV b a = 1)) :
    Calls Try.prog 6 #[.string a, .string b, .string c] w fun e w' => e = .returned (.bool true) ∧ Below w.heap.size w w' := by
  go_enter Try.func6, Try.ntmps6
  have hB := hB0
  go_wp2_with (first | (go_at_call 7; refine (long_any [a, b, c] _ w.heap.size 3 (by simp) hsz (by exact hcells)).mono ?_; rw [HL.out]; rintro e w1 ⟨rfl, rfl⟩) | (go_at_call 11; ((with_reducible refine (check_is a 0 _ ha HCA.out).mono ?_)); rintro e w' ⟨rfl, hB'⟩; have hB := hB.trans (hB'.mono hB.size); clear hB') | (go_at_call 11; ((with_reducible refine (check_is b 0 _ hb HCB.out).mono ?_)); rintro e w' ⟨rfl, hB'⟩; have hB := hB.trans (hB'.mono hB.size); clear hB') | (go_at_call 11; ((with_reducible refine (check_is c 0 _ hc HCC.out).mono ?_)); rintro e w' ⟨rfl, hB'⟩; have hB := hB.trans (hB'.mono hB.size); clear hB') | (go_at_call 19; ((with_reducible refine (order_is a b (-1) _ ha hb HX.out).mono ?_)); rintro e w' ⟨rfl, hB'⟩; have hB := hB.trans (hB'.mono hB.size); clear hB') | (go_at_call 19; ((with_reducible refine (order_is b c 1 _ hb hc HY.out).mono ?_)); rintro e w' ⟨rfl, hB'⟩; have hB := hB.trans (hB'.mono hB.size); clear hB') | (go_at_call 19; ((with_reducible refine (order_is a c 0 _ ha hc HZ.out).mono ?_)); rintro e w' ⟨rfl, hB'⟩; have hB := hB.trans (hB'.mono hB.size); clear hB') | (go_at_call 19; ((with_reducible refine (order_is b a 1 _ hb ha HN.out).mono ?_)); rintro e w' ⟨rfl, hB'⟩; have hB := hB.trans (hB'.mono hB.size); clear hB') | (go_at_call 8; ((with_reducible refine (alive_any _).mono ?_)); rintro e w' ⟨rfl, hB'⟩; have hB := hB.trans (hB'.mono hB.size); clear hB'))
  go_ret
  exact ⟨rfl, hB⟩

set_option maxRecDepth 100000 in
set_option maxHeartbeats 4000000 in
theorem row_mpp (a b c : ByteArray) (w : World) (hsz : ∀ s ∈ [a, b, c], s.size ≤ maxLen) (hcells : ∀ i, i < 3 → (w.alloc (.cells #[.string a, .string b, .string c] 9)).cell? ⟨w.heap.size, i, none⟩ = some (.string ([a, b, c].getD i ByteArray.empty))) (hB0 : Below w.heap.size w (w.alloc (.cells #[.string a, .string b, .string c] 9))) (ha : a.size ≤ 1024) (hb : b.size ≤ 1024) (hc : c.size ≤ 1024) (HL : Hid (([a, b, c].any fun s => decide (1024 < s.size)) = false)) (HCA : Hid (checkV a = 0)) (HCB : Hid (checkV b = 0)) (HCC : Hid (checkV c = 0)) (hab : (a.toList == b.toList) = false) (HX : Hid (orderV a b = (-1))) (HY : Hid (orderV b c = 1)) (HZ : Hid (orderV a c = 1)) (HN : Hid (orderV b a = 1)) :
    Calls Try.prog 6 #[.string a, .string b, .string c] w fun e w' => e = .returned (.bool true) ∧ Below w.heap.size w w' := by
  go_enter Try.func6, Try.ntmps6
  have hB := hB0
  go_wp2_with (first | (go_at_call 7; refine (long_any [a, b, c] _ w.heap.size 3 (by simp) hsz (by exact hcells)).mono ?_; rw [HL.out]; rintro e w1 ⟨rfl, rfl⟩) | (go_at_call 11; ((with_reducible refine (check_is a 0 _ ha HCA.out).mono ?_)); rintro e w' ⟨rfl, hB'⟩; have hB := hB.trans (hB'.mono hB.size); clear hB') | (go_at_call 11; ((with_reducible refine (check_is b 0 _ hb HCB.out).mono ?_)); rintro e w' ⟨rfl, hB'⟩; have hB := hB.trans (hB'.mono hB.size); clear hB') | (go_at_call 11; ((with_reducible refine (check_is c 0 _ hc HCC.out).mono ?_)); rintro e w' ⟨rfl, hB'⟩; have hB := hB.trans (hB'.mono hB.size); clear hB') | (go_at_call 19; ((with_reducible refine (order_is a b (-1) _ ha hb HX.out).mono ?_)); rintro e w' ⟨rfl, hB'⟩; have hB := hB.trans (hB'.mono hB.size); clear hB') | (go_at_call 19; ((with_reducible refine (order_is b c 1 _ hb hc HY.out).mono ?_)); rintro e w' ⟨rfl, hB'⟩; have hB := hB.trans (hB'.mono hB.size); clear hB') | (go_at_call 19; ((with_reducible refine (order_is a c 1 _ ha hc HZ.out).mono ?_)); rintro e w' ⟨rfl, hB'⟩; have hB := hB.trans (hB'.mono hB.size); clear hB') | (go_at_call 19; ((with_reducible refine (order_is b a 1 _ hb ha HN.out).mono ?_)); rintro e w' ⟨rfl, hB'⟩; have hB := hB.trans (hB'.mono hB.size); clear hB') | (go_at_call 8; ((with_reducible refine (alive_any _).mono ?_)); rintro e w' ⟨rfl, hB'⟩; have hB := hB.trans (hB'.mono hB.size); clear hB'))
  go_ret
  exact ⟨rfl, hB⟩

set_option maxRecDepth 100000 in
set_option maxHeartbeats 4000000 in
theorem row_zmm (a b c : ByteArray) (w : World) (hsz : ∀ s ∈ [a, b, c], s.size ≤ maxLen) (hcells : ∀ i, i < 3 → (w.alloc (.cells #[.string a, .string b, .string c] 9)).cell? ⟨w.heap.size, i, none⟩ = some (.string ([a, b, c].getD i ByteArray.empty))) (hB0 : Below w.heap.size w (w.alloc (.cells #[.string a, .string b, .string c] 9))) (ha : a.size ≤ 1024) (hb : b.size ≤ 1024) (hc : c.size ≤ 1024) (HL : Hid (([a, b, c].any fun s => decide (1024 < s.size)) = false)) (HCA : Hid (checkV a = 0)) (HCB : Hid (checkV b = 0)) (HCC : Hid (checkV c = 0)) (hab : (a.toList == b.toList) = true) (HX : Hid (orderV a b = 0)) (HY : Hid (orderV b c = (-1))) (HZ : Hid (orderV a c = (-1))) (HN : Hid (orderV b a = 0)) :
    Calls Try.prog 6 #[.string a, .string b, .string c] w fun e w' => e = .returned (.bool true) ∧ Below w.heap.size w w' := by
  go_enter Try.func6, Try.ntmps6
  have hB := hB0
  go_wp2_with (first | (go_at_call 7; refine (long_any [a, b, c] _ w.heap.size 3 (by simp) hsz (by exact hcells)).mono ?_; rw [HL.out]; rintro e w1 ⟨rfl, rfl⟩) | (go_at_call 11; ((with_reducible refine (check_is a 0 _ ha HCA.out).mono ?_)); rintro e w' ⟨rfl, hB'⟩; have hB := hB.trans (hB'.mono hB.size); clear hB') | (go_at_call 11; ((with_reducible refine (check_is b 0 _ hb HCB.out).mono ?_)); rintro e w' ⟨rfl, hB'⟩; have hB := hB.trans (hB'.mono hB.size); clear hB') | (go_at_call 11; ((with_reducible refine (check_is c 0 _ hc HCC.out).mono ?_)); rintro e w' ⟨rfl, hB'⟩; have hB := hB.trans (hB'.mono hB.size); clear hB') | (go_at_call 19; ((with_reducible refine (order_is a b 0 _ ha hb HX.out).mono ?_)); rintro e w' ⟨rfl, hB'⟩; have hB := hB.trans (hB'.mono hB.size); clear hB') | (go_at_call 19; ((with_reducible refine (order_is b c (-1) _ hb hc HY.out).mono ?_)); rintro e w' ⟨rfl, hB'⟩; have hB := hB.trans (hB'.mono hB.size); clear hB') | (go_at_call 19; ((with_reducible refine (order_is a c (-1) _ ha hc HZ.out).mono ?_)); rintro e w' ⟨rfl, hB'⟩; have hB := hB.trans (hB'.mono hB.size); clear hB') | (go_at_call 19; ((with_reducible refine (order_is b a 0 _ hb ha HN.out).mono ?_)); rintro e w' ⟨rfl, hB'⟩; have hB := hB.trans (hB'.mono hB.size); clear hB') | (go_at_call 8; ((with_reducible refine (alive_any _).mono ?_)); rintro e w' ⟨rfl, hB'⟩; have hB := hB.trans (hB'.mono hB.size); clear hB'))
  go_ret
  exact ⟨rfl, hB⟩

set_option maxRecDepth 100000 in
set_option maxHeartbeats 4000000 in
theorem row_zmz (a b c : ByteArray) (w : World) (hsz : ∀ s ∈ [a, b, c], s.size ≤ maxLen) (hcells : ∀ i, i < 3 → (w.alloc (.cells #[.string a, .string b, .string c] 9)).cell? ⟨w.heap.size, i, none⟩ = some (.string ([a, b, c].getD i ByteArray.empty))) (hB0 : Below w.heap.size w (w.alloc (.cells #[.string a, .string b, .string c] 9))) (ha : a.size ≤ 1024) (hb : b.size ≤ 1024) (hc : c.size ≤ 1024) (HL : Hid (([a, b, c].any fun s => decide (1024 < s.size)) = false)) (HCA : Hid (checkV a = 0)) (HCB : Hid (checkV b = 0)) (HCC : Hid (checkV c = 0)) (hab : (a.toList == b.toList) = true) (HX : Hid (orderV a b = 0)) (HY : Hid (orderV b c = (-1))) (HZ : Hid (orderV a c = 0)) (HN : Hid (orderV b a = 0)) :
    Calls Try.prog 6 #[.string a, .string b, .string c] w fun e w' => e = .returned (.bool true) ∧ Below w.heap.size w w' := by
  go_enter Try.func6, Try.ntmps6
  have hB := hB0
  go_wp2_with (first | (go_at_call 7; refine (long_any [a, b, c] _ w.heap.size 3 (by simp) hsz (by exact hcells)).mono ?_; rw [HL.out]; rintro e w1 ⟨rfl, rfl⟩) | (go_at_call 11; ((with_reducible refine (check_is a 0 _ ha HCA.out).mono ?_)); rintro e w' ⟨rfl, hB'⟩; have hB := hB.trans (hB'.mono hB.size); clear hB') | (go_at_call 11; ((with_reducible refine (check_is b 0 _ hb HCB.out).mono ?_)); rintro e w' ⟨rfl, hB'⟩; have hB := hB.trans (hB'.mono hB.size); clear hB') | (go_at_call 11; ((with_reducible refine (check_is c 0 _ hc HCC.out).mono ?_)); rintro e w' ⟨rfl, hB'⟩; have hB := hB.trans (hB'.mono hB.size); clear hB') | (go_at_call 19; ((with_reducible refine (order_is a b 0 _ ha hb HX.out).mono ?_)); rintro e w' ⟨rfl, hB'⟩; have hB := hB.trans (hB'.mono hB.size); clear hB') | (go_at_call 19; ((with_reducible refine (order_is b c (-1) _ hb hc HY.out).mono ?_)); rintro e w' ⟨rfl, hB'⟩; have hB := hB.trans (hB'.mono hB.size); clear hB') | (go_at_call 19; ((with_reducible refine (order_is a c 0 _ ha hc HZ.out).mono ?_)); rintro e w' ⟨rfl, hB'⟩; have hB := hB.trans (hB'.mono hB.size); clear hB') | (go_at_call 19; ((with_reducible refine (order_is b a 0 _ hb ha HN.out).mono ?_)); rintro e w' ⟨rfl, hB'⟩; have hB := hB.trans (hB'.mono hB.size); clear hB') | (go_at_call 8; ((with_reducible refine (alive_any _).mono ?_)); rintro e w' ⟨rfl, hB'⟩; have hB := hB.trans (hB'.mono hB.size); clear hB'))
  go_ret
  exact ⟨rfl, hB⟩

set_option maxRecDepth 100000 in
set_option maxHeartbeats 4000000 in
theorem row_zzm (a b c : ByteArray) (w : World) (hsz : ∀ s ∈ [a, b, c], s.size ≤ maxLen) (hcells : ∀ i, i < 3 → (w.alloc (.cells #[.string a, .string b, .string c] 9)).cell? ⟨w.heap.size, i, none⟩ = some (.string ([a, b, c].getD i ByteArray.empty))) (hB0 : Below w.heap.size w (w.alloc (.cells #[.string a, .string b, .string c] 9))) (ha : a.size ≤ 1024) (hb : b.size ≤ 1024) (hc : c.size ≤ 1024) (HL : Hid (([a, b, c].any fun s => decide (1024 < s.size)) = false)) (HCA : Hid (checkV a = 0)) (HCB : Hid (checkV b = 0)) (HCC : Hid (checkV c = 0)) (hab : (a.toList == b.toList) = true) (HX : Hid (orderV a b = 0)) (HY : Hid (orderV b c = 0)) (HZ : Hid (orderV a c = (-1))) (HN : Hid (orderV b a = 0)) :
    Calls Try.prog 6 #[.string a, .string b, .string c] w fun e w' => e = .returned (.bool true) ∧ Below w.heap.size w w' := by
  go_enter Try.func6, Try.ntmps6
  have hB := hB0
  go_wp2_with (first | (go_at_call 7; refine (long_any [a, b, c] _ w.heap.size 3 (by simp) hsz (by exact hcells)).mono ?_; rw [HL.out]; rintro e w1 ⟨rfl, rfl⟩) | (go_at_call 11; ((with_reducible refine (check_is a 0 _ ha HCA.out).mono ?_)); rintro e w' ⟨rfl, hB'⟩; have hB := hB.trans (hB'.mono hB.size); clear hB') | (go_at_call 11; ((with_reducible refine (check_is b 0 _ hb HCB.out).mono ?_)); rintro e w' ⟨rfl, hB'⟩; have hB := hB.trans (hB'.mono hB.size); clear hB') | (go_at_call 11; ((with_reducible refine (check_is c 0 _ hc HCC.out).mono ?_)); rintro e w' ⟨rfl, hB'⟩; have hB := hB.trans (hB'.mono hB.size); clear hB') | (go_at_call 19; ((with_reducible refine (order_is a b 0 _ ha hb HX.out).mono ?_)); rintro e w' ⟨rfl, hB'⟩; have hB := hB.trans (hB'.mono hB.size); clear hB') | (go_at_call 19; ((with_reducible refine (order_is b c 0 _ hb hc HY.out).mono ?_)); rintro e w' ⟨rfl, hB'⟩; have hB := hB.trans (hB'.mono hB.size); clear hB') | (go_at_call 19; ((with_reducible refine (order_is a c (-1) _ ha hc HZ.out).mono ?_)); rintro e w' ⟨rfl, hB'⟩; have hB := hB.trans (hB'.mono hB.size); clear hB') | (go_at_call 19; ((with_reducible refine (order_is b a 0 _ hb ha HN.out).mono ?_)); rintro e w' ⟨rfl, hB'⟩; have hB := hB.trans (hB'.mono hB.size); clear hB') | (go_at_call 8; ((with_reducible refine (alive_any _).mono ?_)); rintro e w' ⟨rfl, hB'⟩; have hB := hB.trans (hB'.mono hB.size); clear hB'))
  go_ret
  exact ⟨rfl, hB⟩

set_option maxRecDepth 100000 in
set_option maxHeartbeats 4000000 in
theorem row_zzz (a b c : ByteArray) (w : World) (hsz : ∀ s ∈ [a, b, c], s.size ≤ maxLen) (hcells : ∀ i, i < 3 → (w.alloc (.cells #[.string a, .string b, .string c] 9)).cell? ⟨w.heap.size, i, none⟩ = some (.string ([a, b, c].getD i ByteArray.empty))) (hB0 : Below w.heap.size w (w.alloc (.cells #[.string a, .string b, .string c] 9))) (ha : a.size ≤ 1024) (hb : b.size ≤ 1024) (hc : c.size ≤ 1024) (HL : Hid (([a, b, c].any fun s => decide (1024 < s.size)) = false)) (HCA : Hid (checkV a = 0)) (HCB : Hid (checkV b = 0)) (HCC : Hid (checkV c = 0)) (hab : (a.toList == b.toList) = true) (HX : Hid (orderV a b = 0)) (HY : Hid (orderV b c = 0)) (HZ : Hid (orderV a c = 0)) (HN : Hid (orderV b a = 0)) :
    Calls Try.prog 6 #[.string a, .string b, .string c] w fun e w' => e = .returned (.bool true) ∧ Below w.heap.size w w' := by
  go_enter Try.func6, Try.ntmps6
  have hB := hB0
  go_wp2_with (first | (go_at_call 7; refine (long_any [a, b, c] _ w.heap.size 3 (by simp) hsz (by exact hcells)).mono ?_; rw [HL.out]; rintro e w1 ⟨rfl, rfl⟩) | (go_at_call 11; ((with_reducible refine (check_is a 0 _ ha HCA.out).mono ?_)); rintro e w' ⟨rfl, hB'⟩; have hB := hB.trans (hB'.mono hB.size); clear hB') | (go_at_call 11; ((with_reducible refine (check_is b 0 _ hb HCB.out).mono ?_)); rintro e w' ⟨rfl, hB'⟩; have hB := hB.trans (hB'.mono hB.size); clear hB') | (go_at_call 11; ((with_reducible refine (check_is c 0 _ hc HCC.out).mono ?_)); rintro e w' ⟨rfl, hB'⟩; have hB := hB.trans (hB'.mono hB.size); clear hB') | (go_at_call 19; ((with_reducible refine (order_is a b 0 _ ha hb HX.out).mono ?_)); rintro e w' ⟨rfl, hB'⟩; have hB := hB.trans (hB'.mono hB.size); clear hB') | (go_at_call 19; ((with_reducible refine (order_is b c 0 _ hb hc HY.out).mono ?_)); rintro e w' ⟨rfl, hB'⟩; have hB := hB.trans (hB'.mono hB.size); clear hB') | (go_at_call 19; ((with_reducible refine (order_is a c 0 _ ha hc HZ.out).mono ?_)); rintro e w' ⟨rfl, hB'⟩; have hB := hB.trans (hB'.mono hB.size); clear hB') | (go_at_call 19; ((with_reducible refine (order_is b a 0 _ hb ha HN.out).mono ?_)); rintro e w' ⟨rfl, hB'⟩; have hB := hB.trans (hB'.mono hB.size); clear hB') | (go_at_call 8; ((with_reducible refine (alive_any _).mono ?_)); rintro e w' ⟨rfl, hB'⟩; have hB := hB.trans (hB'.mono hB.size); clear hB'))
  go_ret
  exact ⟨rfl, hB⟩

set_option maxRecDepth 100000 in
set_option maxHeartbeats 4000000 in
theorem row_zpm (a b c : ByteArray) (w : World) (hsz : ∀ s ∈ [a, b, c], s.size ≤ maxLen) (hcells : ∀ i, i < 3 → (w.alloc (.cells #[.string a, .string b, .string c] 9)).cell? ⟨w.heap.size, i, none⟩ = some (.string ([a, b, c].getD i ByteArray.empty))) (hB0 : Below w.heap.size w (w.alloc (.cells #[.string a, .string b, .string c] 9))) (ha : a.size ≤ 1024) (hb : b.size ≤ 1024) (hc : c.size ≤ 1024) (HL : Hid (([a, b, c].any fun s => decide (1024 < s.size)) = false)) (HCA : Hid (checkV a = 0)) (HCB : Hid (checkV b = 0)) (HCC : Hid (checkV c = 0)) (hab : (a.toList == b.toList) = true) (HX : Hid (orderV a b = 0)) (HY : Hid (orderV b c = 1)) (HZ : Hid (orderV a c = (-1))) (HN : Hid (orderV b a = 0)) :
    Calls Try.prog 6 #[.string a, .string b, .string c] w fun e w' => e = .returned (.bool true) ∧ Below w.heap.size w w' := by
  go_enter Try.func6, Try.ntmps6
  have hB := hB0
  go_wp2_with (first | (go_at_call 7; refine (long_any [a, b, c] _ w.heap.size 3 (by simp) hsz (by exact hcells)).mono ?_; rw [HL.out]; rintro e w1 ⟨rfl, rfl⟩) | (go_at_call 11; ((with_reducible refine (check_is a 0 _ ha HCA.out).mono ?_)); rintro e w' ⟨rfl, hB'⟩; have hB := hB.trans (hB'.mono hB.size); clear hB') | (go_at_call 11; ((with_reducible refine (check_is b 0 _ hb HCB.out).mono ?_)); rintro e w' ⟨rfl, hB'⟩; have hB := hB.trans (hB'.mono hB.size); clear hB') | (go_at_call 11; ((with_reducible refine (check_is c 0 _ hc HCC.out).mono ?_)); rintro e w' ⟨rfl, hB'⟩; have hB := hB.trans (hB'.mono hB.size); clear hB') | (go_at_call 19; ((with_reducible refine (order_is a b 0 _ ha hb HX.out).mono ?_)); rintro e w' ⟨rfl, hB'⟩; have hB := hB.trans (hB'.mono hB.size); clear hB') | (go_at_call 19; ((with_reducible refine (order_is b c 1 _ hb hc HY.out).mono ?_)); rintro e w' ⟨rfl, hB'⟩; have hB := hB.trans (hB'.mono hB.size); clear hB') | (go_at_call 19; ((with_reducible refine (order_is a c (-1) _ ha hc HZ.out).mono ?_)); rintro e w' ⟨rfl, hB'⟩; have hB := hB.trans (hB'.mono hB.size); clear hB') | (go_at_call 19; ((with_reducible refine (order_is b a 0 _ hb ha HN.out).mono ?_)); rintro e w' ⟨rfl, hB'⟩; have hB := hB.trans (hB'.mono hB.size); clear hB') | (go_at_call 8; ((with_reducible refine (alive_any _).mono ?_)); rintro e w' ⟨rfl, hB'⟩; have hB := hB.trans (hB'.mono hB.size); clear hB'))
  go_ret
  exact ⟨rfl, hB⟩

set_option maxRecDepth 100000 in
set_option maxHeartbeats 4000000 in
theorem row_zpz (a b c : ByteArray) (w : World) (hsz : ∀ s ∈ [a, b, c], s.size ≤ maxLen) (hcells : ∀ i, i < 3 → (w.alloc (.cells #[.string a, .string b, .string c] 9)).cell? ⟨w.heap.size, i, none⟩ = some (.string ([a, b, c].getD i ByteArray.empty))) (hB0 : Below w.heap.size w (w.alloc (.cells #[.string a, .string b, .string c] 9))) (ha : a.size ≤ 1024) (hb : b.size ≤ 1024) (hc : c.size ≤ 1024) (HL : Hid (([a, b, c].any fun s => decide (1024 < s.size)) = false)) (HCA : Hid (checkV a = 0)) (HCB : Hid (checkV b = 0)) (HCC : Hid (checkV c = 0)) (hab : (a.toList == b.toList) = true) (HX : Hid (orderV a b = 0)) (HY : Hid (orderV b c = 1)) (HZ : Hid (orderV a c = 0)) (HN : Hid (orderV b a = 0)) :
    Calls Try.prog 6 #[.string a, .string b, .string c] w fun e w' => e = .returned (.bool true) ∧ Below w.heap.size w w' := by
  go_enter Try.func6, Try.ntmps6
  have hB := hB0
  go_wp2_with (first | (go_at_call 7; refine (long_any [a, b, c] _ w.heap.size 3 (by simp) hsz (by exact hcells)).mono ?_; rw [HL.out]; rintro e w1 ⟨rfl, rfl⟩) | (go_at_call 11; ((with_reducible refine (check_is a 0 _ ha HCA.out).mono ?_)); rintro e w' ⟨rfl, hB'⟩; have hB := hB.trans (hB'.mono hB.size); clear hB') | (go_at_call 11; ((with_reducible refine (check_is b 0 _ hb HCB.out).mono ?_)); rintro e w' ⟨rfl, hB'⟩; have hB := hB.trans (hB'.mono hB.size); clear hB') | (go_at_call 11; ((with_reducible refine (check_is c 0 _ hc HCC.out).mono ?_)); rintro e w' ⟨rfl, hB'⟩; have hB := hB.trans (hB'.mono hB.size); clear hB') | (go_at_call 19; ((with_reducible refine (order_is a b 0 _ ha hb HX.out).mono ?_)); rintro e w' ⟨rfl, hB'⟩; have hB := hB.trans (hB'.mono hB.size); clear hB') | (go_at_call 19; ((with_reducible refine (order_is b c 1 _ hb hc HY.out).mono ?_)); rintro e w' ⟨rfl, hB'⟩; have hB := hB.trans (hB'.mono hB.size); clear hB') | (go_at_call 19; ((with_reducible refine (order_is a c 0 _ ha hc HZ.out).mono ?_)); rintro e w' ⟨rfl, hB'⟩; have hB := hB.trans (hB'.mono hB.size); clear hB') | (go_at_call 19; ((with_reducible refine (order_is b a 0 _ hb ha HN.out).mono ?_)); rintro e w' ⟨rfl, hB'⟩; have hB := hB.trans (hB'.mono hB.size); clear hB') | (go_at_call 8; ((with_reducible refine (alive_any _).mono ?_)); rintro e w' ⟨rfl, hB'⟩; have hB := hB.trans (hB'.mono hB.size); clear hB'))
  go_ret
  exact ⟨rfl, hB⟩

set_option maxRecDepth 100000 in
set_option maxHeartbeats 4000000 in
theorem row_zpp (a b c : ByteArray) (w : World) (hsz : ∀ s ∈ [a, b, c], s.size ≤ maxLen) (hcells : ∀ i, i < 3 → (w.alloc (.cells #[.string a, .string b, .string c] 9)).cell? ⟨w.heap.size, i, none⟩ = some (.string ([a, b, c].getD i ByteArray.empty))) (hB0 : Below w.heap.size w (w.alloc (.cells #[.string a, .string b, .string c] 9))) (ha : a.size ≤ 1024) (hb : b.size ≤ 1024) (hc : c.size ≤ 1024) (HL : Hid (([a, b, c].any fun s => decide (1024 < s.size)) = false)) (HCA : Hid (checkV a = 0)) (HCB : Hid (checkV b = 0)) (HCC : Hid (checkV c = 0)) (hab : (a.toList == b.toList) = true) (HX : Hid (orderV a b = 0)) (HY : Hid (orderV b c = 1)) (HZ : Hid (orderV a c = 1)) (HN : Hid (orderV b a = 0)) :
    Calls Try.prog 6 #[.string a, .string b, .string c] w fun e w' => e = .returned (.bool true) ∧ Below w.heap.size w w' := by
  go_enter Try.func6, Try.ntmps6
  have hB := hB0
  go_wp2_with (first | (go_at_call 7; refine (long_any [a, b, c] _ w.heap.size 3 (by simp) hsz (by exact hcells)).mono ?_; rw [HL.out]; rintro e w1 ⟨rfl, rfl⟩) | (go_at_call 11; ((with_reducible refine (check_is a 0 _ ha HCA.out).mono ?_)); rintro e w' ⟨rfl, hB'⟩; have hB := hB.trans (hB'.mono hB.size); clear hB') | (go_at_call 11; ((with_reducible refine (check_is b 0 _ hb HCB.out).mono ?_)); rintro e w' ⟨rfl, hB'⟩; have hB := hB.trans (hB'.mono hB.size); clear hB') | (go_at_call 11; ((with_reducible refine (check_is c 0 _ hc HCC.out).mono ?_)); rintro e w' ⟨rfl, hB'⟩; have hB := hB.trans (hB'.mono hB.size); clear hB') | (go_at_call 19; ((with_reducible refine (order_is a b 0 _ ha hb HX.out).mono ?_)); rintro e w' ⟨rfl, hB'⟩; have hB := hB.trans (hB'.mono hB.size); clear hB') | (go_at_call 19; ((with_reducible refine (order_is b c 1 _ hb hc HY.out).mono ?_)); rintro e w' ⟨rfl, hB'⟩; have hB := hB.trans (hB'.mono hB.size); clear hB') | (go_at_call 19; ((with_reducible refine (order_is a c 1 _ ha hc HZ.out).mono ?_)); rintro e w' ⟨rfl, hB'⟩; have hB := hB.trans (hB'.mono hB.size); clear hB') | (go_at_call 19; ((with_reducible refine (order_is b a 0 _ hb ha HN.out).mono ?_)); rintro e w' ⟨rfl, hB'⟩; have hB := hB.trans (hB'.mono hB.size); clear hB') | (go_at_call 8; ((with_reducible refine (alive_any _).mono ?_)); rintro e w' ⟨rfl, hB'⟩; have hB := hB.trans (hB'.mono hB.size); clear hB'))
  go_ret
  exact ⟨rfl, hB⟩

set_option maxRecDepth 100000 in
set_option maxHeartbeats 4000000 in
theorem row_pmm (a b c : ByteArray) (w : World) (hsz : ∀ s ∈ [a, b, c], s.size ≤ maxLen) (hcells : ∀ i, i < 3 → (w.alloc (.cells #[.string a, .string b, .string c] 9)).cell? ⟨w.heap.size, i, none⟩ = some (.string ([a, b, c].getD i ByteArray.empty))) (hB0 : Below w.heap.size w (w.alloc (.cells #[.string a, .string b, .string c] 9))) (ha : a.size ≤ 1024) (hb : b.size ≤ 1024) (hc : c.size ≤ 1024) (HL : Hid (([a, b, c].any fun s => decide (1024 < s.size)) = false)) (HCA : Hid (checkV a = 0)) (HCB : Hid (checkV b = 0)) (HCC : Hid (checkV c = 0)) (hab : (a.toList == b.toList) = false) (HX : Hid (orderV a b = 1)) (HY : Hid (orderV b c = (-1))) (HZ : Hid (orderV a c = (-1))) (HN : Hid (orderV b a = (-1))) :
    Calls Try.prog 6 #[.string a, .string b, .string c] w fun e w' => e = .returned (.bool true) ∧ Below w.heap.size w w' := by
  go_enter Try.func6, Try.ntmps6
  have hB := hB0
  go_wp2_with (first | (go_at_call 7; refine (long_any [a, b, c] _ w.heap.size 3 (by simp) hsz (by exact hcells)).mono ?_; rw [HL.out]; rintro e w1 ⟨rfl, rfl⟩) | (go_at_call 11; ((with_reducible refine (check_is a 0 _ ha HCA.out).mono ?_)); rintro e w' ⟨rfl, hB'⟩; have hB := hB.trans (hB'.mono hB.size); clear hB') | (go_at_call 11; ((with_reducible refine (check_is b 0 _ hb HCB.out).mono ?_)); rintro e w' ⟨rfl, hB'⟩; have hB := hB.trans (hB'.mono hB.size); clear hB') | (go_at_call 11; ((with_reducible refine (check_is c 0 _ hc HCC.out).mono ?_)); rintro e w' ⟨rfl, hB'⟩; have hB := hB.trans (hB'.mono hB.size); clear hB') | (go_at_call 19; ((with_reducible refine (order_is a b 1 _ ha hb HX.out).mono ?_)); rintro e w' ⟨rfl, hB'⟩; have hB := hB.trans (hB'.mono hB.size); clear hB') | (go_at_call 19; ((with_reducible refine (order_is b c (-1) _ hb hc HY.out).mono ?_)); rintro e w' ⟨rfl, hB'⟩; have hB := hB.trans (hB'.mono hB.size); clear hB') | (go_at_call 19; ((with_reducible refine (order_is a c (-1) _ ha hc HZ.out).mono ?_)); rintro e w' ⟨rfl, hB'⟩; have hB := hB.trans (hB'.mono hB.size); clear hB') | (go_at_call 19; ((with_reducible refine (order_is b a (-1) _ hb ha HN.out).mono ?_)); rintro e w' ⟨rfl, hB'⟩; have hB := hB.trans (hB'.mono hB.size); clear hB') | (go_at_call 8; ((with_reducible refine (alive_any _).mono ?_)); rintro e w' ⟨rfl, hB'⟩; have hB := hB.trans (hB'.mono hB.size); clear hB'))
  go_ret
  exact ⟨rfl, hB⟩

set_option maxRecDepth 100000 in
set_option maxHeartbeats 4000000 in
theorem row_pmz (a b c : ByteArray) (w : World) (hsz : ∀ s ∈ [a, b, c], s.size ≤ maxLen) (hcells : ∀ i, i < 3 → (w.alloc (.cells #[.string a, .string b, .string c] 9)).cell? ⟨w.heap.size, i, none⟩ = some (.string ([a, b, c].getD i ByteArray.empty))) (hB0 : Below w.heap.size w (w.alloc (.cells #[.string a, .string b, .string c] 9))) (ha : a.size ≤ 1024) (hb : b.size ≤ 1024) (hc : c.size ≤ 1024) (HL : Hid (([a, b, c].any fun s => decide (1024 < s.size)) = false)) (HCA : Hid (checkV a = 0)) (HCB : Hid (checkV b = 0)) (HCC : Hid (checkV c = 0)) (hab : (a.toList == b.toList) = false) (HX : Hid (orderV a b = 1)) (HY : Hid (orderV b c = (-1))) (HZ : Hid (orderV a c = 0)) (HN : Hid (orderV b a = (-1))) :
    Calls Try.prog 6 #[.string a, .string b, .string c] w fun e w' => e = .returned (.bool true) ∧ Below w.heap.size w w' := by
  go_enter Try.func6, Try.ntmps6
  have hB := hB0
  go_wp2_with (first | (go_at_call 7; refine (long_any [a, b, c] _ w.heap.size 3 (by simp) hsz (by exact hcells)).mono ?_; rw [HL.out]; rintro e w1 ⟨rfl, rfl⟩) | (go_at_call 11; ((with_reducible refine (check_is a 0 _ ha HCA.out).mono ?_)); rintro e w' ⟨rfl, hB'⟩; have hB := hB.trans (hB'.mono hB.size); clear hB') | (go_at_call 11; ((with_reducible refine (check_is b 0 _ hb HCB.out).mono ?_)); rintro e w' ⟨rfl, hB'⟩; have hB := hB.trans (hB'.mono hB.size); clear hB') | (go_at_call 11; ((with_reducible refine (check_is c 0 _ hc HCC.out).mono ?_)); rintro e w' ⟨rfl, hB'⟩; have hB := hB.trans (hB'.mono hB.size); clear hB') | (go_at_call 19; ((with_reducible refine (order_is a b 1 _ ha hb HX.out).mono ?_)); rintro e w' ⟨rfl, hB'⟩; have hB := hB.trans (hB'.mono hB.size); clear hB') | (go_at_call 19; ((with_reducible refine (order_is b c (-1) _ hb hc HY.out).mono ?_)); rintro e w' ⟨rfl, hB'⟩; have hB := hB.trans (hB'.mono hB.size); clear hB') | (go_at_call 19; ((with_reducible refine (order_is a c 0 _ ha hc HZ.out).mono ?_)); rintro e w' ⟨rfl, hB'⟩; have hB := hB.trans (hB'.mono hB.size); clear hB') | (go_at_call 19; ((with_reducible refine (order_is b a (-1) _ hb ha HN.out).mono ?_)); rintro e w' ⟨rfl, hB'⟩; have hB := hB.trans (hB'.mono hB.size); clear hB') | (go_at_call 8; ((with_reducible refine (alive_any _).mono ?_)); rintro e w' ⟨rfl, hB'⟩; have hB := hB.trans (hB'.mono hB.size); clear hB'))
  go_ret
  exact ⟨rfl, hB⟩

set_option maxRecDepth 100000 in
set_option maxHeartbeats 4000000 in
theorem row_pmp (a b c : ByteArray) (w : World) (hsz : ∀ s ∈ [a, b, c], s.size ≤ maxLen) (hcells : ∀ i, i < 3 → (w.alloc (.cells #[.string a, .string b, .string c] 9)).cell? ⟨w.heap.size, i, none⟩ = some (.string ([a, b, c].getD i ByteArray.empty))) (hB0 : Below w.heap.size w (w.alloc (.cells #[.string a, .string b, .string c] 9))) (ha : a.size ≤ 1024) (hb : b.size ≤ 1024) (hc : c.size ≤ 1024) (HL : Hid (([a, b, c].any fun s => decide (1024 < s.size)) = false)) (HCA : Hid (checkV a = 0)) (HCB : Hid (checkV b = 0)) (HCC : Hid (checkV c = 0)) (hab : (a.toList == b.toList) = false) (HX : Hid (orderV a b = 1)) (HY : Hid (orderV b c = (-1))) (HZ : Hid (orderV a c = 1)) (HN : Hid (orderV b a = (-1))) :
    Calls Try.prog 6 #[.string a, .string b, .string c] w fun e w' => e = .returned (.bool true) ∧ Below w.heap.size w w' := by
  go_enter Try.func6, Try.ntmps6
  have hB := hB0
  go_wp2_with (first | (go_at_call 7; refine (long_any [a, b, c] _ w.heap.size 3 (by simp) hsz (by exact hcells)).mono ?_; rw [HL.out]; rintro e w1 ⟨rfl, rfl⟩) | (go_at_call 11; ((with_reducible refine (check_is a 0 _ ha HCA.out).mono ?_)); rintro e w' ⟨rfl, hB'⟩; have hB := hB.trans (hB'.mono hB.size); clear hB') | (go_at_call 11; ((with_reducible refine (check_is b 0 _ hb HCB.out).mono ?_)); rintro e w' ⟨rfl, hB'⟩; have hB := hB.trans (hB'.mono hB.size); clear hB') | (go_at_call 11; ((with_reducible refine (check_is c 0 _ hc HCC.out).mono ?_)); rintro e w' ⟨rfl, hB'⟩; have hB := hB.trans (hB'.mono hB.size); clear hB') | (go_at_call 19; ((with_reducible refine (order_is a b 1 _ ha hb HX.out).mono ?_)); rintro e w' ⟨rfl, hB'⟩; have hB := hB.trans (hB'.mono hB.size); clear hB') | (go_at_call 19; ((with_reducible refine (order_is b c (-1) _ hb hc HY.out).mono ?_)); rintro e w' ⟨rfl, hB'⟩; have hB := hB.trans (hB'.mono hB.size); clear hB') | (go_at_call 19; ((with_reducible refine (order_is a c 1 _ ha hc HZ.out).mono ?_)); rintro e w' ⟨rfl, hB'⟩; have hB := hB.trans (hB'.mono hB.size); clear hB') | (go_at_call 19; ((with_reducible refine (order_is b a (-1) _ hb ha HN.out).mono ?_)); rintro e w' ⟨rfl, hB'⟩; have hB := hB.trans (hB'.mono hB.size); clear hB') | (go_at_call 8; ((with_reducible refine (alive_any _).mono ?_)); rintro e w' ⟨rfl, hB'⟩; have hB := hB.trans (hB'.mono hB.size); clear hB'))
  go_ret
  exact ⟨rfl, hB⟩

set_option maxRecDepth 100000 in
set_option maxHeartbeats 4000000 in
theorem row_pzm (a b c : ByteArray) (w : World) (hsz : ∀ s ∈ [a, b, c], s.size ≤ maxLen) (hcells : ∀ i, i < 3 → (w.alloc (.cells #[.string a, .string b, .string c] 9)).cell? ⟨w.heap.size, i, none⟩ = some (.string ([a, b, c].getD i ByteArray.empty))) (hB0 : Below w.heap.size w (w.alloc (.cells #[.string a, .string b, .string c] 9))) (ha : a.size ≤ 1024) (hb : b.size ≤ 1024) (hc : c.size ≤ 1024) (HL : Hid (([a, b, c].any fun s => decide (1024 < s.size)) = false)) (HCA : Hid (checkV a = 0)) (HCB : Hid (checkV b = 0)) (HCC : Hid (checkV c = 0)) (hab : (a.toList == b.toList) = false) (HX : Hid (orderV a b = 1)) (HY : Hid (orderV b c = 0)) (HZ : Hid (orderV a c = (-1))) (HN : Hid (orderV b a = (-1))) :
    Calls Try.prog 6 #[.string a, .string b, .string c] w fun e w' => e = .returned (.bool true) ∧ Below w.heap.size w w' := by
  go_enter Try.func6, Try.ntmps6
  have hB := hB0
  go_wp2_with (first | (go_at_call 7; refine (long_any [a, b, c] _ w.heap.size 3 (by simp) hsz (by exact hcells)).mono ?_; rw [HL.out]; rintro e w1 ⟨rfl, rfl⟩) | (go_at_call 11; ((with_reducible refine (check_is a 0 _ ha HCA.out).mono ?_)); rintro e w' ⟨rfl, hB'⟩; have hB := hB.trans (hB'.mono hB.size); clear hB') | (go_at_call 11; ((with_reducible refine (check_is b 0 _ hb HCB.out).mono ?_)); rintro e w' ⟨rfl, hB'⟩; have hB := hB.trans (hB'.mono hB.size); clear hB') | (go_at_call 11; ((with_reducible refine (check_is c 0 _ hc HCC.out).mono ?_)); rintro e w' ⟨rfl, hB'⟩; have hB := hB.trans (hB'.mono hB.size); clear hB') | (go_at_call 19; ((with_reducible refine (order_is a b 1 _ ha hb HX.out).mono ?_)); rintro e w' ⟨rfl, hB'⟩; have hB := hB.trans (hB'.mono hB.size); clear hB') | (go_at_call 19; ((with_reducible refine (order_is b c 0 _ hb hc HY.out).mono ?_)); rintro e w' ⟨rfl, hB'⟩; have hB := hB.trans (hB'.mono hB.size); clear hB') | (go_at_call 19; ((with_reducible refine (order_is a c (-1) _ ha hc HZ.out).mono ?_)); rintro e w' ⟨rfl, hB'⟩; have hB := hB.trans (hB'.mono hB.size); clear hB') | (go_at_call 19; ((with_reducible refine (order_is b a (-1) _ hb ha HN.out).mono ?_)); rintro e w' ⟨rfl, hB'⟩; have hB := hB.trans (hB'.mono hB.size); clear hB') | (go_at_call 8; ((with_reducible refine (alive_any _).mono ?_)); rintro e w' ⟨rfl, hB'⟩; have hB := hB.trans (hB'.mono hB.size); clear hB'))
  go_ret
  exact ⟨rfl, hB⟩

set_option maxRecDepth 100000 in
set_option maxHeartbeats 4000000 in
theorem row_pzz (a b c : ByteArray) (w : World) (hsz : ∀ s ∈ [a, b, c], s.size ≤ maxLen) (hcells : ∀ i, i < 3 → (w.alloc (.cells #[.string a, .string b, .string c] 9)).cell? ⟨w.heap.size, i, none⟩ = some (.string ([a, b, c].getD i ByteArray.empty))) (hB0 : Below w.heap.size w (w.alloc (.cells #[.string a, .string b, .string c] 9))) (ha : a.size ≤ 1024) (hb : b.size ≤ 1024) (hc : c.size ≤ 1024) (HL : Hid (([a, b, c].any fun s => decide (1024 < s.size)) = false)) (HCA : Hid (checkV a = 0)) (HCB : Hid (checkV b = 0)) (HCC : Hid (checkV c = 0)) (hab : (a.toList == b.toList) = false) (HX : Hid (orderV a b = 1)) (HY : Hid (orderV b c = 0)) (HZ : Hid (orderV a c = 0)) (HN : Hid (orderV b a = (-1))) :
    Calls Try.prog 6 #[.string a, .string b, .string c] w fun e w' => e = .returned (.bool true) ∧ Below w.heap.size w w' := by
  go_enter Try.func6, Try.ntmps6
  have hB := hB0
  go_wp2_with (first | (go_at_call 7; refine (long_any [a, b, c] _ w.heap.size 3 (by simp) hsz (by exact hcells)).mono ?_; rw [HL.out]; rintro e w1 ⟨rfl, rfl⟩) | (go_at_call 11; ((with_reducible refine (check_is a 0 _ ha HCA.out).mono ?_)); rintro e w' ⟨rfl, hB'⟩; have hB := hB.trans (hB'.mono hB.size); clear hB') | (go_at_call 11; ((with_reducible refine (check_is b 0 _ hb HCB.out).mono ?_)); rintro e w' ⟨rfl, hB'⟩; have hB := hB.trans (hB'.mono hB.size); clear hB') | (go_at_call 11; ((with_reducible refine (check_is c 0 _ hc HCC.out).mono ?_)); rintro e w' ⟨rfl, hB'⟩; have hB := hB.trans (hB'.mono hB.size); clear hB') | (go_at_call 19; ((with_reducible refine (order_is a b 1 _ ha hb HX.out).mono ?_)); rintro e w' ⟨rfl, hB'⟩; have hB := hB.trans (hB'.mono hB.size); clear hB') | (go_at_call 19; ((with_reducible refine (order_is b c 0 _ hb hc HY.out).mono ?_)); rintro e w' ⟨rfl, hB'⟩; have hB := hB.trans (hB'.mono hB.size); clear hB') | (go_at_call 19; ((with_reducible refine (order_is a c 0 _ ha hc HZ.out).mono ?_)); rintro e w' ⟨rfl, hB'⟩; have hB := hB.trans (hB'.mono hB.size); clear hB') | (go_at_call 19; ((with_reducible refine (order_is b a (-1) _ hb ha HN.out).mono ?_)); rintro e w' ⟨rfl, hB'⟩; have hB := hB.trans (hB'.mono hB.size); clear hB') | (go_at_call 8; ((with_reducible refine (alive_any _).mono ?_)); rintro e w' ⟨rfl, hB'⟩; have hB := hB.trans (hB'.mono hB.size); clear hB'))
  go_ret
  exact ⟨rfl, hB⟩

set_option maxRecDepth 100000 in
set_option maxHeartbeats 4000000 in
theorem row_pzp (a b c : ByteArray) (w : World) (hsz : ∀ s ∈ [a, b, c], s.size ≤ maxLen) (hcells : ∀ i, i < 3 → (w.alloc (.cells #[.string a, .string b, .string c] 9)).cell? ⟨w.heap.size, i, none⟩ = some (.string ([a, b, c].getD i ByteArray.empty))) (hB0 : Below w.heap.size w (w.alloc (.cells #[.string a, .string b, .string c] 9))) (ha : a.size ≤ 1024) (hb : b.size ≤ 1024) (hc : c.size ≤ 1024) (HL : Hid (([a, b, c].any fun s => decide (1024 < s.size)) = false)) (HCA : Hid (checkV a = 0)) (HCB : Hid (checkV b = 0)) (HCC : Hid (checkV c = 0)) (hab : (a.toList == b.toList) = false) (HX : Hid (orderV a b = 1)) (HY : Hid (orderV b c = 0)) (HZ : Hid (orderV a c = 1)) (HN : Hid (orderV b a = (-1))) :
    Calls Try.prog 6 #[.string a, .string b, .string c] w fun e w' => e = .returned (.bool true) ∧ Below w.heap.size w w' := by
  go_enter Try.func6, Try.ntmps6
  have hB := hB0
  go_wp2_with (first | (go_at_call 7; refine (long_any [a, b, c] _ w.heap.size 3 (by simp) hsz (by exact hcells)).mono ?_; rw [HL.out]; rintro e w1 ⟨rfl, rfl⟩) | (go_at_call 11; ((with_reducible refine (check_is a 0 _ ha HCA.out).mono ?_)); rintro e w' ⟨rfl, hB'⟩; have hB := hB.trans (hB'.mono hB.size); clear hB') | (go_at_call 11; ((with_reducible refine (check_is b 0 _ hb HCB.out).mono ?_)); rintro e w' ⟨rfl, hB'⟩; have hB := hB.trans (hB'.mono hB.size); clear hB') | (go_at_call 11; ((with_reducible refine (check_is c 0 _ hc HCC.out).mono ?_)); rintro e w' ⟨rfl, hB'⟩; have hB := hB.trans (hB'.mono hB.size); clear hB') | (go_at_call 19; ((with_reducible refine (order_is a b 1 _ ha hb HX.out).mono ?_)); rintro e w' ⟨rfl, hB'⟩; have hB := hB.trans (hB'.mono hB.size); clear hB') | (go_at_call 19; ((with_reducible refine (order_is b c 0 _ hb hc HY.out).mono ?_)); rintro e w' ⟨rfl, hB'⟩; have hB := hB.trans (hB'.mono hB.size); clear hB') | (go_at_call 19; ((with_reducible refine (order_is a c 1 _ ha hc HZ.out).mono ?_)); rintro e w' ⟨rfl, hB'⟩; have hB := hB.trans (hB'.mono hB.size); clear hB') | (go_at_call 19; ((with_reducible refine (order_is b a (-1) _ hb ha HN.out).mono ?_)); rintro e w' ⟨rfl, hB'⟩; have hB := hB.trans (hB'.mono hB.size); clear hB') | (go_at_call 8; ((with_reducible refine (alive_any _).mono ?_)); rintro e w' ⟨rfl, hB'⟩; have hB := hB.trans (hB'.mono hB.size); clear hB'))
  go_ret
  exact ⟨rfl, hB⟩

set_option maxRecDepth 100000 in
set_option maxHeartbeats 4000000 in
theorem row_ppm (a b c : ByteArray) (w : World) (hsz : ∀ s ∈ [a, b, c], s.size ≤ maxLen) (hcells : ∀ i, i < 3 → (w.alloc (.cells #[.string a, .string b, .string c] 9)).cell? ⟨w.heap.size, i, none⟩ = some (.string ([a, b, c].getD i ByteArray.empty))) (hB0 : Below w.heap.size w (w.alloc (.cells #[.string a, .string b, .string c] 9))) (ha : a.size ≤ 1024) (hb : b.size ≤ 1024) (hc : c.size ≤ 1024) (HL : Hid (([a, b, c].any fun s => decide (1024 < s.size)) = false)) (HCA : Hid (checkV a = 0)) (HCB : Hid (checkV b = 0)) (HCC : Hid (checkV c = 0)) (hab : (a.toList == b.toList) = false) (HX : Hid (orderV a b = 1)) (HY : Hid (orderV b c = 1)) (HZ : Hid (orderV a c = (-1))) (HN : Hid (orderV b a = (-1))) :
    Calls Try.prog 6 #[.string a, .string b, .string c] w fun e w' => e = .returned (.bool true) ∧ Below w.heap.size w w' := by
  go_enter Try.func6, Try.ntmps6
  have hB := hB0
  go_wp2_with (first | (go_at_call 7; refine (long_any [a, b, c] _ w.heap.size 3 (by simp) hsz (by exact hcells)).mono ?_; rw [HL.out]; rintro e w1 ⟨rfl, rfl⟩) | (go_at_call 11; ((with_reducible refine (check_is a 0 _ ha HCA.out).mono ?_)); rintro e w' ⟨rfl, hB'⟩; have hB := hB.trans (hB'.mono hB.size); clear hB') | (go_at_call 11; ((with_reducible refine (check_is b 0 _ hb HCB.out).mono ?_)); rintro e w' ⟨rfl, hB'⟩; have hB := hB.trans (hB'.mono hB.size); clear hB') | (go_at_call 11; ((with_reducible refine (check_is c 0 _ hc HCC.out).mono ?_)); rintro e w' ⟨rfl, hB'⟩; have hB := hB.trans (hB'.mono hB.size); clear hB') | (go_at_call 19; ((with_reducible refine (order_is a b 1 _ ha hb HX.out).mono ?_)); rintro e w' ⟨rfl, hB'⟩; have hB := hB.trans (hB'.mono hB.size); clear hB') | (go_at_call 19; ((with_reducible refine (order_is b c 1 _ hb hc HY.out).mono ?_)); rintro e w' ⟨rfl, hB'⟩; have hB := hB.trans (hB'.mono hB.size); clear hB') | (go_at_call 19; ((with_reducible refine (order_is a c (-1) _ ha hc HZ.out).mono ?_)); rintro e w' ⟨rfl, hB'⟩; have hB := hB.trans (hB'.mono hB.size); clear hB') | (go_at_call 19; ((with_reducible refine (order_is b a (-1) _ hb ha HN.out).mono ?_)); rintro e w' ⟨rfl, hB'⟩; have hB := hB.trans (hB'.mono hB.size); clear hB') | (go_at_call 8; ((with_reducible refine (alive_any _).mono ?_)); rintro e w' ⟨rfl, hB'⟩; have hB := hB.trans (hB'.mono hB.size); clear hB'))
  go_ret
  exact ⟨rfl, hB⟩

set_option maxRecDepth 100000 in
set_option maxHeartbeats 4000000 in
theorem row_ppz (a b c : ByteArray) (w : World) (hsz : ∀ s ∈ [a, b, c], s.size ≤ maxLen) (hcells : ∀ i, i < 3 → (w.alloc (.cells #[.string a, .string b, .string c] 9)).cell? ⟨w.heap.size, i, none⟩ = some (.string ([a, b, c].getD i ByteArray.empty))) (hB0 : Below w.heap.size w (w.alloc (.cells #[.string a, .string b, .string c] 9))) (ha : a.size ≤ 1024) (hb : b.size ≤ 1024) (hc : c.size ≤ 1024) (HL : Hid (([a, b, c].any fun s => decide (1024 < s.size)) = false)) (HCA : Hid (checkV a = 0)) (HCB : Hid (checkV b = 0)) (HCC : Hid (checkV c = 0)) (hab : (a.toList == b.toList) = false) (HX : Hid (orderV a b = 1)) (HY : Hid (orderV b c = 1)) (HZ : Hid (orderV a c = 0)) (HN : Hid (orderV b a = (-1))) :
    Calls Try.prog 6 #[.string a, .string b, .string c] w fun e w' => e = .returned (.bool true) ∧ Below w.heap.size w w' := by
  go_enter Try.func6, Try.ntmps6
  have hB := hB0
  go_wp2_with (first | (go_at_call 7; refine (long_any [a, b, c] _ w.heap.size 3 (by simp) hsz (by exact hcells)).mono ?_; rw [HL.out]; rintro e w1 ⟨rfl, rfl⟩) | (go_at_call 11; ((with_reducible refine (check_is a 0 _ ha HCA.out).mono ?_)); rintro e w' ⟨rfl, hB'⟩; have hB := hB.trans (hB'.mono hB.size); clear hB') | (go_at_call 11; ((with_reducible refine (check_is b 0 _ hb HCB.out).mono ?_)); rintro e w' ⟨rfl, hB'⟩; have hB := hB.trans (hB'.mono hB.size); clear hB') | (go_at_call 11; ((with_reducible refine (check_is c 0 _ hc HCC.out).mono ?_)); rintro e w' ⟨rfl, hB'⟩; have hB := hB.trans (hB'.mono hB.size); clear hB') | (go_at_call 19; ((with_reducible refine (order_is a b 1 _ ha hb HX.out).mono ?_)); rintro e w' ⟨rfl, hB'⟩; have hB := hB.trans (hB'.mono hB.size); clear hB') | (go_at_call 19; ((with_reducible refine (order_is b c 1 _ hb hc HY.out).mono ?_)); rintro e w' ⟨rfl, hB'⟩; have hB := hB.trans (hB'.mono hB.size); clear hB') | (go_at_call 19; ((with_reducible refine (order_is a c 0 _ ha hc HZ.out).mono ?_)); rintro e w' ⟨rfl, hB'⟩; have hB := hB.trans (hB'.mono hB.size); clear hB') | (go_at_call 19; ((with_reducible refine (order_is b a (-1) _ hb ha HN.out).mono ?_)); rintro e w' ⟨rfl, hB'⟩; have hB := hB.trans (hB'.mono hB.size); clear hB') | (go_at_call 8; ((with_reducible refine (alive_any _).mono ?_)); rintro e w' ⟨rfl, hB'⟩; have hB := hB.trans (hB'.mono hB.size); clear hB'))
  go_ret
  exact ⟨rfl, hB⟩

set_option maxRecDepth 100000 in
set_option maxHeartbeats 4000000 in
theorem row_ppp (a b c : ByteArray) (w : World) (hsz : ∀ s ∈ [a, b, c], s.size ≤ maxLen) (hcells : ∀ i, i < 3 → (w.alloc (.cells #[.string a, .string b, .string c] 9)).cell? ⟨w.heap.size, i, none⟩ = some (.string ([a, b, c].getD i ByteArray.empty))) (hB0 : Below w.heap.size w (w.alloc (.cells #[.string a, .string b, .string c] 9))) (ha : a.size ≤ 1024) (hb : b.size ≤ 1024) (hc : c.size ≤ 1024) (HL : Hid (([a, b, c].any fun s => decide (1024 < s.size)) = false)) (HCA : Hid (checkV a = 0)) (HCB : Hid (checkV b = 0)) (HCC : Hid (checkV c = 0)) (hab : (a.toList == b.toList) = false) (HX : Hid (orderV a b = 1)) (HY : Hid (orderV b c = 1)) (HZ : Hid (orderV a c = 1)) (HN : Hid (orderV b a = (-1))) :
    Calls Try.prog 6 #[.string a, .string b, .string c] w fun e w' => e = .returned (.bool true) ∧ Below w.heap.size w w' := by
  go_enter Try.func6, Try.ntmps6
  have hB := hB0
  go_wp2_with (first | (go_at_call 7; refine (long_any [a, b, c] _ w.heap.size 3 (by simp) hsz (by exact hcells)).mono ?_; rw [HL.out]; rintro e w1 ⟨rfl, rfl⟩) | (go_at_call 11; ((with_reducible refine (check_is a 0 _ ha HCA.out).mono ?_)); rintro e w' ⟨rfl, hB'⟩; have hB := hB.trans (hB'.mono hB.size); clear hB') | (go_at_call 11; ((with_reducible refine (check_is b 0 _ hb HCB.out).mono ?_)); rintro e w' ⟨rfl, hB'⟩; have hB := hB.trans (hB'.mono hB.size); clear hB') | (go_at_call 11; ((with_reducible refine (check_is c 0 _ hc HCC.out).mono ?_)); rintro e w' ⟨rfl, hB'⟩; have hB := hB.trans (hB'.mono hB.size); clear hB') | (go_at_call 19; ((with_reducible refine (order_is a b 1 _ ha hb HX.out).mono ?_)); rintro e w' ⟨rfl, hB'⟩; have hB := hB.trans (hB'.mono hB.size); clear hB') | (go_at_call 19; ((with_reducible refine (order_is b c 1 _ hb hc HY.out).mono ?_)); rintro e w' ⟨rfl, hB'⟩; have hB := hB.trans (hB'.mono hB.size); clear hB') | (go_at_call 19; ((with_reducible refine (order_is a c 1 _ ha hc HZ.out).mono ?_)); rintro e w' ⟨rfl, hB'⟩; have hB := hB.trans (hB'.mono hB.size); clear hB') | (go_at_call 19; ((with_reducible refine (order_is b a (-1) _ hb ha HN.out).mono ?_)); rintro e w' ⟨rfl, hB'⟩; have hB := hB.trans (hB'.mono hB.size); clear hB') | (go_at_call 8; ((with_reducible refine (alive_any _).mono ?_)); rintro e w' ⟨rfl, hB'⟩; have hB := hB.trans (hB'.mono hB.size); clear hB'))
  go_ret
  exact ⟨rfl, hB⟩

set_option maxRecDepth 100000 in
set_option maxHeartbeats 4000000 in
theorem nrow_any (a b c : ByteArray) (w : World) (za : a.size ≤ maxLen) (zb : b.size ≤ maxLen) (zc : c.size ≤ maxLen) :
    Calls Try.prog 6 #[.string a, .string b, .string c] w fun e w' => e = .returned (.bool true) ∧ Below w.heap.size w w' := by
  have hcells : ∀ i, i < 3 → (w.alloc (.cells #[.string a, .string b, .string c] 9)).cell? ⟨w.heap.size, i, none⟩ = some (.string ([a, b, c].getD i ByteArray.empty)) := fun i hi => by
    refine (cell_of_row _ _ i _ _ _ (heap_alloc_new w _)).trans ?_
    match i, hi with
    | 0, _ | 1, _ | 2, _ => rfl
  have hsz : ∀ s ∈ [a, b, c], s.size ≤ maxLen := by
    intro s hs
    simp at hs
    rcases hs with rfl | rfl | rfl <;> assumption
  have hB0 : Below w.heap.size w (w.alloc (.cells #[.string a, .string b, .string c] 9)) := (Below.refl _ _).alloc (Nat.le_refl _) _
  by_cases hlong : 1024 < a.size ∨ 1024 < b.size ∨ 1024 < c.size
  · have HL := Lib.hid (show ([a, b, c].any fun s => decide (1024 < s.size)) = true by simpa using hlong)
    clear hlong
    go_enter Try.func6, Try.ntmps6
    have hB := hB0
    go_wp2_with (first | (go_at_call 7; refine (long_any [a, b, c] _ w.heap.size 3 (by simp) hsz (by exact hcells)).mono ?_; rw [HL.out]; rintro e w1 ⟨rfl, rfl⟩) | (go_at_call 8; ((with_reducible refine (alive_any _).mono ?_)); rintro e w' ⟨rfl, hB'⟩; have hB := hB.trans (hB'.mono hB.size); clear hB'))
    go_ret
    exact ⟨rfl, hB⟩
  · have HL := Lib.hid (show ([a, b, c].any fun s => decide (1024 < s.size)) = false by simp; omega)
    have ha : a.size ≤ 1024 := by omega
    have hb : b.size ≤ 1024 := by omega
    have hc : c.size ≤ 1024 := by omega
    clear hlong za zb zc
    by_cases h1 : checkV a = 0
    · have HCA := Lib.hid h1
      by_cases h2 : checkV b = 0
      · have HCB := Lib.hid h2
        by_cases h3 : checkV c = 0
        · have HCC := Lib.hid h3
          have HN := order_neg a b
          have hle := order_le h1 h2 h3
          have hlt := order_trans h1 h2 h3
          have hmid := order_mid h1 h2 h3
          have hze := order_zero h1 h2
          have hab : (a.toList == b.toList) = decide (orderV a b = 0) := by
            rw [Bool.eq_iff_iff, beq_iff_eq, toList_inj, decide_eq_true_eq, hze]
          rcases order_bd a b with HX | HX | HX <;> rcases order_bd b c with HY | HY | HY <;> rcases order_bd a c with HZ | HZ | HZ <;> rw [HX] at HN hle hlt hmid hab <;> rw [HY] at hle hlt hmid <;> rw [HZ] at hle hlt
          · by_cases hcl : clashV a c = true
            · have hm := hmid (by omega) (by omega) hcl
              exact row_mmm_t a b c w hsz hcells hB0 ha hb hc HL HCA HCB HCC (hab.trans (by decide)) (Lib.hid HX) (Lib.hid HY) (Lib.hid HZ) (Lib.hid (HN.trans (by decide))) (Lib.hid hcl) (Lib.hid hm.1) (Lib.hid hm.2)
            · exact row_mmm_f a b c w hsz hcells hB0 ha hb hc HL HCA HCB HCC (hab.trans (by decide)) (Lib.hid HX) (Lib.hid HY) (Lib.hid HZ) (Lib.hid (HN.trans (by decide))) (Lib.hid (by simpa using hcl))
          · exfalso; have := hlt (by omega) (by omega); omega
          · exfalso; have := hle (by omega) (by omega); omega
          · exact row_mzm a b c w hsz hcells hB0 ha hb hc HL HCA HCB HCC (hab.trans (by decide)) (Lib.hid HX) (Lib.hid HY) (Lib.hid HZ) (Lib.hid (HN.trans (by decide)))
          · exact row_mzz a b c w hsz hcells hB0 ha hb hc HL HCA HCB HCC (hab.trans (by decide)) (Lib.hid HX) (Lib.hid HY) (Lib.hid HZ) (Lib.hid (HN.trans (by decide)))
          · exfalso; have := hle (by omega) (by omega); omega
          · exact row_mpm a b c w hsz hcells hB0 ha hb hc HL HCA HCB HCC (hab.trans (by decide)) (Lib.hid HX) (Lib.hid HY) (Lib.hid HZ) (Lib.hid (HN.trans (by decide)))
          · exact row_mpz a b c w hsz hcells hB0 ha hb hc HL HCA HCB HCC (hab.trans (by decide)) (Lib.hid HX) (Lib.hid HY) (Lib.hid HZ) (Lib.hid (HN.trans (by decide)))
          · exact row_mpp a b c w hsz hcells hB0 ha hb hc HL HCA HCB HCC (hab.trans (by decide)) (Lib.hid HX) (Lib.hid HY) (Lib.hid HZ) (Lib.hid (HN.trans (by decide)))
          · exact row_zmm a b c w hsz hcells hB0 ha hb hc HL HCA HCB HCC (hab.trans (by decide)) (Lib.hid HX) (Lib.hid HY) (Lib.hid HZ) (Lib.hid (HN.trans (by decide)))
          · exact row_zmz a b c w hsz hcells hB0 ha hb hc HL HCA HCB HCC (hab.trans (by decide)) (Lib.hid HX) (Lib.hid HY) (Lib.hid HZ) (Lib.hid (HN.trans (by decide)))
          · exfalso; have := hle (by omega) (by omega); omega
          · exact row_zzm a b c w hsz hcells hB0 ha hb hc HL HCA HCB HCC (hab.trans (by decide)) (Lib.hid HX) (Lib.hid HY) (Lib.hid HZ) (Lib.hid (HN.trans (by decide)))
          · exact row_zzz a b c w hsz hcells hB0 ha hb hc HL HCA HCB HCC (hab.trans (by decide)) (Lib.hid HX) (Lib.hid HY) (Lib.hid HZ) (Lib.hid (HN.trans (by decide)))
          · exfalso; have := hle (by omega) (by omega); omega
          · exact row_zpm a b c w hsz hcells hB0 ha hb hc HL HCA HCB HCC (hab.trans (by decide)) (Lib.hid HX) (Lib.hid HY) (Lib.hid HZ) (Lib.hid (HN.trans (by decide)))
          · exact row_zpz a b c w hsz hcells hB0 ha hb hc HL HCA HCB HCC (hab.trans (by decide)) (Lib.hid HX) (Lib.hid HY) (Lib.hid HZ) (Lib.hid (HN.trans (by decide)))
          · exact row_zpp a b c w hsz hcells hB0 ha hb hc HL HCA HCB HCC (hab.trans (by decide)) (Lib.hid HX) (Lib.hid HY) (Lib.hid HZ) (Lib.hid (HN.trans (by decide)))
          · exact row_pmm a b c w hsz hcells hB0 ha hb hc HL HCA HCB HCC (hab.trans (by decide)) (Lib.hid HX) (Lib.hid HY) (Lib.hid HZ) (Lib.hid (HN.trans (by decide)))
          · exact row_pmz a b c w hsz hcells hB0 ha hb hc HL HCA HCB HCC (hab.trans (by decide)) (Lib.hid HX) (Lib.hid HY) (Lib.hid HZ) (Lib.hid (HN.trans (by decide)))
          · exact row_pmp a b c w hsz hcells hB0 ha hb hc HL HCA HCB HCC (hab.trans (by decide)) (Lib.hid HX) (Lib.hid HY) (Lib.hid HZ) (Lib.hid (HN.trans (by decide)))
          · exact row_pzm a b c w hsz hcells hB0 ha hb hc HL HCA HCB HCC (hab.trans (by decide)) (Lib.hid HX) (Lib.hid HY) (Lib.hid HZ) (Lib.hid (HN.trans (by decide)))
          · exact row_pzz a b c w hsz hcells hB0 ha hb hc HL HCA HCB HCC (hab.trans (by decide)) (Lib.hid HX) (Lib.hid HY) (Lib.hid HZ) (Lib.hid (HN.trans (by decide)))
          · exact row_pzp a b c w hsz hcells hB0 ha hb hc HL HCA HCB HCC (hab.trans (by decide)) (Lib.hid HX) (Lib.hid HY) (Lib.hid HZ) (Lib.hid (HN.trans (by decide)))
          · exact row_ppm a b c w hsz hcells hB0 ha hb hc HL HCA HCB HCC (hab.trans (by decide)) (Lib.hid HX) (Lib.hid HY) (Lib.hid HZ) (Lib.hid (HN.trans (by decide)))
          · exact row_ppz a b c w hsz hcells hB0 ha hb hc HL HCA HCB HCC (hab.trans (by decide)) (Lib.hid HX) (Lib.hid HY) (Lib.hid HZ) (Lib.hid (HN.trans (by decide)))
          · exact row_ppp a b c w hsz hcells hB0 ha hb hc HL HCA HCB HCC (hab.trans (by decide)) (Lib.hid HX) (Lib.hid HY) (Lib.hid HZ) (Lib.hid (HN.trans (by decide)))
        · obtain ⟨v, hv⟩ : ∃ v, checkV c = v := ⟨_, rfl⟩
          rw [hv] at h3
          have h3' : (v != 0) = true := by simpa using h3
          have HCC := Lib.hid hv
          clear h1 h2 h3 hv
          go_enter Try.func6, Try.ntmps6
          have hB := hB0
          go_wp2_with (first | (go_at_call 7; refine (long_any [a, b, c] _ w.heap.size 3 (by simp) hsz (by exact hcells)).mono ?_; rw [HL.out]; rintro e w1 ⟨rfl, rfl⟩) | (go_at_call 11; ((with_reducible refine (check_is a 0 _ ha HCA.out).mono ?_)); rintro e w' ⟨rfl, hB'⟩; have hB := hB.trans (hB'.mono hB.size); clear hB') | (go_at_call 11; ((with_reducible refine (check_is b 0 _ hb HCB.out).mono ?_)); rintro e w' ⟨rfl, hB'⟩; have hB := hB.trans (hB'.mono hB.size); clear hB') | (go_at_call 11; ((with_reducible refine (check_is c v _ hc HCC.out).mono ?_)); rintro e w' ⟨rfl, hB'⟩; have hB := hB.trans (hB'.mono hB.size); clear hB') | (go_at_call 8; ((with_reducible refine (alive_any _).mono ?_)); rintro e w' ⟨rfl, hB'⟩; have hB := hB.trans (hB'.mono hB.size); clear hB'))
          go_ret
          exact ⟨rfl, hB⟩
      · obtain ⟨v, hv⟩ : ∃ v, checkV b = v := ⟨_, rfl⟩
        rw [hv] at h2
        have h2' : (v != 0) = true := by simpa using h2
        have HCB := Lib.hid hv
        clear h1 h2 hv
        go_enter Try.func6, Try.ntmps6
        have hB := hB0
        go_wp2_with (first | (go_at_call 7; refine (long_any [a, b, c] _ w.heap.size 3 (by simp) hsz (by exact hcells)).mono ?_; rw [HL.out]; rintro e w1 ⟨rfl, rfl⟩) | (go_at_call 11; ((with_reducible refine (check_is a 0 _ ha HCA.out).mono ?_)); rintro e w' ⟨rfl, hB'⟩; have hB := hB.trans (hB'.mono hB.size); clear hB') | (go_at_call 11; ((with_reducible refine (check_is b v _ hb HCB.out).mono ?_)); rintro e w' ⟨rfl, hB'⟩; have hB := hB.trans (hB'.mono hB.size); clear hB') | (go_at_call 8; ((with_reducible refine (alive_any _).mono ?_)); rintro e w' ⟨rfl, hB'⟩; have hB := hB.trans (hB'.mono hB.size); clear hB'))
        go_ret
        exact ⟨rfl, hB⟩
    · have HO := Lib.hid (order_off (b := b) h1)
      obtain ⟨v, hv⟩ : ∃ v, checkV a = v := ⟨_, rfl⟩
      rw [hv] at h1
      have h1' : (v != 0) = true := by simpa using h1
      have h1'' : (v == 0) = false := by simpa using h1
      have HCA := Lib.hid hv
      clear h1 hv
      go_enter Try.func6, Try.ntmps6
      have hB := hB0
      go_wp2_with (first | (go_at_call 7; refine (long_any [a, b, c] _ w.heap.size 3 (by simp) hsz (by exact hcells)).mono ?_; rw [HL.out]; rintro e w1 ⟨rfl, rfl⟩) | (go_at_call 11; ((with_reducible refine (check_is a v _ ha HCA.out).mono ?_)); rintro e w' ⟨rfl, hB'⟩; have hB := hB.trans (hB'.mono hB.size); clear hB') | (go_at_call 19; ((with_reducible refine (order_is a b 0 _ ha hb HO.out).mono ?_)); rintro e w' ⟨rfl, hB'⟩; have hB := hB.trans (hB'.mono hB.size); clear hB') | (go_at_call 8; ((with_reducible refine (alive_any _).mono ?_)); rintro e w' ⟨rfl, hB'⟩; have hB := hB.trans (hB'.mono hB.size); clear hB'))
      go_ret
      exact ⟨rfl, hB⟩
end Go.Proofs.Ytflbbpmlcllamaa
