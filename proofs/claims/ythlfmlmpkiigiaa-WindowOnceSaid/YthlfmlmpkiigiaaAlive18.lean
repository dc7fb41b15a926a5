/- The chapter's example, as the law asks it: alive answers true. -/
import Derived.Test.YthlfmlmpkiigiaaWinL
import Derived.Test.YthlfmlmpkiigiaaInts
import Derived.Deep.DeepFit
import Derived.Deep.RegionHeld3
namespace Go.Proofs.Ythlfmlmpkiigiaa
open Go.RowKit

def aN : Nat → Int | 0 => 3 | 1 => 1 | 2 => 3 | 3 => 70 | 4 => 6 | _ => 7
def aE : Nat → Int | 0 => 0 | 1 => 0 | 2 => 9 | 3 => 0 | 4 => 180 | _ => 0
def aT : Nat → Int | 0 => 0 | 1 => 3 | 2 => 3 | 3 => 3 | _ => 70
def aG : Nat → Int | 0 => 0 | 1 => 1 | 2 => 5 | 3 => 5 | 4 => 1 | 5 => 1 | _ => 9223372036854775809

theorem a_step : ∀ k, k < 6 → mayV (aT k) (aG k) (aN k) = aE k ∧ nxtT (aT k) (aG k) (aN k) = aT (k + 1) ∧ nxtG (aT k) (aG k) (aN k) = aG (k + 1) := by decide +kernel
theorem a_list : winList (aT 6) (aG 6) = [7, 70] := by decide +kernel
theorem a_bd (k : Nat) : 0 ≤ aT k ∧ aT k ≤ 70 ∧ 1 ≤ aN k ∧ aN k ≤ 70 := by
  match k with
  | 0 | 1 | 2 | 3 | 4 | k + 5 => simp [aT, aN]
theorem a_zero (k : Nat) : aT k = 0 → aG k = 0 := by
  match k with
  | 0 | 1 | 2 | 3 | 4 | k + 5 => simp [aT, aG]

theorem a_cells {w : World} {b : Nat} {cs : Array Value} {t : TypeId} (f : Nat → Int) (h : w.heap[b]? = some (.cells cs t (0, 0))) (hf : ∀ k, k < 6 → cs[k]? = some (.int .i64 (f k))) : ∀ k, k < 6 → w.cell? ⟨b, k, none⟩ = some (.int .i64 (f k)) :=
  fun k hk => (cell_of_row w b k cs t (0, 0) h).trans (hf k hk)

theorem heap_alloc_at (w : World) (o : Obj) (n : Nat) (h : n = w.heap.size) : (w.alloc o).heap[n]? = some o := by subst h; exact heap_alloc_new w o

theorem Below.drewN0 (B : Nat) (w : World) (q : Nat) : Below B w (w.drewN q) := ⟨rfl, rfl, rfl, Nat.le_refl _, fun _ _ => rfl⟩

set_option maxHeartbeats 1000000 in
theorem alive_any (w : World) : Calls Try.prog 4 #[] w fun e w' => e = .returned (.bool true) ∧ Below w.heap.size w w' := by
  go_enter Try.func4, Try.ntmps4
  go_wp2_with (go_at_call 5; refine (new_any _).mono ?_; rintro e w' ⟨rfl, rfl⟩)
  go_loopw [11] (fun i wr => ∃ k : Nat, k ≤ 6 ∧ i = .int .i64 k ∧ Win wr w.heap.size (aT k) (aG k) ∧
      (∀ j, j < 6 → wr.cell? ⟨w.heap.size + 1, j, none⟩ = some (.int .i64 (aE j))) ∧ (∀ j, j < 6 → wr.cell? ⟨w.heap.size + 1 + 1, j, none⟩ = some (.int .i64 (aN j))) ∧ Below w.heap.size w wr)
    (fun i _ => 6 - (intOf i).toNat)
  case atStart =>
    have hB1 : Below (w.heap.size + 1) (w.alloc (.cells #[.int .i64 0, .int .u64 0] 38)) (((w.alloc (.cells #[.int .i64 0, .int .u64 0] 38)).alloc (.cells #[.int .i64 0, .int .i64 0, .int .i64 9, .int .i64 0, .int .i64 180, .int .i64 0] 28)).alloc (.cells #[.int .i64 3, .int .i64 1, .int .i64 3, .int .i64 70, .int .i64 6, .int .i64 7] 3)) := ((Below.refl _ _).alloc (by simp) _).alloc (by simp) _
    refine ⟨0, by omega, rfl, (hB1.block _ (by omega)).trans (Win.new w), ?_, ?_, ?_⟩
    · refine a_cells (cs := #[.int .i64 0, .int .i64 0, .int .i64 9, .int .i64 0, .int .i64 180, .int .i64 0]) (t := 28) aE ?_ ?_
      · rw [heap_alloc_old _ _ _ (by simp)]
        exact heap_alloc_at _ _ _ (by simp)
      · intro k hk
        match k, hk with
        | 0, _ | 1, _ | 2, _ | 3, _ | 4, _ | 5, _ => rfl
    · refine a_cells (cs := #[.int .i64 3, .int .i64 1, .int .i64 3, .int .i64 70, .int .i64 6, .int .i64 7]) (t := 3) aN ?_ ?_
      · exact heap_alloc_at _ _ _ (by simp)
      · intro k hk
        match k, hk with
        | 0, _ | 1, _ | 2, _ | 3, _ | 4, _ | 5, _ => rfl
    · exact (((Below.refl _ _).alloc (Nat.le_refl _) _).alloc (by simp) _).alloc (by simp; omega) _
  case round =>
    obtain ⟨k, hk, rfl, hw, hE, hN, hB⟩ := hrel
    by_cases hlt : k < 6
    · obtain ⟨s1, s2, s3⟩ := a_step k hlt
      obtain ⟨b1, b2, b3, b4⟩ := a_bd k
      have hn := hN k hlt
      have he := hE k hlt
      have hb2 : aT k ≤ 65535 := by omega
      have hb3 : -9223372036854775808 ≤ aN k ∧ aN k ≤ 9223372036854775807 := by omega
      have S1 := Lib.hid s1
      clear s1
      go_wp2
      go_region_held3 (fun w' => w'.cell? ⟨w.heap.size + 1, k, none⟩ = some (.int .i64 (aE k))) (first | exact he | exact (hg1.cell he (by simp))) (first | (go_at_call 7; refine (take_any w.heap.size (aT k) (aG k) (aN k) _ (by exact hw) b1 hb2 hb3).mono ?_; rintro e w' ⟨rfl, hw1, hg1⟩))
      rw [S1.out]
      go_wp2
      rw [s2, s3] at hw1
      exact ⟨⟨k + 1, by omega, by go_num, hw1, fun j hj => hg1.cell (hE j hj) (by simp), fun j hj => hg1.cell (hN j hj) (by simp; omega), hB.drew.grown hg1 hB.size (fun k e => by cases e; omega)⟩, by simp [intOf]; omega⟩
    · obtain rfl : k = 6 := by omega
      have hc := hw.cell0
      have ht : aT 6 = 70 := rfl
      rw [ht] at hc
      go_wp2_with (first | (go_at_call 6; refine (top_any _ _ _ (by exact hc)).mono ?_; rintro e w' ⟨rfl, rfl⟩) | (go_at_call 9; refine (list_any _ (aT 6) (aG 6) (by decide) (by decide) (a_zero 6) _ (by exact hw)).mono ?_; rw [a_list]; rintro e w' ⟨v, rfl, hv, hB2⟩))
      have hu : Ints (w'.alloc (.cells #[.int .i64 7, .int .i64 70] 3)) (.slice (some ⟨w'.heap.size, 0, none⟩) 2 2) [7, 70] :=
        ⟨_, 2, rfl, by decide, fun _ => ⟨_, 0, rfl, fun i hi => by
          refine (cell_of_row _ _ (0 + i) _ _ _ (heap_alloc_new w' _)).trans ?_
          match i, hi with
          | 0, _ | 1, _ => rfl⟩⟩
      go_wp2_with (go_at_call 8; refine (sameInts_yes [7, 70] _ _ _ (Ints.of_owns (hv.alloc _)) hu).mono ?_; rintro e w'' ⟨rfl, q, rfl⟩)
      go_ret
      exact ⟨rfl, ((hB.trans (hB2.mono hB.size)).alloc (Nat.le_trans hB.size hB2.size) _).trans (Below.drewN0 _ _ _)⟩
end Go.Proofs.Ythlfmlmpkiigiaa
