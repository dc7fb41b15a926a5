/- The walk of NameTells. -/
import Derived.Test.YtflbbpmlcllamaaRefS
namespace Go.Proofs.Ytflbbpmlcllamaa
open Go.RowKit Go.Lib Go.Maps

theorem nscript_is (s : ByteArray) (k : Int) (w : World) (hs : s.size ≤ 1024) (h : scriptV s = k) : Calls Try.prog 13 #[.string s] w fun e w' => e = .returned (.int .u8 k) ∧ Below w.heap.size w w' := h ▸ script_any s w hs
theorem rscr_is (s : ByteArray) (k : Int) (w : World) (hs : s.size ≤ 1024) (h : scriptV s = k) : Calls Try.prog 14 #[.string s] w fun e w' => e = .returned (.int .u8 k) ∧ Below w.heap.size w w' := h ▸ rScript_any s w hs
theorem rlook_is (r v : Int) (w : World) (h : lookV r = v) : Calls Try.prog 16 #[.int .i32 r] w fun e w' => e = .returned (.int .i32 v) ∧ w = w' := h ▸ rLook_any r w

set_option maxRecDepth 100000 in
set_option maxHeartbeats 4000000 in
theorem ntells_any (s : ByteArray) (r : Int) (w : World) (zs : s.size ≤ maxLen) (hr : -2147483648 ≤ r ∧ r ≤ 2147483647) :
    Calls Try.prog 3 #[.string s, .int .i32 r] w fun e w' => e = .returned (.bool true) ∧ Below w.heap.size w w' := by
  have hcells : ∀ i, i < 1 → (w.alloc (.cells #[.string s] 9)).cell? ⟨w.heap.size, i, none⟩ = some (.string ([s].getD i ByteArray.empty)) := fun i hi => by
    refine (cell_of_row _ _ i _ _ _ (heap_alloc_new w _)).trans ?_
    match i, hi with
    | 0, _ => rfl
  have hsz : ∀ t ∈ [s], t.size ≤ maxLen := by
    intro t ht
    simp at ht
    subst ht; exact zs
  have hB0 : Below w.heap.size w (w.alloc (.cells #[.string s] 9)) := (Below.refl _ _).alloc (Nat.le_refl _) _
  by_cases hlong : 1024 < s.size
  · have HL := Lib.hid (show ([s].any fun s => decide (1024 < s.size)) = true by simpa using hlong)
    clear hlong
    go_enter Try.func3, Try.ntmps3
    have hB := hB0
    go_wp2_with (first | (go_at_call 7; refine (long_any [s] _ w.heap.size 1 (by simp) hsz (by exact hcells)).mono ?_; rw [HL.out]; rintro e w1 ⟨rfl, rfl⟩) | (go_at_call 8; ((with_reducible refine (alive_any _).mono ?_)); rintro e w' ⟨rfl, hB'⟩; have hB := hB.trans (hB'.mono hB.size); clear hB'))
    go_ret
    exact ⟨rfl, hB⟩
  · have HL := Lib.hid (show ([s].any fun s => decide (1024 < s.size)) = false by simp; omega)
    have hs : s.size ≤ 1024 := by omega
    clear hlong zs
    obtain ⟨v, hv⟩ : ∃ v, checkV s = v := ⟨_, rfl⟩
    obtain ⟨k, hk⟩ : ∃ v, scriptV s = v := ⟨_, rfl⟩
    obtain ⟨x, hx⟩ : ∃ v, skS s = v := ⟨_, rfl⟩
    obtain ⟨lk, hlk⟩ : ∃ v, lookV r = v := ⟨_, rfl⟩
    have HV := Lib.hid hv
    have HK := Lib.hid hk
    have HX := Lib.hid hx
    have HLK := Lib.hid hlk
    clear hv hk hx hlk
    go_enter Try.func3, Try.ntmps3
    have hB := hB0
    go_wp2_with (first | (go_at_call 7; refine (long_any [s] _ w.heap.size 1 (by simp) hsz (by exact hcells)).mono ?_; rw [HL.out]; rintro e w1 ⟨rfl, rfl⟩) | (go_at_call 9; ((with_reducible refine (skel_is s x v _ hs HX.out HV.out).mono ?_)); rintro e w' ⟨rfl, hB'⟩; have hB := hB.trans (hB'.mono hB.size); clear hB') | (go_at_call 10; ((with_reducible refine (rSkel_any s x v _ hs HX.out HV.out).mono ?_)); rintro e w' ⟨rfl, hB'⟩; have hB := hB.trans (hB'.mono hB.size); clear hB') | (go_at_call 11; ((with_reducible refine (check_is s v _ hs HV.out).mono ?_)); rintro e w' ⟨rfl, hB'⟩; have hB := hB.trans (hB'.mono hB.size); clear hB') | (go_at_call 12; ((with_reducible refine (rcheck_is s v _ hs HV.out).mono ?_)); rintro e w' ⟨rfl, hB'⟩; have hB := hB.trans (hB'.mono hB.size); clear hB') | (go_at_call 13; ((with_reducible refine (nscript_is s k _ hs HK.out).mono ?_)); rintro e w' ⟨rfl, hB'⟩; have hB := hB.trans (hB'.mono hB.size); clear hB') | (go_at_call 14; ((with_reducible refine (rscr_is s k _ hs HK.out).mono ?_)); rintro e w' ⟨rfl, hB'⟩; have hB := hB.trans (hB'.mono hB.size); clear hB') | (go_at_call 15; ((with_reducible refine (Look_is r lk _ hr HLK.out).mono ?_)); rintro e w' ⟨rfl, hB'⟩; have hB := hB.trans (hB'.mono hB.size); clear hB') | (go_at_call 16; ((with_reducible refine (rlook_is r lk _ HLK.out).mono ?_)); rintro e w' ⟨rfl, rfl⟩) | (go_at_call 8; ((with_reducible refine (alive_any _).mono ?_)); rintro e w' ⟨rfl, hB'⟩; have hB := hB.trans (hB'.mono hB.size); clear hB'))
    go_ret
    exact ⟨rfl, hB⟩
end Go.Proofs.Ytflbbpmlcllamaa
