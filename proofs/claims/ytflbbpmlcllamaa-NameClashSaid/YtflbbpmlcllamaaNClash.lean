/- The walk of NameClash: it answers true whatever comes. -/
import Derived.Test.YtflbbpmlcllamaaLong
namespace Go.Proofs.Ytflbbpmlcllamaa
open Go.RowKit Go.Lib Go.Maps

set_option maxRecDepth 100000 in
set_option maxHeartbeats 4000000 in
theorem nclash_any (a b c : ByteArray) (r : Int) (w : World) (za : a.size ≤ maxLen) (zb : b.size ≤ maxLen) (zc : c.size ≤ maxLen) (hr : -2147483648 ≤ r ∧ r ≤ 2147483647) :
    Calls Try.prog 4 #[.string a, .string b, .string c, .int .i32 r] w fun e w' => e = .returned (.bool true) ∧ Below w.heap.size w w' := by
  have hcells : ∀ i, i < 3 → (w.alloc (.cells #[.string a, .string b, .string c] 9)).cell? ⟨w.heap.size, i, none⟩ = some (.string ([a, b, c].getD i ByteArray.empty)) := fun i hi => by
    refine (cell_of_row _ _ i _ _ _ (heap_alloc_new w _)).trans ?_
    match i, hi with
    | 0, _ | 1, _ | 2, _ => rfl
  have hsz : ∀ s ∈ [a, b, c], s.size ≤ maxLen := by
    intro s hs
    simp at hs
    rcases hs with rfl | rfl | rfl <;> assumption
  have hB0 : Below w.heap.size w (w.alloc (.cells #[.string a, .string b, .string c] 9)) := (Below.refl _ _).alloc (Nat.le_refl _) _
  by_cases hlong : 1024 < a.size ∨ 1024 < b.size ∨ 1024 < c.size
  · have HL := Lib.hid (show ([a, b, c].any fun s => decide (1024 < s.size)) = true by simpa using hlong)
    clear hlong
    go_enter Try.func4, Try.ntmps4
    have hB := hB0
    go_wp2_with (first | (go_at_call 7; refine (long_any [a, b, c] _ w.heap.size 3 (by simp) hsz (by exact hcells)).mono ?_; rw [HL.out]; rintro e w1 ⟨rfl, rfl⟩) | (go_at_call 8; ((with_reducible refine (alive_any _).mono ?_)); rintro e w' ⟨rfl, hB'⟩; have hB := hB.trans (hB'.mono hB.size); clear hB'))
    go_ret
    exact ⟨rfl, hB⟩
  · have HL := Lib.hid (show ([a, b, c].any fun s => decide (1024 < s.size)) = false by simp; omega)
    have ha : a.size ≤ 1024 := by omega
    have hb : b.size ≤ 1024 := by omega
    have hc : c.size ≤ 1024 := by omega
    clear hlong za zb zc
    have HI := Lib.hid (lookV_idem r)
    have hr2 := lookV_bd r hr
    obtain ⟨x, hx⟩ : ∃ x, skS a = x := ⟨_, rfl⟩
    obtain ⟨y, hy⟩ : ∃ y, skS b = y := ⟨_, rfl⟩
    obtain ⟨ca, hca⟩ : ∃ x, checkV a = x := ⟨_, rfl⟩
    obtain ⟨cb, hcb⟩ : ∃ x, checkV b = x := ⟨_, rfl⟩
    have hcl : clashV a b = ((ca == 0) && ((cb == 0) && (!(a.toList == b.toList) && (x.toList == y.toList)))) := by rw [clashV, hca, hcb, hx, hy]
    have HXA := Lib.hid hx
    have HXB := Lib.hid hy
    have HCL := Lib.hid hcl
    clear hx hy hcl
    by_cases h1 : ca = 0
    · subst h1
      by_cases h2 : cb = 0
      · subst h2
        have HCA := Lib.hid hca
        have HCB := Lib.hid hcb
        clear hca hcb
        by_cases h3 : (a.toList == b.toList) = true
        · have HAB := Lib.hid (show clashV a b = false by rw [HCL.out, h3]; rfl)
          have HBA := Lib.hid ((clashV_comm a b).trans HAB.out)
          go_enter Try.func4, Try.ntmps4
          have hB := hB0
          go_wp2_with (first | (go_at_call 7; refine (long_any [a, b, c] _ w.heap.size 3 (by simp) hsz (by exact hcells)).mono ?_; rw [HL.out]; rintro e w1 ⟨rfl, rfl⟩) | (go_at_call 15; ((with_reducible refine (Look_is (lookV r) (lookV r) _ hr2 HI.out).mono ?_)); rintro e w' ⟨rfl, hB'⟩; have hB := hB.trans (hB'.mono hB.size); clear hB') | (go_at_call 15; ((with_reducible refine (Look_is r (lookV r) _ hr rfl).mono ?_)); rintro e w' ⟨rfl, hB'⟩; have hB := hB.trans (hB'.mono hB.size); clear hB') | (go_at_call 17; ((with_reducible refine (clash_is a b false _ ha hb HAB.out).mono ?_)); rintro e w' ⟨rfl, hB'⟩; have hB := hB.trans (hB'.mono hB.size); clear hB') | (go_at_call 17; ((with_reducible refine (clash_is b a false _ hb ha HBA.out).mono ?_)); rintro e w' ⟨rfl, hB'⟩; have hB := hB.trans (hB'.mono hB.size); clear hB') | (go_at_call 17; ((with_reducible refine (clash_is a a false _ ha ha (clashV_self a)).mono ?_)); rintro e w' ⟨rfl, hB'⟩; have hB := hB.trans (hB'.mono hB.size); clear hB') | (go_at_call 9; ((with_reducible refine (skel_is a x 0 _ ha HXA.out HCA.out).mono ?_)); rintro e w' ⟨rfl, hB'⟩; have hB := hB.trans (hB'.mono hB.size); clear hB') | (go_at_call 9; ((with_reducible refine (skel_is b y 0 _ hb HXB.out HCB.out).mono ?_)); rintro e w' ⟨rfl, hB'⟩; have hB := hB.trans (hB'.mono hB.size); clear hB') | (go_at_call 8; ((with_reducible refine (alive_any _).mono ?_)); rintro e w' ⟨rfl, hB'⟩; have hB := hB.trans (hB'.mono hB.size); clear hB'))
          go_ret
          exact ⟨rfl, hB⟩
        · have h3' : (a.toList == b.toList) = false := by simpa using h3
          clear h3
          by_cases h4 : (x.toList == y.toList) = true
          · have HAB := Lib.hid (show clashV a b = true by rw [HCL.out, h3', h4]; rfl)
            have HBA := Lib.hid ((clashV_comm a b).trans HAB.out)
            by_cases h5 : clashV b c = true
            · have HBC := Lib.hid h5
              by_cases h6 : (a.toList == c.toList) = true
              · clear h5
                go_enter Try.func4, Try.ntmps4
                have hB := hB0
                go_wp2_with (first | (go_at_call 7; refine (long_any [a, b, c] _ w.heap.size 3 (by simp) hsz (by exact hcells)).mono ?_; rw [HL.out]; rintro e w1 ⟨rfl, rfl⟩) | (go_at_call 15; ((with_reducible refine (Look_is (lookV r) (lookV r) _ hr2 HI.out).mono ?_)); rintro e w' ⟨rfl, hB'⟩; have hB := hB.trans (hB'.mono hB.size); clear hB') | (go_at_call 15; ((with_reducible refine (Look_is r (lookV r) _ hr rfl).mono ?_)); rintro e w' ⟨rfl, hB'⟩; have hB := hB.trans (hB'.mono hB.size); clear hB') | (go_at_call 17; ((with_reducible refine (clash_is a b true _ ha hb HAB.out).mono ?_)); rintro e w' ⟨rfl, hB'⟩; have hB := hB.trans (hB'.mono hB.size); clear hB') | (go_at_call 17; ((with_reducible refine (clash_is b a true _ hb ha HBA.out).mono ?_)); rintro e w' ⟨rfl, hB'⟩; have hB := hB.trans (hB'.mono hB.size); clear hB') | (go_at_call 17; ((with_reducible refine (clash_is a a false _ ha ha (clashV_self a)).mono ?_)); rintro e w' ⟨rfl, hB'⟩; have hB := hB.trans (hB'.mono hB.size); clear hB') | (go_at_call 17; ((with_reducible refine (clash_is b c true _ hb hc HBC.out).mono ?_)); rintro e w' ⟨rfl, hB'⟩; have hB := hB.trans (hB'.mono hB.size); clear hB') | (go_at_call 9; ((with_reducible refine (skel_is a x 0 _ ha HXA.out HCA.out).mono ?_)); rintro e w' ⟨rfl, hB'⟩; have hB := hB.trans (hB'.mono hB.size); clear hB') | (go_at_call 9; ((with_reducible refine (skel_is b y 0 _ hb HXB.out HCB.out).mono ?_)); rintro e w' ⟨rfl, hB'⟩; have hB := hB.trans (hB'.mono hB.size); clear hB') | (go_at_call 8; ((with_reducible refine (alive_any _).mono ?_)); rintro e w' ⟨rfl, hB'⟩; have hB := hB.trans (hB'.mono hB.size); clear hB'))
                go_ret
                exact ⟨rfl, hB⟩
              · have h6' : (a.toList == c.toList) = false := by simpa using h6
                have HAC := Lib.hid (clashV_trans a b c HAB.out h5 (fun e => h6 (by rw [e]; simp)))
                clear h5 h6
                go_enter Try.func4, Try.ntmps4
                have hB := hB0
                go_wp2_with (first | (go_at_call 7; refine (long_any [a, b, c] _ w.heap.size 3 (by simp) hsz (by exact hcells)).mono ?_; rw [HL.out]; rintro e w1 ⟨rfl, rfl⟩) | (go_at_call 15; ((with_reducible refine (Look_is (lookV r) (lookV r) _ hr2 HI.out).mono ?_)); rintro e w' ⟨rfl, hB'⟩; have hB := hB.trans (hB'.mono hB.size); clear hB') | (go_at_call 15; ((with_reducible refine (Look_is r (lookV r) _ hr rfl).mono ?_)); rintro e w' ⟨rfl, hB'⟩; have hB := hB.trans (hB'.mono hB.size); clear hB') | (go_at_call 17; ((with_reducible refine (clash_is a b true _ ha hb HAB.out).mono ?_)); rintro e w' ⟨rfl, hB'⟩; have hB := hB.trans (hB'.mono hB.size); clear hB') | (go_at_call 17; ((with_reducible refine (clash_is b a true _ hb ha HBA.out).mono ?_)); rintro e w' ⟨rfl, hB'⟩; have hB := hB.trans (hB'.mono hB.size); clear hB') | (go_at_call 17; ((with_reducible refine (clash_is a a false _ ha ha (clashV_self a)).mono ?_)); rintro e w' ⟨rfl, hB'⟩; have hB := hB.trans (hB'.mono hB.size); clear hB') | (go_at_call 17; ((with_reducible refine (clash_is b c true _ hb hc HBC.out).mono ?_)); rintro e w' ⟨rfl, hB'⟩; have hB := hB.trans (hB'.mono hB.size); clear hB') | (go_at_call 17; ((with_reducible refine (clash_is a c true _ ha hc HAC.out).mono ?_)); rintro e w' ⟨rfl, hB'⟩; have hB := hB.trans (hB'.mono hB.size); clear hB') | (go_at_call 9; ((with_reducible refine (skel_is a x 0 _ ha HXA.out HCA.out).mono ?_)); rintro e w' ⟨rfl, hB'⟩; have hB := hB.trans (hB'.mono hB.size); clear hB') | (go_at_call 9; ((with_reducible refine (skel_is b y 0 _ hb HXB.out HCB.out).mono ?_)); rintro e w' ⟨rfl, hB'⟩; have hB := hB.trans (hB'.mono hB.size); clear hB') | (go_at_call 8; ((with_reducible refine (alive_any _).mono ?_)); rintro e w' ⟨rfl, hB'⟩; have hB := hB.trans (hB'.mono hB.size); clear hB'))
                go_ret
                exact ⟨rfl, hB⟩
            · have HBC := Lib.hid (show clashV b c = false by simpa using h5)
              clear h5
              go_enter Try.func4, Try.ntmps4
              have hB := hB0
              go_wp2_with (first | (go_at_call 7; refine (long_any [a, b, c] _ w.heap.size 3 (by simp) hsz (by exact hcells)).mono ?_; rw [HL.out]; rintro e w1 ⟨rfl, rfl⟩) | (go_at_call 15; ((with_reducible refine (Look_is (lookV r) (lookV r) _ hr2 HI.out).mono ?_)); rintro e w' ⟨rfl, hB'⟩; have hB := hB.trans (hB'.mono hB.size); clear hB') | (go_at_call 15; ((with_reducible refine (Look_is r (lookV r) _ hr rfl).mono ?_)); rintro e w' ⟨rfl, hB'⟩; have hB := hB.trans (hB'.mono hB.size); clear hB') | (go_at_call 17; ((with_reducible refine (clash_is a b true _ ha hb HAB.out).mono ?_)); rintro e w' ⟨rfl, hB'⟩; have hB := hB.trans (hB'.mono hB.size); clear hB') | (go_at_call 17; ((with_reducible refine (clash_is b a true _ hb ha HBA.out).mono ?_)); rintro e w' ⟨rfl, hB'⟩; have hB := hB.trans (hB'.mono hB.size); clear hB') | (go_at_call 17; ((with_reducible refine (clash_is a a false _ ha ha (clashV_self a)).mono ?_)); rintro e w' ⟨rfl, hB'⟩; have hB := hB.trans (hB'.mono hB.size); clear hB') | (go_at_call 17; ((with_reducible refine (clash_is b c false _ hb hc HBC.out).mono ?_)); rintro e w' ⟨rfl, hB'⟩; have hB := hB.trans (hB'.mono hB.size); clear hB') | (go_at_call 9; ((with_reducible refine (skel_is a x 0 _ ha HXA.out HCA.out).mono ?_)); rintro e w' ⟨rfl, hB'⟩; have hB := hB.trans (hB'.mono hB.size); clear hB') | (go_at_call 9; ((with_reducible refine (skel_is b y 0 _ hb HXB.out HCB.out).mono ?_)); rintro e w' ⟨rfl, hB'⟩; have hB := hB.trans (hB'.mono hB.size); clear hB') | (go_at_call 8; ((with_reducible refine (alive_any _).mono ?_)); rintro e w' ⟨rfl, hB'⟩; have hB := hB.trans (hB'.mono hB.size); clear hB'))
              go_ret
              exact ⟨rfl, hB⟩
          · have h4' : (x.toList == y.toList) = false := by simpa using h4
            have HAB := Lib.hid (show clashV a b = false by rw [HCL.out, h3', h4']; rfl)
            have HBA := Lib.hid ((clashV_comm a b).trans HAB.out)
            clear h4
            go_enter Try.func4, Try.ntmps4
            have hB := hB0
            go_wp2_with (first | (go_at_call 7; refine (long_any [a, b, c] _ w.heap.size 3 (by simp) hsz (by exact hcells)).mono ?_; rw [HL.out]; rintro e w1 ⟨rfl, rfl⟩) | (go_at_call 15; ((with_reducible refine (Look_is (lookV r) (lookV r) _ hr2 HI.out).mono ?_)); rintro e w' ⟨rfl, hB'⟩; have hB := hB.trans (hB'.mono hB.size); clear hB') | (go_at_call 15; ((with_reducible refine (Look_is r (lookV r) _ hr rfl).mono ?_)); rintro e w' ⟨rfl, hB'⟩; have hB := hB.trans (hB'.mono hB.size); clear hB') | (go_at_call 17; ((with_reducible refine (clash_is a b false _ ha hb HAB.out).mono ?_)); rintro e w' ⟨rfl, hB'⟩; have hB := hB.trans (hB'.mono hB.size); clear hB') | (go_at_call 17; ((with_reducible refine (clash_is b a false _ hb ha HBA.out).mono ?_)); rintro e w' ⟨rfl, hB'⟩; have hB := hB.trans (hB'.mono hB.size); clear hB') | (go_at_call 17; ((with_reducible refine (clash_is a a false _ ha ha (clashV_self a)).mono ?_)); rintro e w' ⟨rfl, hB'⟩; have hB := hB.trans (hB'.mono hB.size); clear hB') | (go_at_call 9; ((with_reducible refine (skel_is a x 0 _ ha HXA.out HCA.out).mono ?_)); rintro e w' ⟨rfl, hB'⟩; have hB := hB.trans (hB'.mono hB.size); clear hB') | (go_at_call 9; ((with_reducible refine (skel_is b y 0 _ hb HXB.out HCB.out).mono ?_)); rintro e w' ⟨rfl, hB'⟩; have hB := hB.trans (hB'.mono hB.size); clear hB') | (go_at_call 8; ((with_reducible refine (alive_any _).mono ?_)); rintro e w' ⟨rfl, hB'⟩; have hB := hB.trans (hB'.mono hB.size); clear hB'))
            go_ret
            exact ⟨rfl, hB⟩
      · have h2' : (cb == 0) = false := by simpa using h2
        have HAB := Lib.hid (show clashV a b = false by rw [HCL.out, h2']; rfl)
        have HBA := Lib.hid ((clashV_comm a b).trans HAB.out)
        have HCA := Lib.hid hca
        have HCB := Lib.hid hcb
        clear hca hcb h2
        go_enter Try.func4, Try.ntmps4
        have hB := hB0
        go_wp2_with (first | (go_at_call 7; refine (long_any [a, b, c] _ w.heap.size 3 (by simp) hsz (by exact hcells)).mono ?_; rw [HL.out]; rintro e w1 ⟨rfl, rfl⟩) | (go_at_call 15; ((with_reducible refine (Look_is (lookV r) (lookV r) _ hr2 HI.out).mono ?_)); rintro e w' ⟨rfl, hB'⟩; have hB := hB.trans (hB'.mono hB.size); clear hB') | (go_at_call 15; ((with_reducible refine (Look_is r (lookV r) _ hr rfl).mono ?_)); rintro e w' ⟨rfl, hB'⟩; have hB := hB.trans (hB'.mono hB.size); clear hB') | (go_at_call 17; ((with_reducible refine (clash_is a b false _ ha hb HAB.out).mono ?_)); rintro e w' ⟨rfl, hB'⟩; have hB := hB.trans (hB'.mono hB.size); clear hB') | (go_at_call 17; ((with_reducible refine (clash_is b a false _ hb ha HBA.out).mono ?_)); rintro e w' ⟨rfl, hB'⟩; have hB := hB.trans (hB'.mono hB.size); clear hB') | (go_at_call 17; ((with_reducible refine (clash_is a a false _ ha ha (clashV_self a)).mono ?_)); rintro e w' ⟨rfl, hB'⟩; have hB := hB.trans (hB'.mono hB.size); clear hB') | (go_at_call 9; ((with_reducible refine (skel_is a x 0 _ ha HXA.out HCA.out).mono ?_)); rintro e w' ⟨rfl, hB'⟩; have hB := hB.trans (hB'.mono hB.size); clear hB') | (go_at_call 9; ((with_reducible refine (skel_is b y cb _ hb HXB.out HCB.out).mono ?_)); rintro e w' ⟨rfl, hB'⟩; have hB := hB.trans (hB'.mono hB.size); clear hB') | (go_at_call 8; ((with_reducible refine (alive_any _).mono ?_)); rintro e w' ⟨rfl, hB'⟩; have hB := hB.trans (hB'.mono hB.size); clear hB'))
        go_ret
        exact ⟨rfl, hB⟩
    · have h1' : (ca == 0) = false := by simpa using h1
      have HAB := Lib.hid (show clashV a b = false by rw [HCL.out, h1']; rfl)
      have HBA := Lib.hid ((clashV_comm a b).trans HAB.out)
      have HCA := Lib.hid hca
      have HCB := Lib.hid hcb
      clear hca hcb h1
      go_enter Try.func4, Try.ntmps4
      have hB := hB0
      go_wp2_with (first | (go_at_call 7; refine (long_any [a, b, c] _ w.heap.size 3 (by simp) hsz (by exact hcells)).mono ?_; rw [HL.out]; rintro e w1 ⟨rfl, rfl⟩) | (go_at_call 15; ((with_reducible refine (Look_is (lookV r) (lookV r) _ hr2 HI.out).mono ?_)); rintro e w' ⟨rfl, hB'⟩; have hB := hB.trans (hB'.mono hB.size); clear hB') | (go_at_call 15; ((with_reducible refine (Look_is r (lookV r) _ hr rfl).mono ?_)); rintro e w' ⟨rfl, hB'⟩; have hB := hB.trans (hB'.mono hB.size); clear hB') | (go_at_call 17; ((with_reducible refine (clash_is a b false _ ha hb HAB.out).mono ?_)); rintro e w' ⟨rfl, hB'⟩; have hB := hB.trans (hB'.mono hB.size); clear hB') | (go_at_call 17; ((with_reducible refine (clash_is b a false _ hb ha HBA.out).mono ?_)); rintro e w' ⟨rfl, hB'⟩; have hB := hB.trans (hB'.mono hB.size); clear hB') | (go_at_call 17; ((with_reducible refine (clash_is a a false _ ha ha (clashV_self a)).mono ?_)); rintro e w' ⟨rfl, hB'⟩; have hB := hB.trans (hB'.mono hB.size); clear hB') | (go_at_call 9; ((with_reducible refine (skel_is a x ca _ ha HXA.out HCA.out).mono ?_)); rintro e w' ⟨rfl, hB'⟩; have hB := hB.trans (hB'.mono hB.size); clear hB') | (go_at_call 9; ((with_reducible refine (skel_is b y cb _ hb HXB.out HCB.out).mono ?_)); rintro e w' ⟨rfl, hB'⟩; have hB := hB.trans (hB'.mono hB.size); clear hB') | (go_at_call 8; ((with_reducible refine (alive_any _).mono ?_)); rintro e w' ⟨rfl, hB'⟩; have hB := hB.trans (hB'.mono hB.size); clear hB'))
      go_ret
      exact ⟨rfl, hB⟩
end Go.Proofs.Ytflbbpmlcllamaa
