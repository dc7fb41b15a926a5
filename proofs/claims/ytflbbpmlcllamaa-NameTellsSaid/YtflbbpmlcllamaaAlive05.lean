/- The chapter's examples, as the law asks them: alive answers true. -/
import Derived.Test.YtflbbpmlcllamaaSkel
namespace Go.Proofs.Ytflbbpmlcllamaa
open Go.RowKit Go.Lib Go.Maps

def zKot : ByteArray := ⟨#[208, 186, 208, 190, 209, 130]⟩
def zkot : ByteArray := ⟨#[107, 111, 116]⟩
def zAcme : ByteArray := ⟨#[97, 99, 109, 101]⟩
def zAc : ByteArray := ⟨#[206, 177, 99]⟩
def zA : ByteArray := ⟨#[97, 45]⟩
def z23 : ByteArray := ⟨#[50, 45, 51]⟩
theorem z1 : skS zKot = zkot := by decide +kernel
theorem z2 : checkV zKot = 0 := by decide +kernel
theorem z3 : scriptV zAcme = 1 := by decide +kernel
theorem z4 : checkV zAc = 50 := by decide +kernel
theorem z5 : checkV zA = 7 := by decide +kernel
theorem z6 : clashV zKot zkot = true := by decide +kernel
theorem z7 : clashV zkot zkot = false := by decide +kernel
theorem z8 : checkV z23 = 0 := by decide +kernel
theorem z9 : scriptV z23 = 0 := by decide +kernel

set_option maxHeartbeats 1000000 in
theorem alive_any (w : World) : Calls Try.prog 8 #[] w fun e w' => e = .returned (.bool true) ∧ Below w.heap.size w w' := by
  go_enter Try.func8, Try.ntmps8
  go_wp2_with fail
  refine (skel_any zKot _ (by decide)).mono ?_
  rw [z1, z2]
  rintro e w1 ⟨rfl, b1⟩
  go_wp2_with fail
  refine (script_any zAcme _ (by decide)).mono ?_
  rw [z3]
  rintro e w2 ⟨rfl, b2⟩
  go_wp2_with fail
  refine (check_any zAc _ (by decide)).mono ?_
  rw [z4]
  rintro e w3 ⟨rfl, b3⟩
  go_wp2_with fail
  refine (check_any zA _ (by decide)).mono ?_
  rw [z5]
  rintro e w4 ⟨rfl, b4⟩
  unfold zkot
  go_wp2_with fail
  refine (clash_any zKot zkot _ (by decide) (by decide)).mono ?_
  rw [z6]
  rintro e w5 ⟨rfl, b5⟩
  go_wp2_with fail
  refine (clash_any zkot zkot _ (by decide) (by decide)).mono ?_
  rw [z7]
  rintro e w6 ⟨rfl, b6⟩
  go_wp2_with fail
  refine (check_any z23 _ (by decide)).mono ?_
  rw [z8]
  rintro e w7 ⟨rfl, b7⟩
  go_wp2_with fail
  refine (script_any z23 _ (by decide)).mono ?_
  rw [z9]
  rintro e w8 ⟨rfl, b8⟩
  go_wp2_with fail
  go_ret
  have s1 := b1.size
  have s2 := Nat.le_trans s1 b2.size
  have s3 := Nat.le_trans s2 b3.size
  have s4 := Nat.le_trans s3 b4.size
  have s5 := Nat.le_trans s4 b5.size
  have s6 := Nat.le_trans s5 b6.size
  have s7 := Nat.le_trans s6 b7.size
  exact ⟨rfl, ((((((b1.trans (b2.mono s1)).trans (b3.mono s2)).trans (b4.mono s3)).trans (b5.mono s4)).trans (b6.mono s5)).trans (b7.mono s6)).trans (b8.mono s7)⟩
end Go.Proofs.Ytflbbpmlcllamaa
