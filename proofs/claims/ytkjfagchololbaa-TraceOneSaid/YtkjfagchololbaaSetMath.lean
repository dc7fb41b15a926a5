/- Plain laws of sets of organisations (bytes). -/
import Derived.Test.YtkjfagchololbaaLDo
import Derived.Laws.BitsLemmas
namespace Go.Proofs.Ytkjfagchololbaa

def andB (a b : Int) : Int := bits BinOp.and IntKind.u8 a b
def bv (s : Int) : BitVec 8 := BitVec.ofInt 8 s
/-- A byte. -/
def Byte (s : Int) : Prop := 0 ≤ s ∧ s ≤ 255

theorem bits_byte (op : BinOp) (a b : Int) : Byte (bits op IntKind.u8 a b) := by
  have := bits_within op .u8 a b
  exact this
theorem and_byte (a b : Int) : Byte (andB a b) := bits_byte _ _ _
theorem or_byte (a b : Int) : Byte (orB a b) := bits_byte _ _ _
theorem minus_byte (a b : Int) : Byte (minusB a b) := bits_byte _ _ _
theorem add_byte (a b : Int) : Byte (addB a b) := bits_byte _ _ _
theorem bv_nat (S : Nat) : bv (S : Int) = BitVec.ofNat 8 S := by unfold bv; rw [BitVec.ofInt_natCast]
theorem bv_toNat {s : Int} (h : Byte s) : ((bv s).toNat : Int) = s := by
  obtain ⟨S, rfl⟩ := Int.eq_ofNat_of_zero_le h.1
  have := h.2
  rw [bv_nat, BitVec.toNat_ofNat, Nat.mod_eq_of_lt (by omega)]
theorem bv_inj {a b : Int} (ha : Byte a) (hb : Byte b) (h : bv a = bv b) : a = b := by rw [← bv_toNat ha, ← bv_toNat hb, h]
theorem wrap_toNat (r : BitVec 8) : IntKind.u8.wrap (r.toNat : Int) = (r.toNat : Int) := by
  have := r.isLt
  rw [IntKind.wrap_u8]; omega
theorem bv_of (r : BitVec 8) : bv (r.toNat : Int) = r := by rw [bv_nat]; simp

theorem bv_and (a b : Int) : bv (andB a b) = bv a &&& bv b := by
  show bv (IntKind.u8.wrap ((BitVec.ofInt 8 a &&& BitVec.ofInt 8 b).toNat : Int)) = _
  rw [wrap_toNat, bv_of]; rfl
theorem bv_or (a b : Int) : bv (orB a b) = bv a ||| bv b := by
  show bv (IntKind.u8.wrap ((BitVec.ofInt 8 a ||| BitVec.ofInt 8 b).toNat : Int)) = _
  rw [wrap_toNat, bv_of]; rfl
theorem bv_minus (a b : Int) : bv (minusB a b) = bv a &&& ~~~ (bv b) := by
  show bv (IntKind.u8.wrap ((BitVec.ofInt 8 a &&& ~~~ (BitVec.ofInt 8 b)).toNat : Int)) = _
  rw [wrap_toNat, bv_of]; rfl

theorem inB_bv {s : Int} (h : Byte s) (j : Nat) (hj : j < 8) : inB s (j : Int) = (bv s).getLsbD j := by
  obtain ⟨S, rfl⟩ := Int.eq_ofNat_of_zero_le h.1
  have hS : S < 256 := by have := h.2; omega
  rw [bv_nat, BitVec.getLsbD_ofNat, show decide (j < 8) = true by simpa using hj, Bool.true_and]
  unfold inB
  have h1 : ((S : Int) / 2 ^ ((j : Int)).toNat) = ((S / 2 ^ j : Nat) : Int) := by
    rw [Int.natCast_ediv]; congr 1
  have h2 : S / 2 ^ j < 2 ^ 8 := Nat.lt_of_le_of_lt (Nat.div_le_self _ _) hS
  rw [h1, show (1 : Int) = ((1 : Nat) : Int) from rfl, (bits_nat .u8 8 (by decide) wraps_u8 _ 1 h2 (by omega)).1, Nat.and_one_is_mod, Nat.testBit_eq_decide_div_mod_eq]
  rw [Bool.eq_iff_iff]
  simp only [beq_iff_eq, decide_eq_true_eq]
  omega

theorem in_and {a b : Int} (ha : Byte a) (hb : Byte b) (j : Nat) (hj : j < 8) : inB (andB a b) j = (inB a j && inB b j) := by
  rw [inB_bv (and_byte a b) j hj, bv_and, BitVec.getLsbD_and, inB_bv ha j hj, inB_bv hb j hj]
theorem in_or {a b : Int} (ha : Byte a) (hb : Byte b) (j : Nat) (hj : j < 8) : inB (orB a b) j = (inB a j || inB b j) := by
  rw [inB_bv (or_byte a b) j hj, bv_or, BitVec.getLsbD_or, inB_bv ha j hj, inB_bv hb j hj]
theorem in_minus {a b : Int} (ha : Byte a) (hb : Byte b) (j : Nat) (hj : j < 8) : inB (minusB a b) j = (inB a j && !inB b j) := by
  rw [inB_bv (minus_byte a b) j hj, bv_minus, BitVec.getLsbD_and, BitVec.getLsbD_not, inB_bv ha j hj, inB_bv hb j hj]
  simp [hj]
theorem in_add {s : Int} (hs : Byte s) (k : Nat) (hk : k < 8) (j : Nat) (hj : j < 8) : inB (addB s k) j = (inB s j || decide (j = k)) := by
  have hp : Byte (IntKind.u8.wrap (2 ^ ((k : Int)).toNat)) := ⟨by rw [IntKind.wrap_u8]; omega, by rw [IntKind.wrap_u8]; omega⟩
  have h := in_or hs hp j hj
  unfold orB at h
  unfold addB
  rw [h]
  congr 1
  have key : ∀ (k j : Fin 8), inB (IntKind.u8.wrap (2 ^ ((k.val : Int)).toNat)) (j.val : Int) = decide (j.val = k.val) := by decide +kernel
  exact key ⟨k, hk⟩ ⟨j, hj⟩
theorem in_zero (j : Nat) (hj : j < 8) : inB 0 j = false := by
  rw [inB_bv ⟨by omega, by omega⟩ j hj]
  unfold bv
  simp

theorem set_ext {a b : Int} (ha : Byte a) (hb : Byte b) (h : ∀ j : Nat, j < 8 → inB a j = inB b j) : a = b := by
  refine bv_inj ha hb (BitVec.eq_of_getLsbD_eq fun i hi => ?_)
  rw [← inB_bv ha i hi, ← inB_bv hb i hi]
  exact h i hi
theorem set_zero {a : Int} (ha : Byte a) (h : ∀ j : Nat, j < 8 → inB a j = false) : a = 0 :=
  set_ext ha ⟨by omega, by omega⟩ fun j hj => by rw [h j hj, in_zero j hj]
/-- All that is in a is in b. -/
theorem minus_zero {a b : Int} (ha : Byte a) (hb : Byte b) : minusB a b = 0 ↔ ∀ j : Nat, j < 8 → inB a j = true → inB b j = true := by
  constructor
  · intro h j hj h1
    have := in_minus ha hb j hj
    rw [h, in_zero j hj, h1] at this
    cases hb : inB b j
    · rw [hb] at this; cases this
    · rfl
  · intro h
    refine set_zero (minus_byte a b) fun j hj => ?_
    rw [in_minus ha hb j hj]
    cases h1 : inB a j
    · rfl
    · rw [h j hj h1]; rfl
end Go.Proofs.Ytkjfagchololbaa
