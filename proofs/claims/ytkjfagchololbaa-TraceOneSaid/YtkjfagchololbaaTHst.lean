/- The trace's honest; an event's cells; its action. -/
import Derived.Test.YtkjfagchololbaaLKinds
import Derived.Test.YtkjfagchololbaaLCan
import Derived.Test.YtkjfagchololbaaOnly
namespace Go.Proofs.Ytkjfagchololbaa
open Go.RowKit

def hstB (bad k : Int) : Bool := decide (0 ≤ k) && (decide (k < 8) && (bits BinOp.and IntKind.u8 (bad / 2 ^ k.toNat) 1 == 0))

theorem hst_any (bad k : Int) (w : World) : Calls Try.prog 24 #[.int .u8 bad, .int .i64 k] w fun e w' => e = .returned (.bool (hstB bad k)) ∧ w = w' := by
  by_cases h0 : 0 ≤ k
  · by_cases h1 : k < 8
    · have HV := Lib.hid (show hstB bad k = (bits BinOp.and IntKind.u8 (bad / 2 ^ k.toNat) 1 == 0) by simp [hstB, h0, h1])
      go_enter Try.func24, Try.ntmps24
      go_wp2
      go_ret
      exact ⟨by rw [HV.out]; rfl, rfl⟩
    · have HV := Lib.hid (show hstB bad k = false by simp [hstB, h1])
      go_enter Try.func24, Try.ntmps24
      go_wp2
      go_ret
      exact ⟨by rw [HV.out]; rfl, rfl⟩
  · have HV := Lib.hid (show hstB bad k = false by simp [hstB, h0])
    go_enter Try.func24, Try.ntmps24
    go_wp2
    go_ret
    exact ⟨by rw [HV.out]; rfl, rfl⟩
theorem hst_is (bad k : Int) (v : Bool) (hv : hstB bad k = v) (w : World) : Calls Try.prog 24 #[.int .u8 bad, .int .i64 k] w fun e w' => e = .returned (.bool v) ∧ w = w' := hv ▸ hst_any bad k w

/-- An event. -/
structure Ev where
  kind : Int
  act : Int
  org : Int
  c : Int
  e : Int
  q : Int
  rk : Int
  rep : Int
  rc : Int
  re : Int
  rq : Int
  ry : Bool
  ra : Int
  rm : Value
  rt : Value
  rb : Value
  xc : Int
  xe : Int
  xq : Int
  xa : Int
  av : Option Addr
  mcap : Nat
  xt : Value
  ms : List (Int × ByteArray)

def evL (x : Ev) : List Value := [.int .u8 x.kind, .int .i64 x.act, .int .i64 x.org, .int .i64 x.c, .int .i64 x.e, .int .i64 x.q,
  .int .u8 x.rk, .int .i64 x.rep, .int .i64 x.rc, .int .i64 x.re, .int .i64 x.rq, .bool x.ry, .int .i64 x.ra, x.rm, x.rt, x.rb,
  .int .i64 x.xc, .int .i64 x.xe, .int .i64 x.xq, .int .i64 x.xa, .slice x.av x.ms.length x.mcap, x.xt]
def evC (x : Ev) : Array Value := #[.int .u8 x.kind, .int .i64 x.act, .int .i64 x.org, .int .i64 x.c, .int .i64 x.e, .int .i64 x.q,
  .int .u8 x.rk, .int .i64 x.rep, .int .i64 x.rc, .int .i64 x.re, .int .i64 x.rq, .bool x.ry, .int .i64 x.ra, x.rm, x.rt, x.rb,
  .int .i64 x.xc, .int .i64 x.xe, .int .i64 x.xq, .int .i64 x.xa, .slice x.av x.ms.length x.mcap, x.xt]
abbrev evV (x : Ev) : Value := .agg (evC x)

/-- An event's members in memory. -/
structure MemAt (w : World) (B : Nat) (av : Option Addr) (ms : List (Int × ByteArray)) : Prop where
  r : 0 < ms.length → ∃ b o, av = some ⟨b, o, none⟩ ∧ b < B ∧ ∀ i m, ms[i]? = some m →
    w.cell? ⟨b, o + i * 2, none⟩ = some (.int .i64 m.1) ∧ w.cell? ⟨b, o + i * 2 + 1, none⟩ = some (.string m.2)

structure EvWf (x : Ev) : Prop where
  k : 0 ≤ x.kind ∧ x.kind ≤ 255
  rk : 0 ≤ x.rk ∧ x.rk ≤ 255
  t : (-9223372036854775808 ≤ x.c ∧ x.c ≤ 9223372036854775807) ∧ (-9223372036854775808 ≤ x.e ∧ x.e ≤ 9223372036854775807) ∧ (-9223372036854775808 ≤ x.q ∧ x.q ≤ 9223372036854775807)
  rt : (-9223372036854775808 ≤ x.rc ∧ x.rc ≤ 9223372036854775807) ∧ (-9223372036854775808 ≤ x.re ∧ x.re ≤ 9223372036854775807) ∧ (-9223372036854775808 ≤ x.rq ∧ x.rq ≤ 9223372036854775807)
  g : -9223372036854775808 ≤ x.org ∧ x.org ≤ 9223372036854775807
  m : ∀ m ∈ x.ms, -9223372036854775808 ≤ m.1 ∧ m.1 ≤ 9223372036854775807
  len : x.ms.length ≤ maxLen

def setStep (s : Int) (m : Int × ByteArray) : Int := if 0 ≤ m.1 ∧ m.1 < 8 then bits BinOp.or IntKind.u8 s (IntKind.u8.wrap (2 ^ m.1.toNat)) else s
def setM (ms : List (Int × ByteArray)) : Int := ms.foldl setStep 0
theorem setM_snoc (ms : List (Int × ByteArray)) (j : Nat) (m : Int × ByteArray) (h : ms[j]? = some m) : setM (ms.take (j + 1)) = setStep (setM (ms.take j)) m := by
  obtain ⟨hj, rfl⟩ := List.getElem?_eq_some_iff.1 h
  unfold setM
  rw [List.take_succ_eq_append_getElem hj, List.foldl_append]
  rfl

/-- The action of an event, whoever is honest. -/
def actOf (x : Ev) : Option Act' :=
  if x.kind = 1 then some ⟨1, x.c, x.e, x.q, 0, false, setM x.ms⟩
  else if x.kind = 2 then
    (if x.rk = 2 then some ⟨2, x.rc, x.re, x.rq, x.org, x.ry, 0⟩
     else if x.rk = 3 then some ⟨3, x.rc, x.re, x.rq, 0, x.ry, 0⟩
     else if x.rk = 4 then some ⟨4, x.rc, x.re, x.rq, x.org, x.ry, 0⟩ else none)
  else none
def zAct : Act' := ⟨0, 0, 0, 0, 0, false, 0⟩
def oneO (bad : Int) (x : Ev) : Option Act' := match actOf x with | some a => if (hstB bad x.org && hstB bad a.c) = true then some a else none | none => none
end Go.Proofs.Ytkjfagchololbaa
