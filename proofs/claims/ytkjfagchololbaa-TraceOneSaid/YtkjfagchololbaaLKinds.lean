/- The walks of ledger.kinds, and what its map answers; bits.OnesCount8. -/
import Derived.Test.YtkjfagchololbaaLSets
import Derived.Maps.Own
import Derived.Lib.BitFns
import Derived.Lib.Walk
namespace Go.Proofs.Ytkjfagchololbaa
open Go.RowKit

def sizeB (s : Int) : Int := Lib.onesCount s.toNat
theorem ones_any (s : Int) (w : World) (h0 : 0 ≤ s) (h1 : s ≤ 255) : Calls Try.prog 56 #[.int .u8 s] w fun e w' => e = .returned (.int .i64 (sizeB s)) ∧ w = w' := by
  have HS := Lib.hid (show wrap64 (Lib.pop8 s) = sizeB s by unfold wrap64 sizeB; exact Lib.pop8_int s h0 h1)
  go_enter Try.func56, Try.ntmps56
  go_wp2
  go_ret
  exact ⟨by rw [← HS.out]; rfl, rfl⟩

def fnV (n : Nat) : Value := .func (.func n) #[] #[]
def kindRow (a b c : Bool) (x y : Nat) : Value := .agg #[.bool a, .bool b, .bool c, .func (.func x) #[] #[], .func (.func y) #[] #[]]

theorem put_fresh (w : World) (es : Array MapEntry) (c : Nat) (k : Int) (v : Value) (h : Instr.findNow (.int .u8) (.int .u8 k) es.toList 0 = some none) :
    (Instr.mapUpdate 100 (.map (some w.heap.size)) (.int .u8 k) v).run Try.prog (w.alloc (.map es c)) = .ok () (w.alloc (.map (es.push ⟨.int .u8 k, v, c⟩) (c + 1))) := by
  have hb := (MapKept.heap_alloc w (.map es c)).1
  have hk : MapKept.IsKey (.int .u8) (.int .u8 k) := rfl
  simp [Instr.mapUpdate, run_underlying Try.underlying100, MapKept.run_getObj_map hb, MapKept.run_checkKey Try.underlying5 hk, MapKept.run_findKey Try.underlying5 h, MapKept.run_setObj_map _ hb, Result.andThen]
  have e : ∀ o o' : Obj, (w.heap.push o).setIfInBounds w.heap.size o' = w.heap.push o' := fun o o' => by apply Array.ext'; simp
  show ({ w with heap := (w.heap.push _).setIfInBounds w.heap.size _ } : World) = { w with heap := w.heap.push _ }
  rw [e]

def kindsEs : Array MapEntry := #[⟨.int .u8 1, kindRow true false false 47 48, 0⟩,
  ⟨.int .u8 2, kindRow false true true 49 50, 1⟩,
  ⟨.int .u8 3, kindRow false false true 51 52, 2⟩,
  ⟨.int .u8 4, kindRow false true true 53 54, 3⟩]

theorem kinds_any (w : World) : Calls Try.prog 43 #[] w fun e w' => e = .returned (.map (some w.heap.size)) ∧ w' = w.alloc (.map kindsEs 4) := by
  have hmm := @run_makeMap Try.prog
  have i1 := put_fresh w #[] 0 1 (kindRow true false false 47 48) rfl
  have i2 := put_fresh w #[⟨.int .u8 1, kindRow true false false 47 48, 0⟩] 1 2 (kindRow false true true 49 50) rfl
  have i3 := put_fresh w #[⟨.int .u8 1, kindRow true false false 47 48, 0⟩, ⟨.int .u8 2, kindRow false true true 49 50, 1⟩] 2 3 (kindRow false false true 51 52) rfl
  have i4 := put_fresh w #[⟨.int .u8 1, kindRow true false false 47 48, 0⟩, ⟨.int .u8 2, kindRow false true true 49 50, 1⟩, ⟨.int .u8 3, kindRow false false true 51 52, 2⟩] 3 4 (kindRow false true true 53 54) rfl
  unfold kindRow at i1 i2 i3 i4
  simp only [List.push_toArray, List.nil_append, List.cons_append, Nat.reduceAdd] at i1 i2 i3 i4
  go_enter Try.func43, Try.ntmps43
  go_wp2
  go_ret
  exact ⟨rfl, rfl⟩

/-- What the map of kinds answers. -/
def kindV (k : Int) : Value := if k = 1 then kindRow true false false 47 48 else if k = 2 then kindRow false true true 49 50
  else if k = 3 then kindRow false false true 51 52 else if k = 4 then kindRow false true true 53 54 else .agg #[.bool false, .bool false, .bool false, .nilFunc, .nilFunc]
def kindIs (k : Int) : Bool := decide (1 ≤ k) && decide (k ≤ 4)

theorem look_kinds (w : World) (b : Nat) (k : Int) (c : Bool) (hb : w.heap[b]? = some (.map kindsEs 4)) :
    (Instr.lookup 100 (.map (some b)) (.int .u8 k) c).run Try.prog w = .ok (if c then .tuple #[kindV k, .bool (kindIs k)] else kindV k) w := by
  have hk : MapKept.IsKey (.int .u8) (.int .u8 k) := rfl
  have key : ∃ r, Instr.findNow (.int .u8) (.int .u8 k) kindsEs.toList 0 = some r ∧ ((r = none ∧ kindIs k = false ∧ kindV k = .agg #[.bool false, .bool false, .bool false, .nilFunc, .nilFunc]) ∨ ∃ i, r = some (i, kindV k) ∧ kindIs k = true) := by
    by_cases h1 : k = 1
    · subst h1; exact ⟨_, rfl, .inr ⟨_, rfl, rfl⟩⟩
    · by_cases h2 : k = 2
      · subst h2; exact ⟨_, rfl, .inr ⟨_, rfl, rfl⟩⟩
      · by_cases h3 : k = 3
        · subst h3; exact ⟨_, rfl, .inr ⟨_, rfl, rfl⟩⟩
        · by_cases h4 : k = 4
          · subst h4; exact ⟨_, rfl, .inr ⟨_, rfl, rfl⟩⟩
          · refine ⟨none, ?_, .inl ⟨rfl, ?_, ?_⟩⟩
            · simp [kindsEs, Instr.findNow, Instr.sameNow, beq_eq_false_iff_ne.2 h1, beq_eq_false_iff_ne.2 h2, beq_eq_false_iff_ne.2 h3, beq_eq_false_iff_ne.2 h4]
            · simp [kindIs]; omega
            · simp [kindV, h1, h2, h3, h4]
  obtain ⟨r, h1, h2⟩ := key
  rcases h2 with ⟨rfl, h2, h3⟩ | ⟨i, rfl, h2⟩
  · simp [Instr.lookup, run_underlying Try.underlying100, MapKept.run_getObj_map hb, MapKept.run_checkKey Try.underlying5 hk, MapKept.run_findKey Try.underlying5 h1, Result.andThen, h2, h3]
  · simp [Instr.lookup, run_underlying Try.underlying100, MapKept.run_getObj_map hb, MapKept.run_checkKey Try.underlying5 hk, MapKept.run_findKey Try.underlying5 h1, Result.andThen, h2]
end Go.Proofs.Ytkjfagchololbaa
