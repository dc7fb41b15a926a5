/- The walks of the ledger's mayBegin, mayVote, mayLearn. -/
import Derived.Test.YtkjfagchololbaaLKinds
namespace Go.Proofs.Ytkjfagchololbaa
open Go.RowKit

structure Row where
  c : Int
  e : Int
  q : Int
  begun : Bool
  orgs : Int
  voted : Int
  yes : Int
  decided : Bool
  commit : Bool
  learnt : Int
structure Act' where
  kind : Int
  c : Int
  e : Int
  q : Int
  org : Int
  yes : Bool
  orgs : Int

def rowCells (r : Row) : List Value := [.int .i64 r.c, .int .i64 r.e, .int .i64 r.q, .bool r.begun, .int .u8 r.orgs, .int .u8 r.voted, .int .u8 r.yes, .bool r.decided, .bool r.commit, .int .u8 r.learnt]
def actV (a : Act') : Value := .agg #[.int .u8 a.kind, .int .i64 a.c, .int .i64 a.e, .int .i64 a.q, .int .i64 a.org, .bool a.yes, .int .u8 a.orgs]
def actCells (a : Act') : Array Value := #[.int .u8 a.kind, .int .i64 a.c, .int .i64 a.e, .int .i64 a.q, .int .i64 a.org, .bool a.yes, .int .u8 a.orgs]

/-- A row's cells. -/
structure RowAt (w : World) (b o : Nat) (r : Row) : Prop where
  c3 : w.cell? ⟨b, o + 3, none⟩ = some (.bool r.begun)
  c4 : w.cell? ⟨b, o + 4, none⟩ = some (.int .u8 r.orgs)
  c5 : w.cell? ⟨b, o + 5, none⟩ = some (.int .u8 r.voted)
  c6 : w.cell? ⟨b, o + 6, none⟩ = some (.int .u8 r.yes)
  c7 : w.cell? ⟨b, o + 7, none⟩ = some (.bool r.decided)
  c8 : w.cell? ⟨b, o + 8, none⟩ = some (.bool r.commit)
  c9 : w.cell? ⟨b, o + 9, none⟩ = some (.int .u8 r.learnt)

theorem RowAt.lt {w : World} {b o : Nat} {r : Row} (h : RowAt w b o r) : b < w.heap.size := World.block_lt_of_cell? w _ h.c3

def orB (a b : Int) : Int := bits BinOp.or IntKind.u8 a b

theorem mayBegin_any (g : Value) (b : Nat) (r : Row) (a : Act') (w : World) (h : RowAt w b 0 r) :
    Calls Try.prog 47 #[g, .pointer (some ⟨b, 0, none⟩), actV a] w fun e w' => e = .returned (.bool (!r.begun && !r.decided)) ∧ Below w.heap.size w w' := by
  have hlt := h.lt
  obtain ⟨c3, c4, c5, c6, c7, c8, c9⟩ := h
  simp only [Nat.zero_add] at *
  obtain ⟨_, _, _, begun, orgs, voted, yes, decided, commit, learnt⟩ := r
  dsimp only at *
  unfold actV
  cases begun
  · go_enter Try.func47, Try.ntmps47
    go_wp2
    go_ret
    exact ⟨rfl, (Below.refl _ _).alloc (Nat.le_refl _) _⟩
  · go_enter Try.func47, Try.ntmps47
    go_wp2
    go_ret
    exact ⟨rfl, (Below.refl _ _).alloc (Nat.le_refl _) _⟩

theorem mayVote_any (g : Value) (b : Nat) (r : Row) (a : Act') (w : World) (h : RowAt w b 0 r) (h0 : 0 ≤ a.org) (h1 : a.org ≤ 7) :
    Calls Try.prog 49 #[g, .pointer (some ⟨b, 0, none⟩), actV a] w fun e w' => e = .returned (.bool (r.begun && inB r.orgs a.org && !inB (orB r.voted r.learnt) a.org)) ∧ Below w.heap.size w w' := by
  have hlt := h.lt
  obtain ⟨c3, c4, c5, c6, c7, c8, c9⟩ := h
  simp only [Nat.zero_add] at *
  obtain ⟨_, _, _, begun, orgs, voted, yes, decided, commit, learnt⟩ := r
  obtain ⟨kind, c, e, q, org, ayes, aorgs⟩ := a
  dsimp only at *
  unfold actV
  dsimp only
  have hb : Below w.heap.size w (w.alloc (.cells #[.int .u8 kind, .int .i64 c, .int .i64 e, .int .i64 q, .int .i64 org, .bool ayes, .int .u8 aorgs] 33)) := (Below.refl _ _).alloc (Nat.le_refl _) _
  cases begun
  · go_enter Try.func49, Try.ntmps49
    go_wp2
    go_quiet (fail)
    go_wp2
    go_ret
    exact ⟨rfl, below_drewN hb _⟩
  · cases hi : inB orgs org
    · have HI := Lib.hid hi
      clear hi
      go_enter Try.func49, Try.ntmps49
      go_wp2
      go_quiet (first | (with_reducible refine (in_is orgs org false HI.out _ h0 h1).mono fun _ _ h => ⟨h.1, _, h.2.symm⟩))
      go_wp2
      go_ret
      exact ⟨rfl, below_drewN hb _⟩
    · have HI := Lib.hid hi
      clear hi
      go_enter Try.func49, Try.ntmps49
      go_wp2
      go_quiet (first | (with_reducible refine (in_is orgs org true HI.out _ h0 h1).mono fun _ _ h => ⟨h.1, _, h.2.symm⟩) | (with_reducible refine (in_any (bits BinOp.or IntKind.u8 voted learnt) org _ h0 h1).mono fun _ _ h => ⟨h.1, _, h.2.symm⟩))
      go_wp2
      go_ret
      exact ⟨rfl, below_drewN hb _⟩

set_option maxHeartbeats 2000000 in
theorem mayLearn_any (g : Value) (b : Nat) (r : Row) (a : Act') (w : World) (h : RowAt w b 0 r) (h0 : 0 ≤ a.org) (h1 : a.org ≤ 7) :
    Calls Try.prog 53 #[g, .pointer (some ⟨b, 0, none⟩), actV a] w fun e w' =>
      e = .returned (.bool (r.decided && (r.commit == a.yes) && !inB r.learnt a.org && (!r.begun || inB r.orgs a.org) && (!a.yes || inB r.yes a.org))) ∧ Below w.heap.size w w' := by
  have hlt := h.lt
  obtain ⟨c3, c4, c5, c6, c7, c8, c9⟩ := h
  simp only [Nat.zero_add] at *
  obtain ⟨_, _, _, begun, orgs, voted, yes, decided, commit, learnt⟩ := r
  obtain ⟨kind, c, e, q, org, ayes, aorgs⟩ := a
  dsimp only at *
  unfold actV
  dsimp only
  have hb : Below w.heap.size w (w.alloc (.cells #[.int .u8 kind, .int .i64 c, .int .i64 e, .int .i64 q, .int .i64 org, .bool ayes, .int .u8 aorgs] 33)) := (Below.refl _ _).alloc (Nat.le_refl _) _
  obtain ⟨vL, hL⟩ : ∃ v, inB learnt org = v := ⟨_, rfl⟩
  obtain ⟨vO, hO⟩ : ∃ v, inB orgs org = v := ⟨_, rfl⟩
  obtain ⟨vY, hY⟩ : ∃ v, inB yes org = v := ⟨_, rfl⟩
  rw [hL, hO, hY]
  have HL := Lib.hid hL
  have HO := Lib.hid hO
  have HY := Lib.hid hY
  clear hL hO hY
  cases decided
  · go_enter Try.func53, Try.ntmps53
    go_wp2
    go_quiet (fail)
    go_wp2
    go_ret
    exact ⟨rfl, below_drewN hb _⟩
  · cases commit <;> cases ayes <;> cases vL <;> cases begun <;> cases vO
    all_goals
      go_enter Try.func53, Try.ntmps53
      go_wp2
      go_quiet (first | (with_reducible refine (in_is learnt org _ HL.out _ h0 h1).mono fun _ _ h => ⟨h.1, _, h.2.symm⟩) | (with_reducible refine (in_is orgs org _ HO.out _ h0 h1).mono fun _ _ h => ⟨h.1, _, h.2.symm⟩) | (with_reducible refine (in_is yes org vY HY.out _ h0 h1).mono fun _ _ h => ⟨h.1, _, h.2.symm⟩))
      go_wp2
      go_ret
      exact ⟨rfl, below_drewN hb _⟩
end Go.Proofs.Ytkjfagchololbaa
