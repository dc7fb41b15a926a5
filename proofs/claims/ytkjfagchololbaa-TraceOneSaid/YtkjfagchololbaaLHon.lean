/- The iterator over a transaction's honest members; the walk of the ledger's mayDecide. -/
import Derived.RangeFuncBox
import Derived.RangeFuncLeaves
import Derived.Shelf.Abstract
import Derived.OwnWalkIn
import Derived.TacticsInMore
import Derived.LoopNIn
import Derived.LoopIn
import Derived.Maps.AppendAt
import Derived.Stop.RegionWithIn
import Derived.Sort.QuietTacIn
import Derived.Test.YtkjfagchololbaaLCan
namespace Go.Proofs.Ytkjfagchololbaa
open Go.RowKit Go.Shelf

attribute [local go_sem] Oper.semAt_some

def minusB (a b : Int) : Int := bits BinOp.andNot IntKind.u8 a b

/-- Those of the first k that are in a set and not bad, rising. -/
def honB (orgs bad : Int) (k : Nat) : List (Fin 8) := (List.range k).filterMap fun j : Nat => if h : j < 8 then (if inB (minusB orgs bad) (j : Int) = true then some ⟨j, h⟩ else none) else none
theorem honB_succ (orgs bad : Int) (k : Nat) (h : k < 8) : honB orgs bad (k + 1) = honB orgs bad k ++ if inB (minusB orgs bad) (k : Int) = true then [⟨k, h⟩] else [] := by
  unfold honB
  rw [List.range_succ, List.filterMap_append]
  congr 1
  by_cases hi : inB (minusB orgs bad) (k : Int) = true
  · simp [h, hi]
  · simp [h, hi]
theorem honB_len (orgs bad : Int) (k : Nat) : (honB orgs bad k).length ≤ k := by
  unfold honB
  exact Nat.le_trans (List.length_filterMap_le _ _) (by simp)
theorem honB_prefix (orgs bad : Int) {j : Nat} (h : j < 8) : honB orgs bad (j + 1) <+: honB orgs bad 8 := by
  have key : ∀ m, j + 1 + m ≤ 8 → honB orgs bad (j + 1) <+: honB orgs bad (j + 1 + m) := by
    intro m
    induction m with
    | zero => exact fun _ => List.prefix_refl _
    | succ m ih => exact fun hm => (ih (by omega)).trans ⟨_, (honB_succ orgs bad (j + 1 + m) (by omega)).symm⟩
  have := key (7 - j) (by omega)
  rwa [show j + 1 + (7 - j) = 8 by omega] at this

structure SparesAll (N : Nat) (W W' : World) : Prop where
  size : W.heap.size ≤ W'.heap.size
  block : ∀ k, k < N → W'.heap[k]? = W.heap[k]?

/-- What a call of yield leaves. -/
def YP (N : Nat) (J Jx : List (Fin 8) → World → Prop) (pre : List (Fin 8)) (W : World) (v : Bool) (W' : World) : Prop := (v = true ∧ J pre W' ∧ SparesAll N W W') ∨ (v = false ∧ Jx pre W')
theorem yp_of {N : Nat} {J Jx : List (Fin 8) → World → Prop} {pre : List (Fin 8)} {W W' : World} {e : Ending}
    (h : (e = .returned (.bool true) ∧ J pre W' ∧ SparesAll N W W') ∨ (e = .returned (.bool false) ∧ Jx pre W')) : ∃ v : Bool, e = .returned (.bool v) ∧ YP N J Jx pre W v W' := by
  rcases h with ⟨h1, h2⟩ | ⟨h1, h2⟩
  · exact ⟨true, h1, .inl ⟨rfl, h2⟩⟩
  · exact ⟨false, h1, .inr ⟨rfl, h2⟩⟩

set_option maxRecDepth 100000 in
set_option maxHeartbeats 8000000 in
theorem honest1_in (n : Nat) (hn : 1 ≤ n) (l Br Bg rb gb N : Nat) (orgs bad : Int) (J Jx : List (Fin 8) → World → Prop) (hBr : Br < N) (hBg : Bg < N) (hrb : rb < N) (hgb : gb < N)
    (hJd : ∀ pre W, J pre W → J pre W.drew)
    (hY : ∀ pre (v : Fin 8) W, J pre W → pre.length < 8 → YieldAt Fence.wide (n - 1) Try.prog l #[.int .i64 ((v.val : Nat) : Int)] W fun e W' =>
      (e = .returned (.bool true) ∧ J (pre ++ [v]) W' ∧ SparesAll N W W') ∨ (e = .returned (.bool false) ∧ Jx (pre ++ [v]) W'))
    (W : World) (r0 : W.cell? ⟨Br, 0, none⟩ = some (.pointer (some ⟨rb, 0, none⟩))) (g0 : W.cell? ⟨Bg, 0, none⟩ = some (.pointer (some ⟨gb, 0, none⟩)))
    (r4 : W.cell? ⟨rb, 4, none⟩ = some (.int .u8 orgs)) (gc : W.cell? ⟨gb, 0, none⟩ = some (.int .u8 bad)) (h0 : J [] W) :
    CallsIn Fence.wide n Try.prog 65 #[.func (.yield l) #[] #[], .pointer (some ⟨Br, 0, none⟩), .pointer (some ⟨Bg, 0, none⟩)] W fun e W' => (∃ v, e = .returned v) ∧
      ((∃ ys, ys = honB orgs bad 8 ∧ J ys W') ∨ (∃ pre, pre <+: honB orgs bad 8 ∧ Jx pre W')) := by
  refine callsIn_of_wp Try.func65 rfl trivial ?_ rfl
  simp only [Try.ntmps65, List.size_toArray, List.length_cons, List.length_nil, Nat.reduceAdd, Nat.reduceSub, Array.replicate_succ, Array.replicate_zero, List.push_toArray, List.append_toArray, List.nil_append, List.cons_append]
  gi_wp2
  gi_loopw [5] (fun k wr => ∃ (j : Nat), j ≤ 8 ∧ k = .int .i64 j ∧ J (honB orgs bad j) wr ∧ (∀ i, i < N → wr.heap[i]? = W.heap[i]?)) (fun k _ => 8 - (intOf k).toNat)
  case atStart => exact ⟨0, by omega, rfl, h0, fun _ _ => rfl⟩
  case round =>
    obtain ⟨j, hj, rfl, hJ, hk⟩ := hrel
    have s0 := (World.cell?_of_block (a := ⟨Br, 0, none⟩) (hk Br hBr)).trans r0
    have s1 := (World.cell?_of_block (a := ⟨Bg, 0, none⟩) (hk Bg hBg)).trans g0
    have s2 := (World.cell?_of_block (a := ⟨rb, 4, none⟩) (hk rb hrb)).trans r4
    have s3 := (World.cell?_of_block (a := ⟨gb, 0, none⟩) (hk gb hgb)).trans gc
    clear r0 g0 r4 gc h0
    by_cases hlt : j < 8
    · have hlt' : (j : Int) < 8 := by omega
      have hs := honB_succ orgs bad j hlt
      cases hi : inB (minusB orgs bad) (j : Int)
      · rw [hi] at hs
        have HS := Lib.hid hs
        have HI := Lib.hid hi
        clear hs hi
        gi_wp2
        first
          | (gi_region_with (first | (refine ⟨trivial, ?_⟩; gi_at_call 58; refine (callsIn_wide.2 (in_is (bits BinOp.andNot IntKind.u8 orgs bad) (j : Int) false HI.out _ (by omega) (by omega))).mono ?_; rintro e w' ⟨rfl, rfl⟩) | (refine ⟨fun _ h => (by cases h), ?_⟩)))
          | fail
        all_goals gi_wp2
        all_goals exact ⟨⟨j + 1, by omega, by go_num, by rw [HS.out]; simpa using hJd _ _ hJ, hk⟩, by simp only [intOf]; omega⟩
      · rw [hi] at hs
        have HS := Lib.hid hs
        have HI := Lib.hid hi
        clear hs hi
        obtain ⟨fn, tmps, assign, body, hy, hR⟩ := hY _ ⟨j, hlt⟩ wr.drew (hJd _ _ hJ) (Nat.lt_of_le_of_lt (honB_len orgs bad j) hlt)
        gi_wp2
        first
          | (gi_region_with (first | (refine ⟨trivial, ?_⟩; gi_at_call 58; refine (callsIn_wide.2 (in_is (bits BinOp.andNot IntKind.u8 orgs bad) (j : Int) true HI.out _ (by omega) (by omega))).mono ?_; rintro e w' ⟨rfl, rfl⟩) | (refine hR.mono ?_; intro e W3 h3; obtain ⟨v, rfl, h4⟩ := yp_of h3)))
          | fail
        all_goals gi_wp2
        all_goals
          rcases h4 with ⟨rfl, h5, h6⟩ | ⟨rfl, h5⟩
          · first
              | (exact absurd (by assumption : (!true) = true) (by decide))
              | exact ⟨⟨j + 1, by omega, by go_num, by rw [HS.out]; simpa using h5, fun i hi => (h6.block i hi).trans (hk i hi)⟩, by simp only [intOf]; omega⟩
          · first
              | (exact absurd (by assumption : (!false) = false) (by decide))
              | (refine bodyPost_ret (results_none rfl _ _ _) rfl ?_
                 exact ⟨⟨_, rfl⟩, .inr ⟨honB orgs bad (j + 1), honB_prefix orgs bad hlt, by rw [HS.out]; simpa using h5⟩⟩)
    · obtain rfl : j = 8 := by omega
      clear hlt
      gi_wp2
      go_end0
      exact ⟨⟨_, rfl⟩, .inl ⟨_, rfl, hJ⟩⟩
end Go.Proofs.Ytkjfagchololbaa
