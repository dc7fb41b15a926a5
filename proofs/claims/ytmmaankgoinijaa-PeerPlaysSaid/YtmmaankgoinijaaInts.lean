/- A row of numbers behind a slice's value; chirographref01.SameInts: whether two are the same. -/
import Derived.Test.YtmmaankgoinijaaProg
import Derived.WalkKit
import Derived.WalkSpells
import Derived.WalkLawsBesides
import Derived.Deep.QuietTactic
import Derived.BigQuiet
import Derived.Lib.Hide
import Derived.IntWalk
namespace Go.Proofs.Ytmmaankgoinijaa
open Go.RowKit

/-- The value v is a slice whose elements are the numbers xs. -/
def Ints (w : World) (v : Value) (xs : List Int) : Prop :=
  ∃ a cap, v = .slice a xs.length cap ∧ xs.length ≤ maxLen ∧ (0 < xs.length → ∃ b o, a = some ⟨b, o, none⟩ ∧ ∀ i, i < xs.length → w.cell? ⟨b, o + i, none⟩ = some (.int .i64 (xs.getD i 0)))

theorem Ints.of_owns {w : World} {base e n : Nat} {v : Value} {xs : List Int} (h : w.ownsRow base e 1 v n (xs.map (Value.int .i64))) : Ints w v xs := by
  obtain ⟨hl, h2⟩ := h
  simp at hl
  rcases h2 with ⟨rfl, rfl⟩ | ⟨g, cap, cur, rfl, _, hg, hn, hm, _, ht⟩
  · exact ⟨none, 0, by rw [hl], by omega, fun h => by omega⟩
  · refine ⟨_, cap, by rw [hl], by omega, fun _ => ⟨g, 0, rfl, fun i hi => ?_⟩⟩
    rw [cell_of_row w g (0 + i) cur e (0, 0) hg]
    have h1 : (cur.toList.take (n * 1))[i]? = some (.int .i64 (xs.getD i 0)) := by rw [ht, List.getElem?_map, List.getElem?_eq_getElem hi]; simp [List.getD_eq_getElem?_getD, List.getElem?_eq_getElem hi]
    rw [List.getElem?_take] at h1
    split at h1
    · simpa using h1
    · cases h1

theorem Ints.kept {w w' : World} {v : Value} {xs : List Int} (h : Ints w v xs) (hk : ∀ a x, w.cell? a = some x → w'.cell? a = some x) : Ints w' v xs := by
  obtain ⟨a, cap, h1, h2, h3⟩ := h
  refine ⟨a, cap, h1, h2, fun hp => ?_⟩
  obtain ⟨b, o, h4, h5⟩ := h3 hp
  exact ⟨b, o, h4, fun i hi => hk _ _ (h5 i hi)⟩

/-- Two rows of numbers are the same. -/
theorem sameInts_yes (xs : List Int) (w : World) (v u : Value) (hv : Ints w v xs) (hu : Ints w u xs) :
    Calls Try.prog 19 #[v, u] w fun e w' => e = .returned (.bool true) ∧ ∃ q, w' = w.drewN q := by
  obtain ⟨a, cap, rfl, hm, ha⟩ := hv
  obtain ⟨a', cap', rfl, _, ha'⟩ := hu
  unfold maxLen at hm
  go_enter Try.func19, Try.ntmps19
  go_wp2
  go_loopw [5] (fun i wr => ∃ k : Nat, k ≤ xs.length ∧ i = .int .i64 k ∧ ∃ q, wr = w.drewN q) (fun i _ => xs.length - (intOf i).toNat)
  case atStart => exact ⟨0, Nat.zero_le _, rfl, 0, rfl⟩
  case round =>
    obtain ⟨k, hk, rfl, q, rfl⟩ := hrel
    by_cases hlt : k < xs.length
    · obtain ⟨b, o, rfl, hc⟩ := ha (by omega)
      obtain ⟨b', o', rfl, hc'⟩ := ha' (by omega)
      have h1 := hc k hlt
      have h2 := hc' k hlt
      clear hc hc'
      generalize xs.getD k 0 = x at h1 h2
      go_wp2
      go_quiet (fail)
      go_wp2
      go_roundw
      case rel => exact ⟨k + 1, by omega, by go_num, _, rfl⟩
      case measure => simp [intOf]; omega
    · go_wp2
      go_ret
      exact ⟨rfl, _, rfl⟩
end Go.Proofs.Ytmmaankgoinijaa
