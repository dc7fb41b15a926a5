/- The walks of Same, more and sound, where they say yes. -/
import Derived.Test.YtliakamlgjoabaaLRest
import Derived.Test.YtliakamlgjoabaaOneMath
namespace Go.Proofs.Ytliakamlgjoabaa
open Go.RowKit

/-- The value v is a row of the rows rs. -/
def RowsV (w : World) (v : Value) (rs : List Row) : Prop := ∃ a cap, v = .slice a rs.length cap ∧ rs.length ≤ 1000 ∧ (0 < rs.length → ∃ g, a = some ⟨g, 0, none⟩ ∧ ∀ j r, rs[j]? = some r → ∀ i, i < 10 → w.cell? ⟨g, j * 10 + i, none⟩ = (rowCells r)[i]?)
theorem RowsV.of {w : World} {base e : Nat} {v : Value} {rs : List Row} (h : w.ownsRow base e 10 v rs.length (rs.flatMap rowCells)) (hl : rs.length ≤ 1000) : RowsV w v rs := by
  obtain ⟨a, cap, h1, h2⟩ := owns_rows h
  refine ⟨a, cap, h1, hl, fun hp => ?_⟩
  obtain ⟨g, h3, _, _, h4⟩ := h2 hp
  exact ⟨g, h3, h4⟩
theorem RowsV.drewN {w : World} {v : Value} {rs : List Row} (h : RowsV w v rs) (q : Nat) : RowsV (w.drewN q) v rs := h

set_option maxRecDepth 100000 in
set_option maxHeartbeats 2000000 in
theorem same_yes (rs : List Row) (v u : Value) (w : World) (hv : RowsV w v rs) (hu : RowsV w u rs) :
    Calls Try.prog 10 #[v, u] w fun e w' => e = .returned (.bool true) ∧ ∃ q, w' = w.drewN q := by
  obtain ⟨a, cap, rfl, hm, ha⟩ := hv
  obtain ⟨a', cap', rfl, _, ha'⟩ := hu
  have HA := Lib.hid ha
  have HA' := Lib.hid ha'
  clear ha ha'
  go_enter Try.func10, Try.ntmps10
  go_wp2
  go_loopw [5] (fun i wr => ∃ k : Nat, k ≤ rs.length ∧ i = .int .i64 k ∧ ∃ q, wr = w.drewN q) (fun i _ => rs.length - (intOf i).toNat)
  case atStart => exact ⟨0, Nat.zero_le _, rfl, 0, rfl⟩
  case round =>
    obtain ⟨k, hk, rfl, q, rfl⟩ := hrel
    by_cases hlt : k < rs.length
    · obtain ⟨g, rfl, hc⟩ := HA.out (by omega)
      obtain ⟨g', rfl, hc'⟩ := HA'.out (by omega)
      obtain ⟨r, hr⟩ : ∃ r, rs[k]? = some r := ⟨_, List.getElem?_eq_getElem hlt⟩
      have d0 := hc k r hr 0 (by omega)
      have d1 := hc k r hr 1 (by omega)
      have d2 := hc k r hr 2 (by omega)
      have d3 := hc k r hr 3 (by omega)
      have d4 := hc k r hr 4 (by omega)
      have d5 := hc k r hr 5 (by omega)
      have d6 := hc k r hr 6 (by omega)
      have d7 := hc k r hr 7 (by omega)
      have d8 := hc k r hr 8 (by omega)
      have d9 := hc k r hr 9 (by omega)
      have b0 := hc' k r hr 0 (by omega)
      have b1 := hc' k r hr 1 (by omega)
      have b2 := hc' k r hr 2 (by omega)
      have b3 := hc' k r hr 3 (by omega)
      have b4 := hc' k r hr 4 (by omega)
      have b5 := hc' k r hr 5 (by omega)
      have b6 := hc' k r hr 6 (by omega)
      have b7 := hc' k r hr 7 (by omega)
      have b8 := hc' k r hr 8 (by omega)
      have b9 := hc' k r hr 9 (by omega)
      clear hc hc' hr
      obtain ⟨rc, re, rq, begun, orgs, voted, yes, decided, commit, learnt⟩ := r
      simp only [rowCells, List.getElem?_cons_zero, List.getElem?_cons_succ, Nat.add_zero] at d0 d1 d2 d3 d4 d5 d6 d7 d8 d9 b0 b1 b2 b3 b4 b5 b6 b7 b8 b9
      go_wp2
      go_quiet (fail)
      go_wp2
      go_roundw
      case rel => exact ⟨k + 1, by omega, by go_num, _, rfl⟩
      case measure => simp [intOf]; omega
    · go_wp2
      go_ret
      exact ⟨rfl, _, rfl⟩

set_option maxRecDepth 100000 in
set_option maxHeartbeats 2000000 in
theorem more_yes (a b : Row) (w : World) (h : moreB a b = true) :
    Calls Try.prog 15 #[rowV a, rowV b] w fun e w' => e = .returned (.bool true) ∧ Below w.heap.size w w' := by
  obtain ⟨ac, ae, aq, abegun, aorgs, avoted, ayes, adecided, acommit, alearnt⟩ := a
  obtain ⟨bc, be, bq, bbegun, borgs, bvoted, byes, bdecided, bcommit, blearnt⟩ := b
  unfold moreB minusB andB at h
  simp only [Bool.and_eq_true, Row.t, beq_iff_eq, Prod.mk.injEq, Bool.or_eq_true, Bool.not_eq_true'] at h
  obtain ⟨⟨⟨⟨⟨⟨rfl, rfl, rfl⟩, h2⟩, h3⟩, h4⟩, h5⟩, h6⟩ := h
  unfold rowV
  dsimp only
  have e4 := Lib.hid h4
  rcases h2 with rfl | ⟨rfl, rfl⟩
  all_goals rcases h5 with rfl | ⟨rfl, rfl⟩
  all_goals
    go_enter Try.func15, Try.ntmps15
    go_wp2
    all_goals go_ret
    all_goals exact ⟨ret_bool (by first | rfl | simp_all), ((Below.refl _ _).alloc (Nat.le_refl _) _).alloc (by simp) _⟩

set_option maxRecDepth 100000 in
set_option maxHeartbeats 2000000 in
theorem sound_yes (r : Row) (bad : Int) (w : World) (h : soundB r bad = true) :
    Calls Try.prog 16 #[rowV r, .int .u8 bad] w fun e w' => e = .returned (.bool true) ∧ Below w.heap.size w w' := by
  obtain ⟨rc, re, rq, begun, orgs, voted, yes, decided, commit, learnt⟩ := r
  unfold soundB minusB at h
  dsimp only at h
  unfold rowV
  dsimp only
  cases decided
  · cases commit
    · have h' : bits BinOp.andNot IntKind.u8 yes voted = 0 ∧ bits BinOp.andNot IntKind.u8 voted orgs = 0 ∧ learnt = 0 := by simpa [and_assoc] using h
      obtain ⟨h1, h2, rfl⟩ := h'
      clear h
      go_enter Try.func16, Try.ntmps16
      go_wp2
      all_goals go_ret
      all_goals exact ⟨ret_bool (by first | rfl | simp_all), (Below.refl _ _).alloc (Nat.le_refl _) _⟩
    · simp at h
  · cases commit
    · have h' : bits BinOp.andNot IntKind.u8 yes voted = 0 ∧ bits BinOp.andNot IntKind.u8 voted orgs = 0 := by simpa [and_assoc] using h
      obtain ⟨h1, h2⟩ := h'
      clear h
      go_enter Try.func16, Try.ntmps16
      go_wp2
      all_goals go_ret
      all_goals exact ⟨ret_bool (by first | rfl | simp_all), (Below.refl _ _).alloc (Nat.le_refl _) _⟩
    · have h' : bits BinOp.andNot IntKind.u8 yes voted = 0 ∧ bits BinOp.andNot IntKind.u8 voted orgs = 0 ∧ begun = true ∧ bits BinOp.andNot IntKind.u8 (bits BinOp.andNot IntKind.u8 orgs bad) yes = 0 ∧ bits BinOp.andNot IntKind.u8 learnt yes = 0 := by simpa [and_assoc] using h
      obtain ⟨h1, h2, rfl, h3, h4⟩ := h'
      clear h
      go_enter Try.func16, Try.ntmps16
      go_wp2
      all_goals go_ret
      all_goals exact ⟨ret_bool (by first | rfl | simp_all), (Below.refl _ _).alloc (Nat.le_refl _) _⟩
end Go.Proofs.Ytliakamlgjoabaa
