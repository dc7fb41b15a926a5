/- The walks of the ledger's begin, vote, decide, learn: what they write into a row. -/
import Derived.Test.YtkjfagchololbaaLMay
namespace Go.Proofs.Ytkjfagchololbaa
open Go.RowKit

/-- A row's ten cells, of a row of rows. -/
structure RowIn (w : World) (base : Nat) (rv : Value) (rs : List Row) (g k : Nat) (r : Row) : Prop where
  own : w.ownsRow base 62 10 rv rs.length (rs.flatMap rowCells)
  at' : rs[k]? = some r
  g : rv.ownBlock = some g

theorem RowIn.slice {w : World} {base : Nat} {rv : Value} {rs : List Row} {g k : Nat} {r : Row} (h : RowIn w base rv rs g k r) : ∃ cap, rv = .slice (some ⟨g, 0, none⟩) rs.length cap := by
  obtain ⟨a, cap, h1, h2⟩ := owns_rows h.own
  obtain ⟨g', h3, h4, _⟩ := h2 (by have := (List.getElem?_eq_some_iff.1 h.at').1; omega)
  have := h.g
  rw [h4] at this
  cases this
  exact ⟨cap, by rw [h1, h3]⟩
theorem RowIn.cell {w : World} {base : Nat} {rv : Value} {rs : List Row} {g k : Nat} {r : Row} (h : RowIn w base rv rs g k r) (i : Nat) (hi : i < 10) : w.cell? ⟨g, k * 10 + i, none⟩ = (rowCells r)[i]? ∧ w.frozen? ⟨g, k * 10 + i, none⟩ = false := by
  obtain ⟨a, cap, h1, h2⟩ := owns_rows h.own
  obtain ⟨g', h3, h4, h5, h6⟩ := h2 (by have := (List.getElem?_eq_some_iff.1 h.at').1; omega)
  have := h.g
  rw [h4] at this
  cases this
  exact ⟨h6 k r h.at' i hi, h5 _⟩
theorem RowIn.lt {w : World} {base : Nat} {rv : Value} {rs : List Row} {g k : Nat} {r : Row} (h : RowIn w base rv rs g k r) : g < w.heap.size ∧ k < rs.length := ⟨(h.own.lt g h.g).2, (List.getElem?_eq_some_iff.1 h.at').1⟩
theorem RowIn.kept {w w' : World} {base : Nat} {rv : Value} {rs : List Row} {g k : Nat} {r : Row} {S : Nat → Prop} (h : RowIn w base rv rs g k r) (ho : Only S w w') (hg : ¬ S g) : RowIn w' base rv rs g k r :=
  ⟨ho.owns h.own (fun j hj => by rw [h.g] at hj; cases hj; exact hg), h.at', h.g⟩


/-- Cell i of row k put anew. -/
theorem flat_put (rs : List Row) (k i : Nat) (r r' : Row) (u : Value) (h : rs[k]? = some r) (hi : i < 10) (hr : rowCells r' = (rowCells r).set i u) : (rs.set k r').flatMap rowCells = (rs.flatMap rowCells).set (k * 10 + i) u := by
  induction rs generalizing k with
  | nil => cases h
  | cons q rs ih =>
    have hq : (rowCells q).length = 10 := rfl
    cases k with
    | zero =>
      cases h
      rw [List.set_cons_zero, List.flatMap_cons, List.flatMap_cons, hr, List.set_append_left _ _ (by rw [hq]; omega)]
      simp
    | succ k =>
      rw [List.set_cons_succ, List.flatMap_cons, List.flatMap_cons, ih k (by simpa using h), List.set_append_right _ _ (by rw [hq]; omega), hq]
      congr 2
      omega

theorem RowIn.put {w : World} {base : Nat} {rv : Value} {rs : List Row} {g k : Nat} {r : Row} (h : RowIn w base rv rs g k r) (i : Nat) (hi : i < 10) (u : Value) (r' : Row) (hr : rowCells r' = (rowCells r).set i u) :
    RowIn (w.setCell ⟨g, k * 10 + i, none⟩ u) base rv (rs.set k r') g k r' := by
  obtain ⟨cap, rfl⟩ := h.slice
  have h1 := (h.own.stored (k * 10 + i) u).1
  refine ⟨?_, ?_, rfl⟩
  · rw [flat_put rs k i r r' u h.at' hi hr, List.length_set]
    exact h1
  · rw [List.getElem?_set_self (h.lt).2]
theorem RowIn.drewN {w : World} {base : Nat} {rv : Value} {rs : List Row} {g k : Nat} {r : Row} (h : RowIn w base rv rs g k r) (q : Nat) : RowIn (w.drewN q) base rv rs g k r := ⟨h.own, h.at', h.g⟩

theorem RowIn.alloc {w : World} {base : Nat} {rv : Value} {rs : List Row} {g k : Nat} {r : Row} (h : RowIn w base rv rs g k r) (o : Obj) : RowIn (w.alloc o) base rv rs g k r := h.kept ((Only.refl (fun _ => False) w).alloc o) id
theorem RowIn.over {w : World} {base : Nat} {rv : Value} {rs : List Row} {g k : Nat} {r r' : Row} (h : RowIn w base rv ((rs.set k r).set k r') g k r') : RowIn w base rv (rs.set k r') g k r' := by rwa [List.set_set] at h

def addB (s k : Int) : Int := bits BinOp.or IntKind.u8 s (IntKind.u8.wrap (2 ^ k.toNat))
def voteR (r : Row) (a : Act') : Row := { r with voted := addB r.voted a.org, yes := if a.yes = true then addB r.yes a.org else r.yes }
def learnR (r : Row) (a : Act') : Row := { r with learnt := addB r.learnt a.org }
def beginR (r : Row) (a : Act') : Row := { r with begun := true, orgs := a.orgs }
def decideR (r : Row) (a : Act') : Row := { r with decided := true, commit := a.yes }

/-- What a do-function leaves. -/
def DoPost (w : World) (base : Nat) (rv : Value) (rs : List Row) (g k : Nat) (r : Row) (e : Ending) (w' : World) : Prop :=
  (∃ v, e = .returned v) ∧ RowIn w' base rv (rs.set k r) g k r ∧ Only (fun j => j = g) w w'

set_option maxHeartbeats 2000000 in
theorem begin_any (lg : Value) (base : Nat) (rv : Value) (rs : List Row) (g k : Nat) (r : Row) (a : Act') (w : World) (h : RowIn w base rv rs g k r) :
    Calls Try.prog 48 #[lg, .pointer (some ⟨g, k * 10, none⟩), actV a] w (DoPost w base rv rs g k (beginR r a)) := by
  obtain ⟨hgl, hkl⟩ := h.lt
  obtain ⟨c3, f3⟩ := h.cell 3 (by omega)
  obtain ⟨c4, f4⟩ := h.cell 4 (by omega)
  obtain ⟨kind, c, e, q, org, ayes, aorgs⟩ := a
  unfold actV
  dsimp only
  simp only [rowCells, List.getElem?_cons_zero, List.getElem?_cons_succ] at c3 c4
  go_enter Try.func48, Try.ntmps48
  go_wp2
  go_region
  go_end0
  have p1 := h.put 3 (by omega) (.bool true) { r with begun := true } rfl
  have p2 := (p1.put 4 (by omega) (.int .u8 aorgs) { r with begun := true, orgs := aorgs } rfl).over
  exact ⟨⟨_, rfl⟩, (p2.alloc _).drewN 1, ((((Only.refl (fun j : Nat => j = g) w).setCell (p := ⟨g, k * 10 + 3, none⟩) rfl _).setCell (p := ⟨g, k * 10 + 4, none⟩) rfl _).alloc _).drew⟩

set_option maxHeartbeats 2000000 in
theorem decide_any (lg : Value) (base : Nat) (rv : Value) (rs : List Row) (g k : Nat) (r : Row) (a : Act') (w : World) (h : RowIn w base rv rs g k r) :
    Calls Try.prog 52 #[lg, .pointer (some ⟨g, k * 10, none⟩), actV a] w (DoPost w base rv rs g k (decideR r a)) := by
  obtain ⟨hgl, hkl⟩ := h.lt
  obtain ⟨c7, f7⟩ := h.cell 7 (by omega)
  obtain ⟨c8, f8⟩ := h.cell 8 (by omega)
  obtain ⟨kind, c, e, q, org, ayes, aorgs⟩ := a
  unfold actV
  dsimp only
  simp only [rowCells, List.getElem?_cons_zero, List.getElem?_cons_succ] at c7 c8
  go_enter Try.func52, Try.ntmps52
  go_wp2
  go_region
  go_end0
  have p1 := h.put 7 (by omega) (.bool true) { r with decided := true } rfl
  have p2 := (p1.put 8 (by omega) (.bool ayes) { r with decided := true, commit := ayes } rfl).over
  exact ⟨⟨_, rfl⟩, (p2.alloc _).drewN 1, ((((Only.refl (fun j : Nat => j = g) w).setCell (p := ⟨g, k * 10 + 7, none⟩) rfl _).setCell (p := ⟨g, k * 10 + 8, none⟩) rfl _).alloc _).drew⟩

set_option maxHeartbeats 2000000 in
theorem learn_any (lg : Value) (base : Nat) (rv : Value) (rs : List Row) (g k : Nat) (r : Row) (a : Act') (w : World) (h : RowIn w base rv rs g k r) (h0 : 0 ≤ a.org) (h7 : a.org ≤ 7) :
    Calls Try.prog 54 #[lg, .pointer (some ⟨g, k * 10, none⟩), actV a] w (DoPost w base rv rs g k (learnR r a)) := by
  obtain ⟨hgl, hkl⟩ := h.lt
  obtain ⟨c9, f9⟩ := h.cell 9 (by omega)
  obtain ⟨kind, c, e, q, org, ayes, aorgs⟩ := a
  dsimp only at h0 h7
  unfold actV
  dsimp only
  simp only [rowCells, List.getElem?_cons_zero, List.getElem?_cons_succ] at c9
  go_enter Try.func54, Try.ntmps54
  go_wp2
  go_region
  go_end0
  have p1 := h.put 9 (by omega) (.int .u8 (addB r.learnt org)) { r with learnt := addB r.learnt org } rfl
  exact ⟨⟨_, rfl⟩, (p1.alloc _).drewN 1, (((Only.refl (fun j : Nat => j = g) w).setCell (p := ⟨g, k * 10 + 9, none⟩) rfl _).alloc _).drew⟩

set_option maxHeartbeats 2000000 in
theorem vote_any (lg : Value) (base : Nat) (rv : Value) (rs : List Row) (g k : Nat) (r : Row) (a : Act') (w : World) (h : RowIn w base rv rs g k r) (h0 : 0 ≤ a.org) (h7 : a.org ≤ 7) :
    Calls Try.prog 50 #[lg, .pointer (some ⟨g, k * 10, none⟩), actV a] w (DoPost w base rv rs g k (voteR r a)) := by
  obtain ⟨hgl, hkl⟩ := h.lt
  obtain ⟨c5, f5⟩ := h.cell 5 (by omega)
  obtain ⟨c6, f6⟩ := h.cell 6 (by omega)
  obtain ⟨kind, c, e, q, org, ayes, aorgs⟩ := a
  dsimp only at h0 h7
  unfold actV
  dsimp only
  simp only [rowCells, List.getElem?_cons_zero, List.getElem?_cons_succ] at c5 c6
  cases ayes
  · go_enter Try.func50, Try.ntmps50
    go_wp2
    go_region
    go_wp2
    go_end0
    have p1 := h.put 5 (by omega) (.int .u8 (addB r.voted org)) { r with voted := addB r.voted org } rfl
    exact ⟨⟨_, rfl⟩, (p1.alloc _).drewN 1, (((Only.refl (fun j : Nat => j = g) w).setCell (p := ⟨g, k * 10 + 5, none⟩) rfl _).alloc _).drew⟩
  · go_enter Try.func50, Try.ntmps50
    go_wp2
    go_region
    go_wp2
    go_region
    go_end0
    have p1 := h.put 5 (by omega) (.int .u8 (addB r.voted org)) { r with voted := addB r.voted org } rfl
    have p2 := (p1.put 6 (by omega) (.int .u8 (addB r.yes org)) { r with voted := addB r.voted org, yes := addB r.yes org } rfl).over
    exact ⟨⟨_, rfl⟩, (p2.alloc _).drewN 2, ((((Only.refl (fun j : Nat => j = g) w).setCell (p := ⟨g, k * 10 + 5, none⟩) rfl _).setCell (p := ⟨g, k * 10 + 6, none⟩) rfl _).alloc _).drew.drew⟩
end Go.Proofs.Ytkjfagchololbaa
