/- A ledger in memory: its rows, and the map from a transaction to its row's place. -/
import Derived.Test.YtkjfagchololbaaLBe
import Derived.Maps.Keyed
import Derived.DeepKeys5
namespace Go.Proofs.Ytkjfagchololbaa
open Go.RowKit

abbrev Txn := Int × Int × Int
def Row.t (r : Row) : Txn := (r.c, r.e, r.q)
def Act'.t (a : Act') : Txn := (a.c, a.e, a.q)
def txnV (t : Txn) : Value := .agg #[.int .i64 t.1, .int .i64 t.2.1, .int .i64 t.2.2]
def wfI (n : Int) : Prop := -9223372036854775808 ≤ n ∧ n ≤ 9223372036854775807
def wfT (t : Txn) : Prop := wfI t.1 ∧ wfI t.2.1 ∧ wfI t.2.2

theorem laidOutP : laidOutB Try.prog = true := by kernel_rfl
theorem txnKeyed : Maps.Keyed Try.prog 31 := Maps.Keyed.of_law (deep_law_gate laidOutP (of_decide_eq_true (by kernel_rfl)) (of_decide_eq_true (by kernel_rfl)) (by kernel_rfl) (by kernel_rfl))

theorem wf_of (n : Int) (h : wfI n) : (Lit.int .i64 n).wf = true := WalkArith.wf_i64 h

theorem txnKey (t : Txn) (h : wfT t) : ∃ l, keyOf Try.prog 31 (txnV t) = some l := by
  obtain ⟨c, e, q⟩ := t
  obtain ⟨h1, h2, h3⟩ := h
  have w1 := wf_of _ h1
  have w2 := wf_of _ h2
  have w3 := wf_of _ h3
  dsimp only at w1 w2 w3
  have hsz : 0 < Try.prog.types.size := of_decide_eq_true (by kernel_rfl)
  obtain ⟨m, hm⟩ : ∃ m, Try.prog.types.size = m + 1 := ⟨Try.prog.types.size - 1, by omega⟩
  have hf : (txnV (c, e, q)).formed Try.prog 31 = true := by kernel_rfl
  have hk : Try.prog.keyType 31 = true := by kernel_rfl
  have hc : Try.prog.cellsOf 31 = 3 := by kernel_rfl
  have h1 : Try.prog.cellsOf 3 = 1 := by kernel_rfl
  refine ⟨.string (keyBytes [.int .i64 c, .int .i64 e, .int .i64 q]), ?_⟩
  unfold keyOf
  rw [Try.underlying31, hf, hk, hm]
  simp [txnV, Value.cells, Program.keyLits, Try.underlying31, Try.underlying3, hc, h1, w1, w2, w3]

def entriesFrom : Nat → List Row → List MapEntry
  | _, [] => []
  | i, r :: rs => ⟨txnV r.t, .int .i64 (i : Int), i⟩ :: entriesFrom (i + 1) rs
theorem entries_get : ∀ (rs : List Row) (i j : Nat), (entriesFrom i rs)[j]? = (rs[j]?).map fun r => ⟨txnV r.t, .int .i64 ((i + j : Nat) : Int), i + j⟩
  | [], i, j => by simp [entriesFrom]
  | r :: rs, i, 0 => by simp [entriesFrom]
  | r :: rs, i, j + 1 => by
    simp only [entriesFrom, List.getElem?_cons_succ]
    rw [entries_get rs (i + 1) j, show i + 1 + j = i + (j + 1) by omega]
theorem entries_snoc : ∀ (rs : List Row) (i : Nat) (r : Row), entriesFrom i (rs ++ [r]) = entriesFrom i rs ++ [⟨txnV r.t, .int .i64 ((i + rs.length : Nat) : Int), i + rs.length⟩]
  | [], i, r => by simp [entriesFrom]
  | x :: rs, i, r => by
    simp only [List.cons_append, entriesFrom, List.length_cons]
    rw [entries_snoc rs (i + 1) r, show i + 1 + rs.length = i + (rs.length + 1) by omega]
theorem entries_length : ∀ (rs : List Row) (i : Nat), (entriesFrom i rs).length = rs.length
  | [], _ => rfl
  | _ :: rs, i => by simp [entriesFrom, entries_length rs]
theorem txnV_inj {t u : Txn} (h : txnV t = txnV u) : t = u := by
  obtain ⟨a, b, c⟩ := t
  obtain ⟨x, y, z⟩ := u
  simpa [txnV] using h

/-- Block mb is the map of the rows' transactions to their places. -/
def TMap (w : World) (mb : Nat) (rs : List Row) : Prop := w.heap[mb]? = some (.map (entriesFrom 0 rs).toArray rs.length)

theorem entries_keys {rs : List Row} (hok : ∀ r ∈ rs, wfT r.t) : ∀ e ∈ entriesFrom 0 rs, ∃ l, keyOf Try.prog 31 e.key = some l := by
  intro e he
  obtain ⟨j, hj⟩ := List.mem_iff_getElem?.1 he
  rw [entries_get] at hj
  cases hr : rs[j]? with
  | none => rw [hr] at hj; cases hj
  | some r =>
    rw [hr] at hj
    cases hj
    exact txnKey _ (hok r (List.mem_of_getElem? hr))

/-- The place of a transaction's row, of rows whose transactions are unlike. -/
def placeOf (rs : List Row) (t : Txn) : Option Nat := rs.findIdx? fun r => r.t == t
theorem place_some {rs : List Row} {t : Txn} {k : Nat} (h : placeOf rs t = some k) : ∃ r, rs[k]? = some r ∧ r.t = t := by
  obtain ⟨hk, h1, _⟩ := List.findIdx?_eq_some_iff_getElem.1 h
  exact ⟨rs[k], List.getElem?_eq_getElem hk, by simpa using h1⟩
theorem place_none {rs : List Row} {t : Txn} (h : placeOf rs t = none) : ∀ r ∈ rs, r.t ≠ t := by
  intro r hr e
  have := List.findIdx?_eq_none_iff.1 h r hr
  simp [e] at this

theorem look_map {w : World} {mb : Nat} {rs : List Row} (h : TMap w mb rs) (hok : ∀ r ∈ rs, wfT r.t) (hn : (rs.map Row.t).Nodup) (t : Txn) (ht : wfT t) :
    (Instr.lookup 90 (.map (some mb)) (txnV t) true).run Try.prog w = .ok (match placeOf rs t with | some k => .tuple #[.int .i64 (k : Int), .bool true] | none => .tuple #[.int .i64 0, .bool false]) w := by
  obtain ⟨l, hl⟩ := txnKey t ht
  have hc := fun em => txnKeyed.check w em hl
  have hz : (zeroValue 3).run Try.prog w = .ok (.int .i64 0) w := by kernel_rfl
  rcases txnKeyed.find w hl (entriesFrom 0 rs) (entries_keys hok) with ⟨h1, h2⟩ | ⟨j, e, h1, h2, h3⟩
  · have hp : placeOf rs t = none := by
      cases hp : placeOf rs t with
      | none => rfl
      | some k =>
        obtain ⟨r, hr, hrt⟩ := place_some hp
        have := entries_get rs 0 k
        rw [hr] at this
        exact absurd (congrArg txnV hrt) (h2 _ (List.mem_of_getElem? this))
    rw [hp]
    simp [Instr.lookup, run_underlying Try.underlying90, MapKept.run_getObj_map h, hc, h1, hz, Result.andThen]
  · rw [entries_get] at h2
    cases hr : rs[j]? with
    | none => rw [hr] at h2; cases h2
    | some r =>
      rw [hr] at h2
      cases h2
      have hrt : r.t = t := txnV_inj h3
      have hp : placeOf rs t = some j := by
        cases hp : placeOf rs t with
        | none => exact absurd hrt (place_none hp r (List.mem_of_getElem? hr))
        | some k =>
          obtain ⟨r', hr', hrt'⟩ := place_some hp
          have hjl : j < (rs.map Row.t).length := by rw [List.length_map]; exact (List.getElem?_eq_some_iff.1 hr).1
          have hkj : (rs.map Row.t)[k]? = (rs.map Row.t)[j]? := by rw [List.getElem?_map, List.getElem?_map, hr, hr']; simp [hrt, hrt']
          rw [(List.getElem?_inj hjl hn).1 hkj.symm]
      rw [hp]
      simp [Instr.lookup, run_underlying Try.underlying90, MapKept.run_getObj_map h, hc, h1, Result.andThen]

/-- 'at[t] = len(rows)', t not yet there. -/
theorem put_map {w : World} {mb : Nat} {rs : List Row} (h : TMap w mb rs) (hok : ∀ r ∈ rs, wfT r.t) (r : Row) (ht : wfT r.t) (hp : placeOf rs r.t = none) :
    (Instr.mapUpdate 90 (.map (some mb)) (txnV r.t) (.int .i64 (rs.length : Int))).run Try.prog w = .ok () (ChangeMaps.setBlock w mb (.map (entriesFrom 0 (rs ++ [r])).toArray (rs.length + 1))) := by
  obtain ⟨l, hl⟩ := txnKey r.t ht
  have hc := fun em => txnKeyed.check w em hl
  rcases txnKeyed.find w hl (entriesFrom 0 rs) (entries_keys hok) with ⟨h1, _⟩ | ⟨j, e, _, h2, h3⟩
  · simp [Instr.mapUpdate, run_underlying Try.underlying90, MapKept.run_getObj_map h, hc, h1, MapKept.run_setObj_map _ h, Result.andThen, ChangeMaps.setBlock, entries_snoc]
  · rw [entries_get] at h2
    cases hr : rs[j]? with
    | none => rw [hr] at h2; cases h2
    | some r' =>
      rw [hr] at h2
      cases h2
      exact absurd (txnV_inj h3) (place_none hp r' (List.mem_of_getElem? hr))

/-- What may stand in a row's sets. -/
structure RowOk (r : Row) : Prop where
  t : wfT r.t
  o : 0 ≤ r.orgs ∧ r.orgs ≤ 255
  v : 0 ≤ r.voted ∧ r.voted ≤ 255
  y : 0 ≤ r.yes ∧ r.yes ≤ 255
  l : 0 ≤ r.learnt ∧ r.learnt ≤ 255

/-- A ledger lies in block gb: its bad ones; its rows, behind the value rv; its map, in block mb. -/
structure GAt (w : World) (base gb mb : Nat) (rv : Value) (bad : Int) (rs : List Row) : Prop where
  cells : w.heap[gb]? = some (.cells #[.int .u8 bad, rv, .map (some mb)] 92 (0, 0))
  rows : w.ownsRow base 62 10 rv rs.length (rs.flatMap rowCells)
  map : TMap w mb rs
  low : base ≤ gb ∧ base ≤ mb
  nodup : (rs.map Row.t).Nodup
  ok : ∀ r ∈ rs, RowOk r
  few : rs.length ≤ 1000

theorem GAt.c {w : World} {base gb mb : Nat} {rv : Value} {bad : Int} {rs : List Row} (h : GAt w base gb mb rv bad rs) :
    w.cell? ⟨gb, 0, none⟩ = some (.int .u8 bad) ∧ w.cell? ⟨gb, 1, none⟩ = some rv ∧ w.cell? ⟨gb, 2, none⟩ = some (.map (some mb)) := by
  have := h.cells
  simp [World.cell?, this]
theorem GAt.frozen {w : World} {base gb mb : Nat} {rv : Value} {bad : Int} {rs : List Row} (h : GAt w base gb mb rv bad rs) (o : Nat) : w.frozen? ⟨gb, o, none⟩ = false := by simp [World.frozen?, h.cells]
theorem GAt.lt {w : World} {base gb mb : Nat} {rv : Value} {bad : Int} {rs : List Row} (h : GAt w base gb mb rv bad rs) : gb < w.heap.size := (Array.getElem?_eq_some_iff.1 h.cells).1
theorem GAt.ltm {w : World} {base gb mb : Nat} {rv : Value} {bad : Int} {rs : List Row} (h : GAt w base gb mb rv bad rs) : mb < w.heap.size := (Array.getElem?_eq_some_iff.1 h.map).1
theorem GAt.ne {w : World} {base gb mb : Nat} {rv : Value} {bad : Int} {rs : List Row} (h : GAt w base gb mb rv bad rs) : gb ≠ mb := by
  rintro rfl
  have := h.map
  unfold TMap at this
  rw [h.cells] at this
  cases this
theorem GAt.kept {w w' : World} {base gb mb : Nat} {rv : Value} {bad : Int} {rs : List Row} {S : Nat → Prop} (h : GAt w base gb mb rv bad rs) (ho : Only S w w') (hg : ¬ S gb) (hm : ¬ S mb) (hv : ∀ k, rv.ownBlock = some k → ¬ S k) : GAt w' base gb mb rv bad rs :=
  ⟨ho.obj h.cells hg, ho.owns h.rows hv, ho.obj h.map hm, h.low, h.nodup, h.ok, h.few⟩
theorem GAt.wf {w : World} {base gb mb : Nat} {rv : Value} {bad : Int} {rs : List Row} (h : GAt w base gb mb rv bad rs) : ∀ r ∈ rs, wfT r.t := fun r hr => (h.ok r hr).t

/-- A row's ten cells. -/
theorem flat10 (rs : List Row) (j : Nat) {r : Row} (h : rs[j]? = some r) (i : Nat) (hi : i < 10) : (rs.flatMap rowCells)[j * 10 + i]? = (rowCells r)[i]? := by
  induction rs generalizing j with
  | nil => cases h
  | cons q rs ih =>
    cases j with
    | zero =>
      cases h
      rw [List.flatMap_cons, List.getElem?_append_left (by simp [rowCells]; omega)]
      simp
    | succ j =>
      rw [List.flatMap_cons, List.getElem?_append_right (by simp [rowCells]; omega)]
      have := ih j (by simpa using h)
      rw [show (j + 1) * 10 + i - (rowCells q).length = j * 10 + i from by simp [rowCells]; omega, this]

/-- The cells behind a row's value. -/
theorem owns_rows {w : World} {base e : Nat} {rv : Value} {rs : List Row} (h : w.ownsRow base e 10 rv rs.length (rs.flatMap rowCells)) :
    ∃ a cap, rv = .slice a rs.length cap ∧ (0 < rs.length → ∃ g, a = some ⟨g, 0, none⟩ ∧ rv.ownBlock = some g ∧ (∀ o, w.frozen? ⟨g, o, none⟩ = false) ∧ ∀ j r, rs[j]? = some r → ∀ i, i < 10 → w.cell? ⟨g, j * 10 + i, none⟩ = (rowCells r)[i]?) := by
  rcases h.2 with ⟨h1, h2⟩ | ⟨g, cap', cur, h1, _, hg, _, _, _, ht⟩
  · exact ⟨none, 0, by rw [h1, h2], fun hp => by omega⟩
  · refine ⟨_, cap', h1, fun _ => ⟨g, rfl, by rw [h1]; rfl, fun o => by simp [World.frozen?, hg], fun j r hr i hi => ?_⟩⟩
    have hj : j < rs.length := (List.getElem?_eq_some_iff.1 hr).1
    rw [cell_of_row w g (j * 10 + i) cur e (0, 0) hg, ← flat10 rs j hr i hi, ← ht, List.getElem?_take, if_pos (by omega)]
    simp
end Go.Proofs.Ytkjfagchololbaa
