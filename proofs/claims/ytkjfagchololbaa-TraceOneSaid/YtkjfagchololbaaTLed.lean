/- The walks of the ledger's New and Rows (slices.Clone of rows); what Apply leaves. -/
import Derived.Test.YtkjfagchololbaaLApply
import Derived.Lib.SliceRun
namespace Go.Proofs.Ytkjfagchololbaa
open Go.RowKit Go.Lib

theorem newL_any (bad : Int) (w : World) : Calls Try.prog 35 #[.int .u8 bad] w fun e w' =>
    ∃ gb mb, e = .returned (.pointer (some ⟨gb, 0, none⟩)) ∧ GAt w' w.heap.size gb mb (.slice none 0 0) bad [] ∧ Below w.heap.size w w' := by
  have hmm := @run_makeMap Try.prog
  go_enter Try.func35, Try.ntmps35
  go_wp2
  go_ret
  refine ⟨_, w.heap.size, rfl, ⟨heap_at _ _ _ (by simp), World.ownsRow_nil _ _ _ _, (heap_alloc_old _ _ _ (by simp)).trans (heap_alloc_new _ _), by simp, by simp, by simp, by simp⟩, ((Below.refl _ _).alloc (Nat.le_refl _) _).alloc (by simp) _⟩

set_option maxHeartbeats 2000000 in
/-- slices.Clone at rows: a new row of the same cells. -/
theorem cloneRows_any (base : Nat) (rv : Value) (n : Nat) (xs : List Value) (w : World) (h : w.ownsRow base 62 10 rv n xs) (hxs : ∀ u ∈ xs, u.oneCell' = true) (hn : n ≤ 1000) :
    Calls Try.prog 40 #[rv] w fun e w' => ∃ v', e = .returned v' ∧ w'.ownsRow w.heap.size 62 10 v' n xs ∧ Below w.heap.size w w' := by
  obtain ⟨i0, hi, hz0, hz1, hz2⟩ := info_parts infoRow
  have hl : xs.length = n * 10 := h.1
  have q22 : ∀ (w : World) (a : Option Addr) (n c n' c' : Nat), (binOp .eql 52 (.slice a n c) (.slice none n' c')).run Try.prog w = .ok (.bool a.isNone) w := fun w a n c n' c' => Lib.run_eql_slice_nil w _ _ a n c n' c' Try.underlying52
  rcases h.2 with ⟨rfl, rfl⟩ | ⟨g, cap, cur, rfl, _, hg, _, hcap, _, ht⟩
  · have hx : xs = [] := List.eq_nil_of_length_eq_zero (by omega)
    subst hx
    go_enter Try.func40, Try.ntmps40
    go_wp2
    go_ret
    exact ⟨_, rfl, World.ownsRow_nil _ _ _ _, Below.refl _ _⟩
  · have A : Aside (∀ j u, xs[j]? = some u → w.cell? ⟨g, 0 + j, none⟩ = some u) := by
      intro j u hj
      rw [Nat.zero_add, cell_of_row w g j cur _ (0, 0) hg]
      rw [← ht, List.getElem?_take] at hj
      split at hj
      · simpa using hj
      · cases hj
    clear h hg ht
    go_enter Try.func40, Try.ntmps40
    go_wp2_with (at_builtin; refine wpList_append_own _ rfl _ _ 52 rfl w.heap.size 62 i0 _ 10 32 Try.underlying52 hi hz0 hz1 hz2 rfl (by omega) _ _ _ rfl (World.ownsRow_made w #[] 0 (Nat.le_refl _) (Nat.zero_le _) (by simp)) ⟨g, 0, none⟩ n cap xs rfl ?qc1 ?qc2 ?qc3 ?qc4 ?qc5 ?qc6 ?_)
    case qc1 => exact hl
    case qc2 =>
      intro j u hj
      rw [Addr.add_lit]
      exact Lib.cell?_alloc_some _ (A j u hj)
    case qc3 => exact hxs
    case qc4 => unfold maxLen; omega
    case qc5 => omega
    case qc6 => simp
    intro v' w1 hown hgrow hnil
    go_wp2
    go_ret
    refine ⟨v', rfl, by simpa using hown, ?_⟩
    exact ((Below.refl _ w).alloc (Nat.le_refl _) _).grown hgrow (by simp) (by intro k hk; simp [Value.ownBlock] at hk; omega)

theorem row_one (r : Row) : ∀ u ∈ rowCells r, u.oneCell' = true := by
  intro u hu
  simp only [rowCells, List.mem_cons, List.not_mem_nil, or_false] at hu
  rcases hu with rfl | rfl | rfl | rfl | rfl | rfl | rfl | rfl | rfl | rfl <;> rfl
theorem rows_one (rs : List Row) : ∀ u ∈ rs.flatMap rowCells, u.oneCell' = true := by
  intro u hu
  obtain ⟨r, _, h⟩ := List.mem_flatMap.1 hu
  exact row_one r u h

/-- A new row of rows. -/
def RowsPost (rs : List Row) (w : World) (e : Ending) (w' : World) : Prop :=
  ∃ v, e = .returned v ∧ w'.ownsRow w.heap.size 62 10 v rs.length (rs.flatMap rowCells) ∧ Below w.heap.size w w'

theorem rows_any (base gb mb : Nat) (rv : Value) (bad : Int) (rs : List Row) (w : World) (h : GAt w base gb mb rv bad rs) :
    Calls Try.prog 29 #[.pointer (some ⟨gb, 0, none⟩)] w (RowsPost rs w) := by
  obtain ⟨g0, g1, g2⟩ := h.c
  have hlen := h.few
  have hr := h.rows
  have H1 := Lib.hid (rows_one rs)
  clear h
  go_enter Try.func29, Try.ntmps29
  go_wp2_with (go_at_call 40; refine (cloneRows_any base rv rs.length (rs.flatMap rowCells) _ (by exact hr) H1.out hlen).mono ?_; rintro e w' ⟨v, rfl, ho, hB⟩)
  go_ret
  exact ⟨v, rfl, ho, hB⟩

theorem apply_is (v : Int) (base gb mb : Nat) (rv : Value) (bad : Int) (rs : List Row) (a : Act') (hv : mayV bad rs a = v) (w : World) (h : GAt w base gb mb rv bad rs) (hbase : base ≤ w.heap.size) (hroom : rs.length < 1000) (ha : ActWf a) :
    Calls Try.prog 36 #[.pointer (some ⟨gb, 0, none⟩), actV a] w (ApPost v w base gb mb rv bad (applyR bad rs a)) := hv ▸ apply_any base gb mb rv bad rs a w h hbase hroom ha

theorem putR_len (rs : List Row) (a : Act') : (putR rs a).length ≤ rs.length + 1 := by
  unfold putR
  split <;> simp
theorem applyR_len (bad : Int) (rs : List Row) (a : Act') : (applyR bad rs a).length ≤ rs.length + 1 := by
  unfold applyR
  split
  · exact putR_len rs a
  · omega

/-- What Apply turns lies behind the base. -/
theorem GAt.below {w w' w0 : World} {B base gb mb : Nat} {rv : Value} {bad : Int} {rs : List Row} (h : GAt w base gb mb rv bad rs) (hB : Below B w0 w) (hz : B ≤ w.heap.size) (hbase : B ≤ base) (ho : Only (fun j => j = gb ∨ j = mb ∨ rv.ownBlock = some j) w w') : Below B w0 w' := by
  refine hB.trans (ho.below hz (fun k e => ?_))
  have h1 := h.low.1
  have h2 := h.low.2
  rcases e with e | e | e
  · omega
  · omega
  · have := (h.rows.lt k e).1; omega

theorem GAt.out {w : World} {base gb mb : Nat} {rv : Value} {bad : Int} {rs : List Row} (h : GAt w base gb mb rv bad rs) {x : Nat} (hx : x < base) : ¬ (x = gb ∨ x = mb ∨ rv.ownBlock = some x) := by
  have h1 := h.low.1
  have h2 := h.low.2
  rintro (e | e | e)
  · omega
  · omega
  · have := (h.rows.lt x e).1; omega

end Go.Proofs.Ytkjfagchololbaa
