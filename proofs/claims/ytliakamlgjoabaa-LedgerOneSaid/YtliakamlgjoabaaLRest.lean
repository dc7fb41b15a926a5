/- The walks of the ledger's New, Rows, Row, Copy; slices.Clone of rows, maps.Clone. -/
import Derived.Test.YtliakamlgjoabaaLApply
import Derived.Shelf.SlMaps.Clone
import Derived.Lib.SliceRun
namespace Go.Proofs.Ytliakamlgjoabaa
open Go.RowKit Go.Lib

theorem newL_any (bad : Int) (w : World) : Calls Try.prog 13 #[.int .u8 bad] w fun e w' =>
    ∃ gb mb, e = .returned (.pointer (some ⟨gb, 0, none⟩)) ∧ GAt w' w.heap.size gb mb (.slice none 0 0) bad [] ∧ Below w.heap.size w w' := by
  have hmm := @run_makeMap Try.prog
  go_enter Try.func13, Try.ntmps13
  go_wp2
  go_ret
  refine ⟨_, w.heap.size, rfl, ⟨heap_at _ _ _ (by simp), World.ownsRow_nil _ _ _ _, (heap_alloc_old _ _ _ (by simp)).trans (heap_alloc_new _ _), by simp, by simp, by simp, by simp⟩, ((Below.refl _ _).alloc (Nat.le_refl _) _).alloc (by simp) _⟩

set_option maxHeartbeats 2000000 in
/-- slices.Clone at rows: a new row of the same cells. -/
theorem cloneRows_any (base : Nat) (rv : Value) (n : Nat) (xs : List Value) (w : World) (h : w.ownsRow base 43 10 rv n xs) (hxs : ∀ u ∈ xs, u.oneCell' = true) (hn : n ≤ 1000) :
    Calls Try.prog 23 #[rv] w fun e w' => ∃ v', e = .returned v' ∧ w'.ownsRow w.heap.size 43 10 v' n xs ∧ Below w.heap.size w w' := by
  obtain ⟨i0, hi, hz0, hz1, hz2⟩ := info_parts infoRow
  have hl : xs.length = n * 10 := h.1
  have q22 : ∀ (w : World) (a : Option Addr) (n c n' c' : Nat), (binOp .eql 37 (.slice a n c) (.slice none n' c')).run Try.prog w = .ok (.bool a.isNone) w := fun w a n c n' c' => Lib.run_eql_slice_nil w _ _ a n c n' c' Try.underlying37
  rcases h.2 with ⟨rfl, rfl⟩ | ⟨g, cap, cur, rfl, _, hg, _, hcap, _, ht⟩
  · have hx : xs = [] := List.eq_nil_of_length_eq_zero (by omega)
    subst hx
    go_enter Try.func23, Try.ntmps23
    go_wp2
    go_ret
    exact ⟨_, rfl, World.ownsRow_nil _ _ _ _, Below.refl _ _⟩
  · have A : Aside (∀ j u, xs[j]? = some u → w.cell? ⟨g, 0 + j, none⟩ = some u) := by
      intro j u hj
      rw [Nat.zero_add, cell_of_row w g j cur _ (0, 0) hg]
      rw [← ht, List.getElem?_take] at hj
      split at hj
      · simpa using hj
      · cases hj
    clear h hg ht
    go_enter Try.func23, Try.ntmps23
    go_wp2_with (at_builtin; refine wpList_append_own _ rfl _ _ 37 rfl w.heap.size 43 i0 _ 10 32 Try.underlying37 hi hz0 hz1 hz2 rfl (by omega) _ _ _ rfl (World.ownsRow_made w #[] 0 (Nat.le_refl _) (Nat.zero_le _) (by simp)) ⟨g, 0, none⟩ n cap xs rfl ?qc1 ?qc2 ?qc3 ?qc4 ?qc5 ?qc6 ?_)
    case qc1 => exact hl
    case qc2 =>
      intro j u hj
      rw [Addr.add_lit]
      exact Lib.cell?_alloc_some _ (A j u hj)
    case qc3 => exact hxs
    case qc4 => unfold maxLen; omega
    case qc5 => omega
    case qc6 => simp
    intro v' w1 hown hgrow hnil
    go_wp2
    go_ret
    refine ⟨v', rfl, by simpa using hown, ?_⟩
    exact ((Below.refl _ w).alloc (Nat.le_refl _) _).grown hgrow (by simp) (by intro k hk; simp [Value.ownBlock] at hk; omega)

theorem row_one (r : Row) : ∀ u ∈ rowCells r, u.oneCell' = true := by
  intro u hu
  simp only [rowCells, List.mem_cons, List.not_mem_nil, or_false] at hu
  rcases hu with rfl | rfl | rfl | rfl | rfl | rfl | rfl | rfl | rfl | rfl <;> rfl
theorem rows_one (rs : List Row) : ∀ u ∈ rs.flatMap rowCells, u.oneCell' = true := by
  intro u hu
  obtain ⟨r, _, h⟩ := List.mem_flatMap.1 hu
  exact row_one r u h

/-- A new row of rows. -/
def RowsPost (rs : List Row) (w : World) (e : Ending) (w' : World) : Prop :=
  ∃ v, e = .returned v ∧ w'.ownsRow w.heap.size 43 10 v rs.length (rs.flatMap rowCells) ∧ Below w.heap.size w w'

theorem rows_any (base gb mb : Nat) (rv : Value) (bad : Int) (rs : List Row) (w : World) (h : GAt w base gb mb rv bad rs) :
    Calls Try.prog 11 #[.pointer (some ⟨gb, 0, none⟩)] w (RowsPost rs w) := by
  obtain ⟨g0, g1, g2⟩ := h.c
  have hlen := h.few
  have hr := h.rows
  have H1 := Lib.hid (rows_one rs)
  clear h
  go_enter Try.func11, Try.ntmps11
  go_wp2_with (go_at_call 23; refine (cloneRows_any base rv rs.length (rs.flatMap rowCells) _ (by exact hr) H1.out hlen).mono ?_; rintro e w' ⟨v, rfl, ho, hB⟩)
  go_ret
  exact ⟨v, rfl, ho, hB⟩

set_option maxHeartbeats 2000000 in
theorem mapClone_any (b : Nat) (es : Array MapEntry) (clock : Nat) (w : World) (hb : w.heap[b]? = some (.map es clock)) :
    Calls Try.prog 25 #[.map (some b)] w fun e w' => e = .returned (.map (some w.heap.size)) ∧ w' = w.alloc (.map es clock) := by
  have hq := fun w => run_eql_map_nil_sl (P := Try.prog) w 51 _ _ (some b) Try.underlying51
  go_enter Try.func25, Try.ntmps25
  go_wp2
  rw [run_callFunc_extern (fn := Try.f38) (by kernel_rfl) (by kernel_rfl) (by kernel_rfl) (by kernel_rfl) (e := Extern.MapsClone.clone) (by kernel_rfl), run_maps_clone_sl w 51 hb]
  simp only [Result.andThen]
  rw [Oper.upon_value]
  go_wp2
  rw [run_typeAssert_map_sl _ 51 20 _ _ _ Try.underlying51]
  simp only [Result.andThen]
  rw [Oper.upon_value]
  go_wp2
  go_ret
  exact ⟨rfl, rfl⟩

theorem mapClone2 (b : Nat) (es : Array MapEntry) (clock : Nat) (w : World) (hb : w.heap[b]? = some (.map es clock)) :
    Calls Try.prog 25 #[.map (some b)] w fun e w' => ∃ m, e = .returned (.map (some m)) ∧ w'.heap[m]? = some (.map es clock) ∧ w.heap.size ≤ m ∧ Below w.heap.size w w' := by
  refine (mapClone_any b es clock w hb).mono ?_
  rintro e w' ⟨rfl, rfl⟩
  exact ⟨_, rfl, heap_alloc_new _ _, Nat.le_refl _, (Below.refl _ _).alloc (Nat.le_refl _) _⟩

/-- A copy. -/
def LCopyPost (w : World) (bad : Int) (rs : List Row) (e : Ending) (w' : World) : Prop :=
  ∃ gb mb rv, e = .returned (.pointer (some ⟨gb, 0, none⟩)) ∧ GAt w' w.heap.size gb mb rv bad rs ∧ Below w.heap.size w w'

set_option maxHeartbeats 4000000 in
theorem copyL_any (base gb mb : Nat) (rv : Value) (bad : Int) (rs : List Row) (w : World) (h : GAt w base gb mb rv bad rs) :
    Calls Try.prog 17 #[.pointer (some ⟨gb, 0, none⟩)] w (LCopyPost w bad rs) := by
  obtain ⟨g0, g1, g2⟩ := h.c
  have hlen := h.few
  have hr := h.rows
  have hm := h.map
  have H1 := Lib.hid (rows_one rs)
  go_enter Try.func17, Try.ntmps17
  go_wp2_with fail
  go_region_held3 (fun w' => w'.cell? ⟨gb, 0, none⟩ = some (.int .u8 bad) ∧ w'.cell? ⟨gb, 1, none⟩ = some rv ∧ w'.cell? ⟨gb, 2, none⟩ = some (.map (some mb))) (first | exact ⟨g0, g1, g2⟩ | exact ⟨oA.cell g0 id, oA.cell g1 id, oA.cell g2 id⟩ | exact ⟨oB.cell g0 id, oB.cell g1 id, oB.cell g2 id⟩ | exact ⟨(oB.alloc _).cell g0 id, (oB.alloc _).cell g1 id, (oB.alloc _).cell g2 id⟩)
    (first | (go_at_call 23; refine (cloneRows_any base rv rs.length (rs.flatMap rowCells) _ (by exact hr) H1.out hlen).mono ?_; rintro e wA ⟨v, rfl, hoA, hBA⟩; obtain ⟨a1, cap1, rfl⟩ := slice_of_owns hoA; have oA : Only (fun _ => False) w wA := (fun h => ⟨h.os, h.tape, h.output, h.size, h.block⟩) (Only.of_below hBA)) | (go_at_call 25; refine (mapClone2 mb _ _ _ (oA.obj hm id)).mono ?_; rintro e wB ⟨m1, rfl, hmB, hml, hBB⟩; have oAB : Only (fun _ => False) wA wB := (fun h => ⟨h.os, h.tape, h.output, h.size, h.block⟩) (Only.of_below hBB); have oB := oA.trans oAB))
  all_goals go_wp2_with fail
  all_goals go_ret
  have oE := oB.alloc (.cells #[.int .u8 bad, .slice a1 rs.length cap1, .map (some m1)] 53)
  have oF := (oAB.alloc (.cells #[.int .u8 bad, .slice a1 rs.length cap1, .map (some m1)] 53))
  have hz : w.heap.size ≤ wA.heap.size := oA.size
  have hz2 : w.heap.size ≤ wB.heap.size := oB.size
  all_goals exact ⟨wB.heap.size, m1, .slice a1 rs.length cap1, rfl, ⟨heap_alloc_new _ _, oF.owns hoA (fun _ _ => id), (heap_alloc_old _ _ _ (Array.getElem?_eq_some_iff.1 hmB).1).trans hmB, ⟨hz2, Nat.le_trans hz hml⟩, h.nodup, h.ok, h.few⟩, oE.below (Nat.le_refl _) (fun _ e => e.elim)⟩

def isB (rs : List Row) (t : Txn) : Bool := (placeOf rs t).isSome
def rowE (rs : List Row) (t : Txn) : Row := match placeOf rs t with | some k => rs.getD k (freshR t) | none => freshR (0, 0, 0)

set_option maxHeartbeats 4000000 in
theorem rowL_any (base gb mb : Nat) (rv : Value) (bad : Int) (rs : List Row) (t : Txn) (w : World) (h : GAt w base gb mb rv bad rs) (ht : wfT t) :
    Calls Try.prog 18 #[.pointer (some ⟨gb, 0, none⟩), txnV t] w fun e w' => e = .returned (.tuple #[rowV (rowE rs t), .bool (isB rs t)]) ∧ Below w.heap.size w w' := by
  have oX := ((Only.refl (fun _ : Nat => False) w).alloc (.cells #[.int .i64 t.1, .int .i64 t.2.1, .int .i64 t.2.2] 33)).alloc (.cells #[.int .i64 0, .int .i64 0, .int .i64 0, .bool false, .int .u8 0, .int .u8 0, .int .u8 0, .bool false, .bool false, .int .u8 0] 43)
  have hX := h.kept oX id id (fun _ _ => id)
  have hB : Below w.heap.size w ((w.alloc (.cells #[.int .i64 t.1, .int .i64 t.2.1, .int .i64 t.2.2] 33)).alloc (.cells #[.int .i64 0, .int .i64 0, .int .i64 0, .bool false, .int .u8 0, .int .u8 0, .int .u8 0, .bool false, .bool false, .int .u8 0] 43)) := ((Below.refl _ w).alloc (Nat.le_refl _) _).alloc (by simp) _
  obtain ⟨c0, c1, c2⟩ := hX.c
  have hl := fun n => look_map (w := (((w.alloc (.cells #[.int .i64 t.1, .int .i64 t.2.1, .int .i64 t.2.2] 33)).alloc (.cells #[.int .i64 0, .int .i64 0, .int .i64 0, .bool false, .int .u8 0, .int .u8 0, .int .u8 0, .bool false, .bool false, .int .u8 0] 43)).drewN n)) hX.map hX.wf hX.nodup t ht
  have hlen := h.few
  have hrows := owns_rows hX.rows
  cases hp : placeOf rs t with
  | none =>
    rw [hp] at hl
    dsimp only at hl
    have HV := Lib.hid (show rowE rs t = freshR (0, 0, 0) ∧ isB rs t = false from ⟨by rw [rowE, hp], by rw [isB, hp]; rfl⟩)
    clear hp hrows oX hX h
    obtain ⟨tc, te, tq⟩ := t
    unfold txnV at hl ⊢
    dsimp only at *
    go_enter Try.func18, Try.ntmps18
    go_wp2
    go_quiet (fail)
    go_wp2
    refine bodyPost_ret (v := .tuple #[rowV (freshR (0, 0, 0)), .bool false]) (by simp [results, Try.results18, go_sem, rowV, freshR]) rfl ?_
    refine ⟨by rw [HV.out.1, HV.out.2], ?_⟩
    iterate 10 (refine Below.setCell ?_ (by simp) _)
    exact below_drewN hB _
  | some k =>
    obtain ⟨r, hr, hrt⟩ := place_some hp
    rw [hp] at hl
    dsimp only at hl
    have HV := Lib.hid (show rowE rs t = r ∧ isB rs t = true from ⟨by rw [rowE, hp]; simp [List.getD_eq_getElem?_getD, hr], by rw [isB, hp]; rfl⟩)
    have hk : k < rs.length := (List.getElem?_eq_some_iff.1 hr).1
    obtain ⟨a, cap, rfl, hc⟩ := hrows
    obtain ⟨g, rfl, _, _, hcc⟩ := hc (by omega)
    have d0 := hcc k r hr 0 (by omega)
    have d1 := hcc k r hr 1 (by omega)
    have d2 := hcc k r hr 2 (by omega)
    have d3 := hcc k r hr 3 (by omega)
    have d4 := hcc k r hr 4 (by omega)
    have d5 := hcc k r hr 5 (by omega)
    have d6 := hcc k r hr 6 (by omega)
    have d7 := hcc k r hr 7 (by omega)
    have d8 := hcc k r hr 8 (by omega)
    have d9 := hcc k r hr 9 (by omega)
    clear hp hcc hc oX hX h hr hrt
    obtain ⟨tc, te, tq⟩ := t
    obtain ⟨rc, re, rq, begun, orgs, voted, yes, decided, commit, learnt⟩ := r
    simp only [rowCells, List.getElem?_cons_zero, List.getElem?_cons_succ, Nat.add_zero] at d0 d1 d2 d3 d4 d5 d6 d7 d8 d9
    unfold txnV at hl ⊢
    dsimp only at *
    go_enter Try.func18, Try.ntmps18
    go_wp2
    go_quiet (fail)
    go_wp2
    refine bodyPost_ret (v := .tuple #[rowV ⟨rc, re, rq, begun, orgs, voted, yes, decided, commit, learnt⟩, .bool true]) (by simp [results, Try.results18, go_sem, rowV]) rfl ?_
    refine ⟨by rw [HV.out.1, HV.out.2], ?_⟩
    iterate 10 (refine Below.setCell ?_ (by simp) _)
    exact below_drewN hB _
end Go.Proofs.Ytliakamlgjoabaa
