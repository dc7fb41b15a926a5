/- The walks of the ledger's row and Row. -/
import Derived.Test.YtkjfagchololbaaLMap
namespace Go.Proofs.Ytkjfagchololbaa
open Go.RowKit

def freshR (t : Txn) : Row := ⟨t.1, t.2.1, t.2.2, false, 0, 0, 0, false, false, 0⟩
def rowOf (rs : List Row) (t : Txn) : Row := match placeOf rs t with | some k => rs.getD k (freshR t) | none => freshR t
def rowV (r : Row) : Value := .agg #[.int .i64 r.c, .int .i64 r.e, .int .i64 r.q, .bool r.begun, .int .u8 r.orgs, .int .u8 r.voted, .int .u8 r.yes, .bool r.decided, .bool r.commit, .int .u8 r.learnt]

set_option maxHeartbeats 2000000 in
theorem row_any (base gb mb : Nat) (rv : Value) (bad : Int) (rs : List Row) (t : Txn) (w : World) (h : GAt w base gb mb rv bad rs) (ht : wfT t) :
    Calls Try.prog 46 #[.pointer (some ⟨gb, 0, none⟩), txnV t] w fun e w' => e = .returned (rowV (rowOf rs t)) ∧ Below w.heap.size w w' := by
  have oX := ((Only.refl (fun _ : Nat => False) w).alloc (.cells #[.int .i64 t.1, .int .i64 t.2.1, .int .i64 t.2.2] 31)).alloc (.cells #[.int .i64 0, .int .i64 0, .int .i64 0, .bool false, .int .u8 0, .int .u8 0, .int .u8 0, .bool false, .bool false, .int .u8 0] 62)
  have hX := h.kept oX id id (fun _ _ => id)
  have hB : Below w.heap.size w ((w.alloc (.cells #[.int .i64 t.1, .int .i64 t.2.1, .int .i64 t.2.2] 31)).alloc (.cells #[.int .i64 0, .int .i64 0, .int .i64 0, .bool false, .int .u8 0, .int .u8 0, .int .u8 0, .bool false, .bool false, .int .u8 0] 62)) := ((Below.refl _ w).alloc (Nat.le_refl _) _).alloc (by simp) _
  obtain ⟨c0, c1, c2⟩ := hX.c
  have hl := fun n => look_map (w := (((w.alloc (.cells #[.int .i64 t.1, .int .i64 t.2.1, .int .i64 t.2.2] 31)).alloc (.cells #[.int .i64 0, .int .i64 0, .int .i64 0, .bool false, .int .u8 0, .int .u8 0, .int .u8 0, .bool false, .bool false, .int .u8 0] 62)).drewN n)) hX.map hX.wf hX.nodup t ht
  have hlen := h.few
  have hrows := owns_rows hX.rows
  cases hp : placeOf rs t with
  | none =>
    rw [hp] at hl
    dsimp only at hl
    have HV := Lib.hid (show rowOf rs t = freshR t by rw [rowOf, hp])
    clear hp hrows oX hX h
    obtain ⟨tc, te, tq⟩ := t
    unfold txnV at hl ⊢
    dsimp only at *
    go_enter Try.func46, Try.ntmps46
    go_wp2
    go_quiet (fail)
    go_wp2
    refine bodyPost_ret (v := rowV (freshR (tc, te, tq))) (by simp [results, Try.results46, go_sem, rowV, freshR]) rfl ?_
    refine ⟨by rw [HV.out], ?_⟩
    iterate 10 (refine Below.setCell ?_ (by simp) _)
    exact below_drewN hB _
  | some k =>
    obtain ⟨r, hr, hrt⟩ := place_some hp
    rw [hp] at hl
    dsimp only at hl
    have HV := Lib.hid (show rowOf rs t = r by rw [rowOf, hp]; simp [List.getD_eq_getElem?_getD, hr])
    have hk : k < rs.length := (List.getElem?_eq_some_iff.1 hr).1
    obtain ⟨a, cap, rfl, hc⟩ := hrows
    obtain ⟨g, rfl, _, _, hcc⟩ := hc (by omega)
    have d0 := hcc k r hr 0 (by omega)
    have d1 := hcc k r hr 1 (by omega)
    have d2 := hcc k r hr 2 (by omega)
    have d3 := hcc k r hr 3 (by omega)
    have d4 := hcc k r hr 4 (by omega)
    have d5 := hcc k r hr 5 (by omega)
    have d6 := hcc k r hr 6 (by omega)
    have d7 := hcc k r hr 7 (by omega)
    have d8 := hcc k r hr 8 (by omega)
    have d9 := hcc k r hr 9 (by omega)
    clear hp hcc hc oX hX h hr hrt
    obtain ⟨tc, te, tq⟩ := t
    obtain ⟨rc, re, rq, begun, orgs, voted, yes, decided, commit, learnt⟩ := r
    simp only [rowCells, List.getElem?_cons_zero, List.getElem?_cons_succ, Nat.add_zero] at d0 d1 d2 d3 d4 d5 d6 d7 d8 d9
    unfold txnV at hl ⊢
    dsimp only at *
    go_enter Try.func46, Try.ntmps46
    go_wp2
    go_quiet (fail)
    go_wp2
    refine bodyPost_ret (v := rowV ⟨rc, re, rq, begun, orgs, voted, yes, decided, commit, learnt⟩) (by simp [results, Try.results46, go_sem, rowV]) rfl ?_
    refine ⟨by rw [HV.out], ?_⟩
    iterate 10 (refine Below.setCell ?_ (by simp) _)
    exact below_drewN hB _
end Go.Proofs.Ytkjfagchololbaa
