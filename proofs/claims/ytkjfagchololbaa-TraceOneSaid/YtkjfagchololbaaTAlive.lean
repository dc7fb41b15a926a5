/- The chapter's example: chirographlaw33.alive. -/
import Derived.Test.YtkjfagchololbaaTAl0
namespace Go.Proofs.Ytkjfagchololbaa
open Go.RowKit Go.Shelf

attribute [local go_sem] Oper.semAt_some

set_option maxRecDepth 100000 in
set_option maxHeartbeats 4000000 in
theorem alive33_any (w : World) : Calls Try.prog 7 #[] w fun e w' => e = .returned (.bool true) ∧ Below w.heap.size w w' := by
  refine (callsIn_wide (n := 9)).1 ?_
  refine callsIn_of_wp Try.func7 rfl trivial ?_ rfl
  simp only [Try.ntmps7, List.size_toArray, List.length_cons, List.length_nil, Nat.reduceAdd, Nat.reduceSub, Array.replicate_succ, Array.replicate_zero, List.push_toArray, List.append_toArray, List.nil_append, List.cons_append]
  have hEX : ∀ mb : Nat, (#[.int .u8 1, .int .i64 0, .int .i64 0, .int .i64 0, .int .i64 1, .int .i64 1, .int .u8 0, .int .i64 0, .int .i64 0, .int .i64 0, .int .i64 0, .bool false, .int .i64 0, .slice none 0 0, .slice none 0 0, .string ⟨#[]⟩, .int .i64 0, .int .i64 1, .int .i64 1, .int .i64 0, .slice (some ⟨mb, 0, none⟩) 2 2, .slice none 0 0] : Array Value) = evC (alX mb) := fun _ => rfl
  have hES : ∀ mb : Nat, (evC (alX mb)).setIfInBounds 21 (.slice none 0 0) = evC (alX mb) := fun _ => rfl
  gi_upto_region 3 with (refine wpListIn_store_new (c' := evC (alX (w.heap.size + 1))) rfl 43 _ _ rfl _ rfl ?_ rfl (infoEv _) rfl (alX_one _) ?_; simp [Act.eval])
  clear hEX hES
  have hT0 : (((w.alloc (.cells #[.int .i64 0, .int .i64 1, .int .i64 1] 31)).alloc (.cells #[.int .i64 1, .string ⟨#[100, 0]⟩, .int .i64 2, .string ⟨#[100, 0]⟩] 60)).alloc (.cells (evC (alX (w.heap.size + 1))) 43)).heap[w.heap.size]? = some (.cells #[.int .i64 0, .int .i64 1, .int .i64 1] 31 (0, 0)) := (Below.heap_alloc _ _ _ (by simp; omega)).trans ((Below.heap_alloc _ _ _ (by simp)).trans (heap_at w _ _ rfl))
  have hM0 : (((w.alloc (.cells #[.int .i64 0, .int .i64 1, .int .i64 1] 31)).alloc (.cells #[.int .i64 1, .string ⟨#[100, 0]⟩, .int .i64 2, .string ⟨#[100, 0]⟩] 60)).alloc (.cells (evC (alX (w.heap.size + 1))) 43)).heap[w.heap.size + 1]? = some (.cells #[.int .i64 1, .string alD, .int .i64 2, .string alD] 60 (0, 0)) := (Below.heap_alloc _ _ _ (by simp)).trans (heap_at _ _ _ (by simp))
  have hX0 : (((w.alloc (.cells #[.int .i64 0, .int .i64 1, .int .i64 1] 31)).alloc (.cells #[.int .i64 1, .string ⟨#[100, 0]⟩, .int .i64 2, .string ⟨#[100, 0]⟩] 60)).alloc (.cells (evC (alX (w.heap.size + 1))) 43)).heap[w.heap.size + 1 + 1]? = some (.cells (evC (alX (w.heap.size + 1))) 43 (0, 0)) := heap_at _ _ _ (by simp)
  have hB0 : Below w.heap.size w (((w.alloc (.cells #[.int .i64 0, .int .i64 1, .int .i64 1] 31)).alloc (.cells #[.int .i64 1, .string ⟨#[100, 0]⟩, .int .i64 2, .string ⟨#[100, 0]⟩] 60)).alloc (.cells (evC (alX (w.heap.size + 1))) 43)) := (((Below.refl _ w).alloc (Nat.le_refl _) _).alloc (by simp) _).alloc (by simp; omega) _
  generalize (((w.alloc (.cells #[.int .i64 0, .int .i64 1, .int .i64 1] 31)).alloc (.cells #[.int .i64 1, .string ⟨#[100, 0]⟩, .int .i64 2, .string ⟨#[100, 0]⟩] 60)).alloc (.cells (evC (alX (w.heap.size + 1))) 43)) = W0 at *
  obtain ⟨n, hn⟩ : ∃ n, w.heap.size = n := ⟨_, rfl⟩
  rw [hn] at hT0 hM0 hX0 hB0 ⊢
  have HN := Lib.hid hn
  clear hn
  have hT : n + 1 + 1 < W0.heap.size := (Array.getElem?_eq_some_iff.1 hX0).1
  have HT0 := Lib.hid hT0
  have HM0 := Lib.hid hM0
  have HX0 := Lib.hid hX0
  have HB0 := Lib.hid hB0
  clear hT0 hM0 hX0 hB0
  have oN1 := one_is 0 (alX (n + 1)) _ (al_one0 (n + 1))
  have oN2 := one_is 1 (alX (n + 1)) _ (al_one1 (n + 1))
  unfold actV at oN1 oN2
  simp only [Option.getD_some, Option.isSome_some, Option.getD_none, Option.isSome_none, zAct] at oN1 oN2
  have ON1 := Lib.hid oN1
  have ON2 := Lib.hid oN2
  clear oN1 oN2
  have rX : ∀ W : World, Only (fun _ => False) W0 W → W.rangeAt (n + 1 + 1) 0 (evC (alX (n + 1))).toList := fun W o i v hi => by
    rw [Nat.zero_add, cell_of_row _ _ i _ _ _ (o.obj HX0.out id)]
    simpa using hi
  have mX : ∀ W : World, Only (fun _ => False) W0 W → MemAt W W.heap.size (alX (n + 1)).av (alX (n + 1)).ms := fun W o => alX_mem (o.obj HM0.out id) (by have := o.size; omega)
  have RX := Lib.hid rX
  have MX := Lib.hid mX
  clear rX mX
  have o0 := Only.refl (fun _ => False) W0
  gi_upto_region 4 with (first
    | (refine wpListIn_load_at rfl _ _ rfl (n + 1 + 1) 0 rfl (evC (alX (n + 1))) _ (RX.out _ o0) Try.underlying43 rfl (infoEv _) ?_)
    | (refine ⟨trivial, ?_⟩; gi_at_call 10; refine (callsIn_wide.2 (ON1.out _ (alX_wf _) (MX.out _ o0))).mono ?_; rintro e' w1 ⟨rfl, hB1⟩))
  have o1 := (Only.of_below hB1).alloc (.cells #[.int .u8 1, .int .i64 0, .int .i64 1, .int .i64 1, .int .i64 0, .bool false, .int .u8 6] 33)
  have hA1 := heap_alloc_new w1 (.cells #[.int .u8 1, .int .i64 0, .int .i64 1, .int .i64 1, .int .i64 0, .bool false, .int .u8 6] 33)
  generalize w1.alloc (.cells #[.int .u8 1, .int .i64 0, .int .i64 1, .int .i64 1, .int .i64 0, .bool false, .int .u8 6] 33) = W1 at *
  obtain ⟨ab, hab⟩ : ∃ ab, w1.heap.size = ab := ⟨_, rfl⟩
  rw [hab] at hA1 ⊢
  have HA1 := Lib.hid hA1
  clear hA1 hab hB1
  gi_upto_region 5 with (first
    | (refine wpListIn_load_at rfl _ _ rfl (n + 1 + 1) 0 rfl (evC (alX (n + 1))) _ (RX.out _ o1) Try.underlying43 rfl (infoEv _) ?_)
    | (refine ⟨trivial, ?_⟩; gi_at_call 10; refine (callsIn_wide.2 (ON2.out _ (alX_wf _) (MX.out _ o1))).mono ?_; rintro e' w2 ⟨rfl, hB2⟩))
  have o12 := (Only.of_below hB2).alloc (.cells #[.int .u8 0, .int .i64 0, .int .i64 0, .int .i64 0, .int .i64 0, .bool false, .int .u8 0] 33)
  have o2 := o1.trans o12
  have HA2 := Lib.hid (o12.obj HA1.out id)
  generalize w2.alloc (.cells #[.int .u8 0, .int .i64 0, .int .i64 0, .int .i64 0, .int .i64 0, .bool false, .int .u8 0] 33) = W2 at *
  generalize w2.heap.size = ab2 at *
  have t0 : W2.cell? ⟨n, 0, none⟩ = some (.int .i64 0) := by rw [cells7_get (o2.obj HT0.out id)]; rfl
  have t1 : W2.cell? ⟨n, 1, none⟩ = some (.int .i64 1) := by rw [cells7_get (o2.obj HT0.out id)]; rfl
  have t2 : W2.cell? ⟨n, 2, none⟩ = some (.int .i64 1) := by rw [cells7_get (o2.obj HT0.out id)]; rfl
  obtain ⟨i0, hi0, hz0, hz1, hz2⟩ := info_parts infoEvZ
  have HM2 := Lib.hid (o2.obj HM0.out id)
  refine wpIn_region_lit ?_
  refine wpListIn_load_at rfl _ _ rfl (n + 1 + 1) 0 rfl (evC (alX (n + 1))) _ (RX.out _ o2) Try.underlying43 rfl (infoEv _) ?_
  iterate 7 (first | (refine wpListIn_built rfl 43 _ rfl (evC alY) ?hp (alY_built 0) ?_; case' hp => (simp [Act.eval, Act.put]; done)) | gi_step)
  refine wpListIn_buildSl rfl 22 43 2 _ rfl (evC (alX (n + 1)) ++ evC alY) i0 _ Try.underlying22 hi0 hz0 (by rw [hz1]; decide) (by rw [hz1]; decide) (l := [(0, .agg (evC (alX (n + 1)))), (1, .agg (evC alY))]) (by simp [Act.eval, Act.put]) (by rw [hz1]; with_reducible exact alXY_fill (n + 1)) ?_
  have hE3 := heap_alloc_new W2 (.cells (evC (alX (n + 1)) ++ evC alY) 43)
  have o3 := (Only.refl (fun _ => False) W2).alloc (.cells (evC (alX (n + 1)) ++ evC alY) 43)
  have HE3 := Lib.hid (alXY_evs hE3 (o3.obj HM2.out id))
  clear hE3
  have HC := Lib.hid (check_is 0 (some ⟨W2.heap.size, 0, none⟩) [alX (n + 1), alY] 2 2 1 290 rfl (al_chk _) _ (by simp) HE3.out)
  have hl3 : W2.heap.size < (W2.alloc (.cells (evC (alX (n + 1)) ++ evC alY) 43)).heap.size := by simp
  generalize W2.alloc (.cells (evC (alX (n + 1)) ++ evC alY) 43) = W3 at *
  generalize W2.heap.size = eb at *
  gi_upto_region 6 with (refine ⟨trivial, ?_⟩; gi_at_call 11; refine (callsIn_wide.2 HC.out).mono ?_; rintro e' w4 ⟨rfl, hB3⟩)
  have o34 := o3.trans (Only.of_below hB3)
  have o4 := o2.trans o34
  have HA4 := Lib.hid (o34.obj HA2.out id)
  have HM4 := Lib.hid (o4.obj HM0.out id)
  clear t0 t1 t2 hl3 HE3
  refine wpIn_region_lit ?_
  refine wpListIn_load_at rfl _ _ rfl (n + 1 + 1) 0 rfl (evC (alX (n + 1))) _ (RX.out _ o4) Try.underlying43 rfl (infoEv _) ?_
  refine wpListIn_buildSl rfl 22 43 1 _ rfl (evC (alX (n + 1))) i0 _ Try.underlying22 hi0 hz0 (by rw [hz1]; decide) (by rw [hz1]; decide) (l := [(0, .agg (evC (alX (n + 1))))]) (by simp [Act.eval, Act.put]) (by rw [hz1]; with_reducible exact alX_fill (n + 1)) ?_
  obtain ⟨r, hrb, hrr⟩ := al_run (n + 1)
  have hE5 := heap_alloc_new w4 (.cells (evC (alX (n + 1))) 43)
  have o5 := (Only.refl (fun _ => False) w4).alloc (.cells (evC (alX (n + 1))) 43)
  have HC5 := Lib.hid (trows_ok 0 (some ⟨w4.heap.size, 0, none⟩) [alX (n + 1)] 1 1 [r] rfl hrr _ (by simp) (alX_evs hE5 (o5.obj HM4.out id)))
  have HRB := Lib.hid hrb
  clear hE5 hrr hrb
  generalize w4.alloc (.cells (evC (alX (n + 1))) 43) = W5 at *
  generalize w4.heap.size = eb5 at *
  gi_upto_region 7 with (refine ⟨trivial, ?_⟩; gi_at_call 16; refine (callsIn_wide.2 HC5.out).mono ?_; rintro e' w6 ⟨v, rbase, rfl, hR6, _, hB6⟩)
  have o46 := o5.trans (Only.of_below hB6)
  have o6 := o4.trans o46
  have hA6 := o46.obj HA4.out id
  have q0 : w6.cell? ⟨ab, 0, none⟩ = some (.int .u8 1) := by rw [cells7_get hA6]; rfl
  have q1 : w6.cell? ⟨ab, 1, none⟩ = some (.int .i64 0) := by rw [cells7_get hA6]; rfl
  have q2 : w6.cell? ⟨ab, 2, none⟩ = some (.int .i64 1) := by rw [cells7_get hA6]; rfl
  have q3 : w6.cell? ⟨ab, 3, none⟩ = some (.int .i64 1) := by rw [cells7_get hA6]; rfl
  have q4 : w6.cell? ⟨ab, 4, none⟩ = some (.int .i64 0) := by rw [cells7_get hA6]; rfl
  have q5 : w6.cell? ⟨ab, 5, none⟩ = some (.bool false) := by rw [cells7_get hA6]; rfl
  have q6 : w6.cell? ⟨ab, 6, none⟩ = some (.int .u8 6) := by rw [cells7_get hA6]; rfl
  have t0 : w6.cell? ⟨n, 0, none⟩ = some (.int .i64 0) := by rw [cells7_get (o6.obj HT0.out id)]; rfl
  have t1 : w6.cell? ⟨n, 1, none⟩ = some (.int .i64 1) := by rw [cells7_get (o6.obj HT0.out id)]; rfl
  have t2 : w6.cell? ⟨n, 2, none⟩ = some (.int .i64 1) := by rw [cells7_get (o6.obj HT0.out id)]; rfl
  obtain ⟨ga, gc, rfl, hx⟩ := owns_rows hR6
  obtain ⟨g, rfl, _, _, hgg⟩ := hx (by simp)
  have g3 : w6.cell? ⟨g, 3, none⟩ = some (.bool true) := by
    have := hgg 0 r rfl 3 (by omega)
    simp only [rowCells, List.getElem?_cons_zero, List.getElem?_cons_succ] at this
    rw [show 0 * 10 + 3 = 3 from rfl] at this
    rw [this, HRB.out]
  clear hA6 hx hgg hR6
  gi_wp2
  go_ret
  refine ⟨rfl, ?_⟩
  rw [HN.out]
  exact HB0.out.trans (o6.below (by omega) (fun _ h => h.elim))
end Go.Proofs.Ytkjfagchololbaa
