/- The region of the trace's Actions: two appends in one statement. -/
import Derived.Test.YtkjfagchololbaaTPart
import Derived.Test.YtkjfagchololbaaTLed
namespace Go.Proofs.Ytkjfagchololbaa
open Go.RowKit Go.Shelf

attribute [local go_sem] Oper.semAt_some

def actL (a : Act') : List Value := [.int .u8 a.kind, .int .i64 a.c, .int .i64 a.e, .int .i64 a.q, .int .i64 a.org, .bool a.yes, .int .u8 a.orgs]
theorem infoAct : (Try.prog.info? 33).map (fun i => (i.zero, i.size, i.bytes)) = some (some (.agg (actL ⟨0, 0, 0, 0, 0, false, 0⟩).toArray), 7, 48) := by kernel_rfl
theorem infoInt : (Try.prog.info? 3).map (fun i => (i.zero, i.size, i.bytes)) = some (some (.int .i64 0), 1, 8) := by kernel_rfl

theorem run_op_load {P : Program} {o : Oper} {a : Act} {w : World} (ty : TypeId) (x : Operand) (ho : o.op = .load ty x) (b off : Nat) (hx : a.eval x = .pointer (some ⟨b, off, none⟩)) (cs : Array Value) (d : TypeDesc) (hc : w.rangeAt b off cs.toList)
    (hu : P.underlying ty = some d) (hd : d.isRow = true) (hi : (P.info? ty).map (·.size) = some cs.size) : (execOp a.eval o).run P w = .ok (.value (.agg cs)) w := by
  have hrun := run_loadAt_mid (P := P) w b off ty cs.toList d hc hu hd (by rw [hi]; simp)
  rw [Array.toArray_toList] at hrun
  simp only [execOp, ho, hx, Sem.run_bind, hrun, Result.andThen_ok, Sem.run_pure]
theorem run_op_append {P : Program} {o : Oper} {a : Act} {w w' : World} {s x : Operand} {t : TypeId} {u v v' : Value} (ho : o.op = Op.call { callee := Callee.builtin Builtin.append, args := #[s, x], argTypes := #[t, t] }) (hs : a.eval s = u) (hx : a.eval x = v)
    (hrun : (Builtin.append_ #[t, t] o.type #[u, v]).run P w = .ok v' w') : (execOp a.eval o).run P w = .ok (.value v') w' := by
  simp [execOp, ho, resolve, invoke, builtin, hs, hx, hrun, Result.andThen]

def acFr (bad : Int) (av : Option Addr) (len cap : Nat) (pa pp : Nat) (fv : Value) (k : Int) (qb : Nat) (ac : Value) (x13 x14 x15 x16 x17 x18 x19 x20 : Value) : Act :=
  { tmps := #[.int .u8 bad, .slice av len cap, undef, undef, .pointer (some ⟨pa, 0, none⟩), .pointer (some ⟨pp, 0, none⟩), .int .i64 k, .pointer (some ⟨qb, 0, none⟩), .int .u8 bad, .slice av len cap, fv, .int .i64 k, ac, x13, x14, x15, x16, x17, x18, x19, x20, undef, undef], defers := [] }

def acs (x : Act') : Array Value := #[.int .u8 x.kind, .int .i64 x.c, .int .i64 x.e, .int .i64 x.q, .int .i64 x.org, .bool x.yes, .int .u8 x.orgs]

/-- What holds while the region runs. -/
def RgInv (bad : Int) (av : Option Addr) (len cap : Nat) (fv : Value) (pa pp qb n0 Bl Bb B : Nat) (vl vb : Value) (w0 W : World) (k : Nat) (kk : Int) (x : Act') (va vp : Value) (xs ys : List Value) (listed : Array Bool) (a : Act) (w : World) : Prop :=
  ∃ (l0 l1 l2 l3 l4 l5 l6 l7 l8 l9 : Bool) (x13 x14 x15 x16 x17 x18 x19 x20 : Value), listed = #[l0, l1, l2, l3, l4, l5, l6, l7, l8, l9] ∧ a = acFr bad av len cap pa pp fv kk qb (actV x) x13 x14 x15 x16 x17 x18 x19 x20 ∧
    Part 33 25 7 n0 pa k va xs (acs x) l0 l2 l3 l8 x13 x15 x16 w ∧ (l1 = true → x14 = .agg (acs x)) ∧ (l1 = false → w.heap[qb]? = some (.cells (acs x) 33 (0, 0))) ∧ (l2 = true → l1 = true) ∧
    Part 3 26 1 n0 pp k vp ys #[.int .i64 kk] l4 l6 l7 l9 x17 x19 x20 w ∧ (l5 = true → x18 = .int .i64 kk) ∧ (l6 = true → l5 = true) ∧ (l7 = true → l3 = true) ∧ (l8 = true → l7 = true) ∧ (l9 = true → l8 = true) ∧
    Rnd n0 Bl Bb B 22 5 vl vb w0 W w

theorem grownAlloc (w : World) (o : Obj) : w.grownBy (w.alloc o) none := World.grownBy_alloc w o none

set_option maxRecDepth 100000 in
set_option maxHeartbeats 4000000 in
theorem reg4 {n id y : Nat} (bad : Int) (av : Option Addr) (len cap : Nat) (fv : Value) (pa pp qb n0 Bl Bb B : Nat) (vl vb : Value) (w0 W : World) (k : Nat) (hk : k ≤ 1000) (kk : Int) (x : Act') (va vp : Value) (xs ys : List Value) {Q : Exit → Act → World → Prop} {ops : Array Oper}
    (hops : some (Code.region 4 ops true) = (match Try.f8.body with | some (.seq _ (.seq (.seq _ (.block _ (.rangeFunc _ _ _ (.block _ c)))) _)) => some c | _ => none))
    (h0 : RgInv bad av len cap fv pa pp qb n0 Bl Bb B vl vb w0 W k kk x va vp xs ys (Array.replicate 10 false) (acFr bad av len cap pa pp fv kk qb (actV x) undef undef undef undef undef undef undef undef) W.drew)
    (hQ : ∀ a w x13 x14 x15 x16 x17 x18 x19 x20, a = acFr bad av len cap pa pp fv kk qb (actV x) x13 x14 x15 x16 x17 x18 x19 x20 → Part 33 25 7 n0 pa k va xs (acs x) true true true true x13 x15 x16 w →
      Part 3 26 1 n0 pp k vp ys #[.int .i64 kk] true true true true x17 x19 x20 w → Rnd n0 Bl Bb B 22 5 vl vb w0 W w → Q .normal a w) :
    (Code.region id ops true).wpIn (Fence.wide.inRound y) n Try.prog Q (acFr bad av len cap pa pp fv kk qb (actV x) undef undef undef undef undef undef undef undef) W := by
  simp only [Try.f8, Option.some.injEq, Code.region.injEq, true_and, and_true] at hops
  subst hops
  refine wpIn_region_any (by kernel_rfl) ?_
  refine wpAnyIn_inv (Inv := RgInv bad av len cap fv pa pp qb n0 Bl Bb B vl vb w0 W k kk x va vp xs ys) ?_ ?_ _ _ _ _ ?_ ?_
  · rintro listed a w i o ⟨l0, l1, l2, l3, l4, l5, l6, l7, l8, l9, x13, x14, x15, x16, x17, x18, x19, x20, rfl, rfl, hA, h14, hqb, h21, hP, h18, h65, h73, h87, h98, hR⟩ ho hl hd
    obtain rfl | rfl | rfl | rfl | rfl | rfl | rfl | rfl | rfl | rfl : i = 0 ∨ i = 1 ∨ i = 2 ∨ i = 3 ∨ i = 4 ∨ i = 5 ∨ i = 6 ∨ i = 7 ∨ i = 8 ∨ i = 9 := by
      have := (Array.getElem?_eq_some_iff.1 ho).1
      simp at this
      omega
    all_goals simp only [List.getElem?_toArray, List.getElem?_cons_zero, List.getElem?_cons_succ, Option.some.injEq] at ho
    all_goals subst ho
    all_goals simp [Region.binds] at hl hd
    all_goals subst hl
    · have e3 : l3 = false := by
        cases h : l3
        · rfl
        · have := (hA.i1 h).1; cases this
      subst e3
      have e8 : l8 = false := by
        cases h : l8
        · rfl
        · have := hA.i2 h; cases this
      subst e8
      have c := hA.bx.cell
      simp at c
      refine ⟨rfl, wpIn_val (v := va) (w' := w) (fun c h => by cases h) (fun _ _ => trivial) ?_ ?_⟩
      · simp [execOp, acFr, go_sem, c]
      · exact ⟨true, l1, l2, false, l4, l5, l6, l7, false, l9, va, x14, x15, x16, x17, x18, x19, x20, rfl, rfl, ⟨fun _ => rfl, hA.cl, hA.ca, hA.da, hA.bx, hA.lo, (fun h => by cases h), hA.i2⟩, h14, hqb, h21, hP, h18, h65, h73, h87, h98, hR⟩
    · have hq := hqb rfl
      refine ⟨rfl, wpIn_val (v := .agg (acs x)) (w' := w) (fun c h => by cases h) (fun _ _ => trivial) ?_ ?_⟩
      · exact run_op_load 33 _ rfl qb 0 rfl (acs x) _ (fun i v hi => by
          rw [Nat.zero_add, cell_of_row _ _ i _ _ _ hq]
          simpa using hi) Try.underlying33 rfl (by rw [show (acs x).size = 7 from rfl]; kernel_rfl)
      · exact ⟨l0, true, l2, l3, l4, l5, l6, l7, l8, l9, x13, .agg (acs x), x15, x16, x17, x18, x19, x20, rfl, rfl, hA, fun _ => rfl, (fun h => by cases h), fun _ => rfl, hP, h18, h65, h73, h87, h98, hR⟩
    · obtain rfl := h14 hd
      have e3 : l3 = false := by
        cases h : l3
        · rfl
        · have := (hA.i1 h).2; cases this
      subst e3
      have hg := grownAlloc w (.cells (acs x) 33)
      refine ⟨rfl, wpIn_val (v := .slice (some ⟨w.heap.size, 0, none⟩) 1 1) (w' := w.alloc (.cells (acs x) 33)) (fun c h => by cases h) (fun _ _ => trivial) ?_ ?_⟩
      · simp [execOp, acFr, go_sem, acs]
      · have hA' := hA.kept hg RowOf.none
        exact ⟨l0, l1, true, false, l4, l5, l6, l7, l8, l9, x13, _, .slice (some ⟨w.heap.size, 0, none⟩) 1 1, x16, x17, x18, x19, x20, rfl, rfl, ⟨hA'.cv, fun _ _ => ⟨_, rfl, heap_alloc_new _ _⟩, hA'.ca, hA'.da, hA'.bx, hA'.lo, (fun h => by cases h), hA'.i2⟩, fun _ => rfl,
          (fun h => by rw [hd] at h; cases h), fun _ => hd, hP.kept hg RowOf.none, h18, h65, h73, h87, h98, hR.kept hg RowOf.none⟩
    · obtain ⟨i0, hi0, hz0, hz1, hz2⟩ := info_parts infoAct
      obtain ⟨v', w', hrun, hg, hro, hA'⟩ := hA.app hd.1 hd.2 25 25 i0 _ 48 Try.underlying25 hi0 hz0 hz1 hz2 rfl (by omega) rfl (by simp [acs, Value.oneCell']) (by unfold maxLen; omega) (by omega) hR.sz (by decide)
      refine ⟨rfl, wpIn_val (v := v') (w' := w') (fun c h => by cases h) (fun _ _ => trivial) (run_op_append rfl rfl rfl hrun) ?_⟩
      exact ⟨l0, l1, l2, true, l4, l5, l6, l7, l8, l9, x13, x14, x15, v', x17, x18, x19, x20, rfl, rfl, hA', h14, (fun h => by rw [h21 hd.2] at h; cases h), h21, hP.kept hg (hro.imp (fun t e => by subst e; decide)), h18, h65, fun _ => rfl, h87, h98, hR.kept hg (hro.imp (fun t e => by subst e; decide))⟩
    · have e7 : l7 = false := by
        cases h : l7
        · rfl
        · have := (hP.i1 h).1; cases this
      subst e7
      have e9 : l9 = false := by
        cases h : l9
        · rfl
        · have := hP.i2 h; cases this
      subst e9
      have c := hP.bx.cell
      simp at c
      refine ⟨rfl, wpIn_val (v := vp) (w' := w) (fun c h => by cases h) (fun _ _ => trivial) ?_ ?_⟩
      · simp [execOp, acFr, go_sem, c]
      · exact ⟨l0, l1, l2, l3, true, l5, l6, false, l8, false, x13, x14, x15, x16, vp, x18, x19, x20, rfl, rfl, hA, h14, hqb, h21, ⟨fun _ => rfl, hP.cl, hP.ca, hP.da, hP.bx, hP.lo, (fun h => by cases h), hP.i2⟩, h18, h65, h73, h87, h98, hR⟩
    · refine ⟨rfl, wpIn_val (v := .int .i64 kk) (w' := w) (fun c h => by cases h) (fun _ _ => trivial) ?_ ?_⟩
      · simp [execOp, acFr, go_sem]
      · exact ⟨l0, l1, l2, l3, l4, true, l6, l7, l8, l9, x13, x14, x15, x16, x17, .int .i64 kk, x19, x20, rfl, rfl, hA, h14, hqb, h21, hP, fun _ => rfl, fun _ => rfl, h73, h87, h98, hR⟩
    · obtain rfl := h18 hd
      have e7 : l7 = false := by
        cases h : l7
        · rfl
        · have := (hP.i1 h).2; cases this
      subst e7
      have hg := grownAlloc w (.cells #[.int .i64 kk] 3)
      refine ⟨rfl, wpIn_val (v := .slice (some ⟨w.heap.size, 0, none⟩) 1 1) (w' := w.alloc (.cells #[.int .i64 kk] 3)) (fun c h => by cases h) (fun _ _ => trivial) ?_ ?_⟩
      · simp [execOp, acFr, go_sem]
      · have hP' := hP.kept hg RowOf.none
        exact ⟨l0, l1, l2, l3, l4, l5, true, false, l8, l9, x13, x14, x15, x16, x17, _, .slice (some ⟨w.heap.size, 0, none⟩) 1 1, x20, rfl, rfl, hA.kept hg RowOf.none, h14, (fun h => (hg.block qb (Array.getElem?_eq_some_iff.1 (hqb h)).1 (by simp)).trans (hqb h)), h21,
          ⟨hP'.cv, fun _ _ => ⟨_, rfl, heap_alloc_new _ _⟩, hP'.ca, hP'.da, hP'.bx, hP'.lo, (fun h => by cases h), hP'.i2⟩, fun _ => rfl, fun _ => hd, (fun h => by cases h), h87, h98, hR.kept hg RowOf.none⟩
    · obtain ⟨i0, hi0, hz0, hz1, hz2⟩ := info_parts infoInt
      obtain ⟨v', w', hrun, hg, hro, hP'⟩ := hP.app hd.1 hd.2.1 26 26 i0 _ 8 Try.underlying26 hi0 hz0 hz1 hz2 rfl (by omega) rfl (by simp [Value.oneCell']) (by unfold maxLen; omega) (by omega) hR.sz (by decide)
      refine ⟨rfl, wpIn_val (v := v') (w' := w') (fun c h => by cases h) (fun _ _ => trivial) (run_op_append rfl rfl rfl hrun) ?_⟩
      have hl1 := h21 (hA.i1 hd.2.2).2
      exact ⟨l0, l1, l2, l3, l4, l5, l6, true, l8, l9, x13, x14, x15, x16, x17, x18, x19, v', rfl, rfl, hA.kept hg (hro.imp (fun t e => by subst e; decide)), h14, (fun h => by rw [hl1] at h; cases h), h21, hP', h18, h65, fun _ => hd.2.2, fun _ => rfl, h98, hR.kept hg (hro.imp (fun t e => by subst e; decide))⟩
    · obtain ⟨a1, c1, rfl⟩ := slice_of_owns (hA.ca hd.1)
      have c := hA.bx.cell
      have f := hA.bx.frozen
      obtain ⟨hg, hro, hA'⟩ := hA.put hd.1 (by decide)
      refine ⟨rfl, wpIn_skp (w' := w.setCell ⟨pa, 0, none⟩ (.slice a1 (k + 1) c1)) (fun c h => by cases h) (fun _ _ => trivial) ?_ ?_⟩
      · simp [execOp, acFr, go_sem, c, f]
      · exact ⟨l0, l1, l2, l3, l4, l5, l6, l7, true, l9, x13, x14, x15, _, x17, x18, x19, x20, rfl, rfl, hA', h14, (fun h => by rw [hd.2.2.2.1] at h; cases h), h21, hP.kept hg (hro.imp (fun t e => by subst e; decide)), h18, h65, h73, fun _ => hd.2.1, fun _ => rfl, hR.kept hg (hro.imp (fun t e => by subst e; decide))⟩
    · obtain ⟨a1, c1, rfl⟩ := slice_of_owns (hP.ca hd.1)
      have c := hP.bx.cell
      have f := hP.bx.frozen
      obtain ⟨hg, hro, hP'⟩ := hP.put hd.1 (by decide)
      refine ⟨rfl, wpIn_skp (w' := w.setCell ⟨pp, 0, none⟩ (.slice a1 (k + 1) c1)) (fun c h => by cases h) (fun _ _ => trivial) ?_ ?_⟩
      · simp [execOp, acFr, go_sem, c, f]
      · exact ⟨l0, l1, l2, l3, l4, l5, l6, l7, l8, true, x13, x14, x15, x16, x17, x18, x19, _, rfl, rfl, hA.kept hg (hro.imp (fun t e => by subst e; decide)), h14, (fun h => by rw [hd.2.2.2.1] at h; cases h), h21, hP', h18, h65, h73, h87, fun _ => hd.2.1, hR.kept hg (hro.imp (fun t e => by subst e; decide))⟩
  · rintro listed a w ⟨l0, l1, l2, l3, l4, l5, l6, l7, l8, l9, x13, x14, x15, x16, x17, x18, x19, x20, rfl, rfl, hA, h14, hqb, h21, hP, h18, h65, h73, h87, h98, hR⟩ hr
    have g0 : l0 = true := by simpa using ready_nil hr 0 _ rfl (by simp [Region.binds])
    have g1 : l1 = true := by simpa using ready_nil hr 1 _ rfl (by simp [Region.binds])
    have g2 : l2 = true := by simpa using ready_nil hr 2 _ rfl (by simp [Region.binds, g1])
    have g3 : l3 = true := by simpa using ready_nil hr 3 _ rfl (by simp [Region.binds, g0, g2])
    have g4 : l4 = true := by simpa using ready_nil hr 4 _ rfl (by simp [Region.binds])
    have g5 : l5 = true := by simpa using ready_nil hr 5 _ rfl (by simp [Region.binds])
    have g6 : l6 = true := by simpa using ready_nil hr 6 _ rfl (by simp [Region.binds, g5])
    have g7 : l7 = true := by simpa using ready_nil hr 7 _ rfl (by simp [Region.binds, g4, g6, g3])
    have g8 : l8 = true := by simpa using ready_nil hr 8 _ rfl (by simp [Region.binds, g0, g1, g2, g3, g4, g5, g6, g7])
    have g9 : l9 = true := by simpa using ready_nil hr 9 _ rfl (by simp [Region.binds, g0, g1, g2, g3, g4, g5, g6, g7, g8])
    subst g0 g1 g2 g3 g4 g5 g6 g7 g8 g9
    exact hQ _ _ _ _ _ _ _ _ _ _ rfl hA hP hR
  · decide
  · exact h0
end Go.Proofs.Ytkjfagchololbaa
