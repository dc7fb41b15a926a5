/- The trace's each: the iterator over a history's actions. -/
import Derived.RangeFuncBox
import Derived.RangeFuncLeaves
import Derived.RangeFuncCalls
import Derived.Shelf.Abstract
import Derived.OwnWalkIn
import Derived.TacticsInMore
import Derived.LoopNIn
import Derived.LoopIn
import Derived.Maps.AppendAt
import Derived.Deep.MidRow
import Derived.Deep.WholeRow
import Derived.Stop.RegionWithIn
import Derived.Sort.QuietTacIn
import Derived.Test.YtkjfagchololbaaTOne
namespace Go.Proofs.Ytkjfagchololbaa
open Go.RowKit Go.Shelf

attribute [local go_sem] Oper.semAt_some

section
variable {F : Fence} {n : Nat} {P : Program} {ops : Array Oper} {Q : Exit → Act → World → Prop} {a : Act} {w : World} {rest : List Oper} {o : Oper}
theorem wpListIn_load_at (hg : o.guard = none) (ty : TypeId) (x : Operand) (ho : o.op = .load ty x) (b off : Nat) (hx : a.eval x = .pointer (some ⟨b, off, none⟩)) (cs : Array Value) (d : TypeDesc) (hc : w.rangeAt b off cs.toList)
    (hu : P.underlying ty = some d) (hd : d.isRow = true) (hi : (P.info? ty).map (·.size) = some cs.size) (h : wpListIn F n P ops Q rest (a.put o.dst (.agg cs)) w) : wpListIn F n P ops Q (o :: rest) a w := by
  refine wpListIn_plain hg fun K hK' => ?_
  have hrun := run_loadAt_mid (P := P) w b off ty cs.toList d hc hu hd (by rw [hi]; simp)
  rw [Array.toArray_toList] at hrun
  unfold Oper.wpIn
  refine ⟨?_, ?_⟩
  · simp [Oper.about, ho]
  · rw [Oper.semAt_plain F _ _ (by rw [ho]; intro c hc'; cases hc')]
    simp only [execOp, ho, hx, Sem.run_bind, hrun, Result.andThen_ok, Sem.run_pure]
    exact hK' _ _ h
theorem wpListIn_store_new (hg : o.guard = none) (ty : TypeId) (x y : Operand) (ho : o.op = .store ty x y) (c c' : Array Value) {w0 : World} (hw : w = w0.alloc (.cells c ty)) (hx : a.eval x = .pointer (some ⟨w0.heap.size, 0, none⟩)) (hy : a.eval y = .agg c')
    (hi : (P.info? ty).map (·.size) = some c'.size) (hoc : c.size = c'.size) (h1 : c'.all (·.oneCell') = true) (h : wpListIn F n P ops Q rest (a.put o.dst undef) (w0.alloc (.cells c' ty))) : wpListIn F n P ops Q (o :: rest) a w := by
  subst hw
  refine wpListIn_plain hg fun K hK' => ?_
  have hrun := run_storeAt_new (P := P) w0 ty c c' hi hoc h1
  unfold Oper.wpIn
  refine ⟨?_, ?_⟩
  · simp [Oper.about, ho]
  · rw [Oper.semAt_plain F _ _ (by rw [ho]; intro c hc'; cases hc')]
    simp only [execOp, ho, hx, hy, Sem.run_bind, hrun, Result.andThen_ok, Sem.run_pure]
    exact hK' _ _ h
end

/-- Events in a row of memory. -/
structure EvsAt (w : World) (B : Nat) (av : Option Addr) (l : List Ev) : Prop where
  r : 0 < l.length → ∃ b o, av = some ⟨b, o, none⟩ ∧ b < B ∧ ∀ i x, l[i]? = some x → w.rangeAt b (o + i * 22) (evC x).toList
  wf : ∀ x ∈ l, EvWf x ∧ MemAt w B x.av x.ms
  one : ∀ x ∈ l, (evC x).all (·.oneCell') = true

theorem EvsAt.below {w w' : World} {B : Nat} {av : Option Addr} {l : List Ev} (h : EvsAt w B av l) (hB : Below B w w') : EvsAt w' B av l :=
  ⟨fun h0 => by
    obtain ⟨b, o, h1, h2, h3⟩ := h.r h0
    exact ⟨b, o, h1, h2, fun i x hi j v hj => (hB.cell (p := ⟨b, o + i * 22 + j, none⟩) h2).trans (h3 i x hi j v hj)⟩, fun x hx => ⟨(h.wf x hx).1, (h.wf x hx).2.below hB⟩, h.one⟩

/-- The actions of the first k events, with their places. -/
def actsTo (bad : Int) (l : List Ev) (k : Nat) : List (Nat × Act') := (List.range k).filterMap fun j => match l[j]? with | some x => (oneO bad x).map fun a => (j, a) | none => none
theorem actsTo_none (bad : Int) (l : List Ev) (k : Nat) (x : Ev) (h : l[k]? = some x) (ho : oneO bad x = none) : actsTo bad l (k + 1) = actsTo bad l k := by
  unfold actsTo
  rw [List.range_succ, List.filterMap_append]
  simp [h, ho]
theorem actsTo_some (bad : Int) (l : List Ev) (k : Nat) (x : Ev) (a : Act') (h : l[k]? = some x) (ho : oneO bad x = some a) : actsTo bad l (k + 1) = actsTo bad l k ++ [(k, a)] := by
  unfold actsTo
  rw [List.range_succ, List.filterMap_append]
  simp [h, ho]
theorem actsTo_len (bad : Int) (l : List Ev) (k : Nat) : (actsTo bad l k).length ≤ k := by
  unfold actsTo
  exact Nat.le_trans (List.length_filterMap_le _ _) (by simp)
theorem actsTo_prefix (bad : Int) (l : List Ev) {j : Nat} (h : j ≤ l.length) : actsTo bad l j <+: actsTo bad l l.length := by
  have key : ∀ m, j + m ≤ l.length → actsTo bad l j <+: actsTo bad l (j + m) := by
    intro m
    induction m with
    | zero => exact fun _ => List.prefix_refl _
    | succ m ih =>
      intro hm
      obtain ⟨x, hx⟩ : ∃ x, l[j + m]? = some x := ⟨_, List.getElem?_eq_getElem (by omega)⟩
      refine (ih (by omega)).trans ?_
      cases ho : oneO bad x with
      | none => rw [← Nat.add_assoc, actsTo_none bad l (j + m) x hx ho]; exact List.prefix_refl _
      | some a => rw [← Nat.add_assoc, actsTo_some bad l (j + m) x a hx ho]; exact List.prefix_append _ _
  have := key (l.length - j) (by omega)
  rwa [show j + (l.length - j) = l.length by omega] at this

/-- Blocks that no round turns. -/
structure SparesP (S : Nat → Prop) (W W' : World) : Prop where
  size : W.heap.size ≤ W'.heap.size
  block : ∀ k, S k → W'.heap[k]? = W.heap[k]?
theorem SparesP.trans {S : Nat → Prop} {A B C : World} (h : SparesP S A B) (k : SparesP S B C) : SparesP S A C :=
  ⟨Nat.le_trans h.size k.size, fun i hi => (k.block i hi).trans (h.block i hi)⟩

def YPp (S : Nat → Prop) (J Jx : List (Nat × Act') → World → Prop) (pre : List (Nat × Act')) (W : World) (v : Bool) (W' : World) : Prop := (v = true ∧ J pre W' ∧ SparesP S W W') ∨ (v = false ∧ Jx pre W')
theorem ypp_of {S : Nat → Prop} {J Jx : List (Nat × Act') → World → Prop} {pre : List (Nat × Act')} {W W' : World} {e : Ending}
    (h : (e = .returned (.bool true) ∧ J pre W' ∧ SparesP S W W') ∨ (e = .returned (.bool false) ∧ Jx pre W')) : ∃ v : Bool, e = .returned (.bool v) ∧ YPp S J Jx pre W v W' := by
  rcases h with ⟨h1, h2⟩ | ⟨h1, h2⟩
  · exact ⟨true, h1, .inl ⟨rfl, h2⟩⟩
  · exact ⟨false, h1, .inr ⟨rfl, h2⟩⟩

theorem new_range (w : World) (cs : Array Value) (t : TypeId) : (w.alloc (.cells cs t)).rangeAt w.heap.size 0 cs.toList := fun i v hi => by
  rw [Nat.zero_add, cell_of_row _ _ i _ _ _ (heap_alloc_new w _)]
  simpa using hi
theorem one_is (bad : Int) (x : Ev) (ov : Option Act') (ho : oneO bad x = ov) (w : World) (hx : EvWf x) (hm : MemAt w w.heap.size x.av x.ms) :
    Calls Try.prog 10 #[.int .u8 bad, .agg (evC x)] w fun e w' => e = .returned (.tuple #[actV (ov.getD zAct), .bool ov.isSome]) ∧ Below w.heap.size w w' := by
  subst ho
  exact one_any bad x w hx hm

/-- What each's round may not turn: what lay below n0, and its two boxes. -/
def evS (n0 Bl Bb : Nat) (k : Nat) : Prop := k < n0 ∨ k = Bl ∨ k = Bb
def encA (v : Nat × Act') : Array Value := #[.int .i64 (v.1 : Int), actV v.2]

theorem grown_only {w w' : World} (h : Only (fun _ => False) w w') : w.grownBy w' none := ⟨h.os, h.tape, h.output, h.size, fun k hk _ => h.block k hk id⟩

theorem spares_only {n0 Bl Bb : Nat} {w w' : World} (h : Only (fun _ => False) w w') (h0 : n0 ≤ w.heap.size) (h1 : Bl < w.heap.size) (h2 : Bb < w.heap.size) : SparesP (evS n0 Bl Bb) w w' :=
  ⟨h.size, fun k hk => h.block k (by rcases hk with hk | rfl | rfl <;> omega) id⟩

set_option maxRecDepth 100000 in
set_option maxHeartbeats 8000000 in
theorem each1_in (n : Nat) (hn : 1 ≤ n) (y Bl Bb n0 : Nat) (bad : Int) (av : Option Addr) (l : List Ev) (cap : Nat) (hlen : l.length ≤ 1000) (V : Nat × Act' → Prop) (hV : ∀ (j : Nat) x a, l[j]? = some x → oneO bad x = some a → V (j, a)) (J Jx : List (Nat × Act') → World → Prop)
    (hJg : ∀ pre W W', J pre W → Only (fun _ => False) W W' → J pre W')
    (hY : ∀ pre (v : Nat × Act') W, V v → J pre W → pre.length < l.length → YieldAt Fence.wide (n - 1) Try.prog y (encA v) W fun e W' =>
      (e = .returned (.bool true) ∧ J (pre ++ [v]) W' ∧ SparesP (evS n0 Bl Bb) W W') ∨ (e = .returned (.bool false) ∧ Jx (pre ++ [v]) W'))
    (W : World) (hz : n0 ≤ W.heap.size) (hBl : Bl < W.heap.size) (hBb : Bb < W.heap.size) (hev : EvsAt W n0 av l)
    (bl : Boxed W Bl 22 (.slice av l.length cap)) (bb : Boxed W Bb 5 (.int .u8 bad)) (h0 : J [] W) :
    CallsIn Fence.wide n Try.prog 31 #[.func (.yield y) #[] #[], .pointer (some ⟨Bl, 0, none⟩), .pointer (some ⟨Bb, 0, none⟩)] W fun e W' => (∃ v, e = .returned v) ∧
      ((∃ ys, ys = actsTo bad l l.length ∧ J ys W') ∨ (∃ pre, pre <+: actsTo bad l l.length ∧ Jx pre W')) := by
  have l0 := bl.cell
  refine callsIn_of_wp Try.func31 rfl trivial ?_ rfl
  simp only [Try.ntmps31, List.size_toArray, List.length_cons, List.length_nil, Nat.reduceAdd, Nat.reduceSub, Array.replicate_succ, Array.replicate_zero, List.push_toArray, List.append_toArray, List.nil_append, List.cons_append]
  gi_wp2
  gi_loopw [10] (fun k wr => ∃ (j : Nat), j ≤ l.length ∧ k = .int .i64 j ∧ J (actsTo bad l j) wr ∧ SparesP (evS n0 Bl Bb) W wr) (fun k _ => l.length - (intOf k).toNat)
  case atStart => exact ⟨0, by omega, rfl, h0, ⟨Nat.le_refl _, fun _ _ => rfl⟩⟩
  case round =>
    obtain ⟨j, hj, rfl, hJ, hk⟩ := hrel
    have bl' : Boxed wr Bl 22 (.slice av l.length cap) := (hk.block Bl (.inr (.inl rfl))).trans bl
    have bb' : Boxed wr Bb 5 (.int .u8 bad) := (hk.block Bb (.inr (.inr rfl))).trans bb
    have b0 := bb'.cell
    have hsz := hk.size
    have hlow : ∀ k, k < n0 → wr.heap[k]? = W.heap[k]? := fun k h => hk.block k (.inl h)
    clear l0 h0
    by_cases hlt : j < l.length
    · obtain ⟨b, o, rfl, hb, hc⟩ := hev.r (by omega)
      obtain ⟨x, hx⟩ : ∃ x, l[j]? = some x := ⟨_, List.getElem?_eq_getElem hlt⟩
      have hxm := List.mem_of_getElem? hx
      obtain ⟨hwf, hmem⟩ := hev.wf x hxm
      have hone := hev.one x hxm
      have hr : wr.rangeAt b (o + j * 22) (evC x).toList := fun i v hi => (World.cell?_of_block (a := ⟨b, o + j * 22 + i, none⟩) (hlow b hb)).trans (hc j x hx i v hi)
      have hm : MemAt wr n0 x.av x.ms := ⟨fun h => by
        obtain ⟨b', o', q1, q2, q3⟩ := hmem.r h
        exact ⟨b', o', q1, q2, fun i m hi => ⟨(World.cell?_of_block (a := ⟨b', o' + i * 2, none⟩) (hlow b' q2)).trans (q3 i m hi).1, (World.cell?_of_block (a := ⟨b', o' + i * 2 + 1, none⟩) (hlow b' q2)).trans (q3 i m hi).2⟩⟩⟩
      have HX := Lib.hid hx
      have HWF := Lib.hid hwf
      have HM := Lib.hid hm
      have HR := Lib.hid hr
      have HONE := Lib.hid hone
      clear hc hx hxm hwf hm hr hone hlow hmem
      have oE := (Only.refl (fun _ => False) wr).alloc (.cells (evC x) 43)
      have b1 := oE.cell b0 id
      have HR2 := Lib.hid (new_range wr (evC x) 43)
      have HME := Lib.hid ((HM.out.below (oE.below (by omega) (fun _ h => h.elim))).mono (B' := (wr.alloc (.cells (evC x) 43)).heap.size) (by simp; omega))
      obtain ⟨ov, hov⟩ : ∃ ov, oneO bad x = ov := ⟨_, rfl⟩
      have HOV := Lib.hid hov
      clear hov
      cases ov with
      | none =>
        have HS := Lib.hid (actsTo_none bad l j x HX.out HOV.out)
        have hC := one_is bad x none HOV.out
        unfold actV at hC
        simp only [Option.getD_none, Option.isSome_none, zAct] at hC
        have HC := Lib.hid hC
        clear hC
        gi_wp2_with (first
          | (refine wpListIn_load_at rfl _ _ rfl b (o + j * 22) rfl (evC x) _ HR.out Try.underlying43 rfl (infoEv x) ?_)
          | (refine wpListIn_load_at rfl _ _ rfl wr.heap.size 0 rfl (evC x) _ HR2.out Try.underlying43 rfl (infoEv x) ?_)
          | (refine wpListIn_store_new rfl _ _ _ rfl _ (evC x) rfl rfl rfl (infoEv x) rfl HONE.out ?_)
          | (refine ⟨trivial, ?_⟩; gi_at_call 10; refine (callsIn_wide.2 (HC.out _ HWF.out HME.out)).mono ?_; rintro e' w1 ⟨rfl, hB1⟩)
          | ((with_reducible refine And.intro (a := ∀ f : FuncId, none = some f → Fence.wide.fn f) (fun _ h => (by cases h)) ?_)))
        have oA := (oE.trans (Only.of_below hB1)).alloc (.cells #[.int .u8 0, .int .i64 0, .int .i64 0, .int .i64 0, .int .i64 0, .bool false, .int .u8 0] 33)
        exact ⟨⟨j + 1, by omega, by go_num, by rw [HS.out]; exact hJg _ _ _ hJ oA, hk.trans (spares_only oA (by omega) (by omega) (by omega))⟩, by simp only [intOf]; omega⟩
      | some a =>
        have HS := Lib.hid (actsTo_some bad l j x a HX.out HOV.out)
        have hC := one_is bad x (some a) HOV.out
        have hlt2 : (actsTo bad l j).length < l.length := Nat.lt_of_le_of_lt (actsTo_len bad l j) hlt
        have HL2 := Lib.hid hlt2
        have hP := actsTo_prefix bad l (j := j + 1) (by omega)
        have HP := Lib.hid hP
        clear hlt2 hP
        obtain ⟨ak, ac, ae, aq, ag, ay, ao⟩ := a
        unfold actV at hC
        simp only [Option.getD_some, Option.isSome_some] at hC
        have HC := Lib.hid hC
        clear hC
        have hY' := fun W2 hJ2 => hY _ (j, ⟨ak, ac, ae, aq, ag, ay, ao⟩) W2 (hV j x _ HX.out HOV.out) hJ2 HL2.out
        unfold encA actV at hY'
        dsimp only at hY'
        have HY := Lib.hid hY'
        clear hY hY'
        gi_wp2_with (first
          | (refine wpListIn_load_at rfl _ _ rfl b (o + j * 22) rfl (evC x) _ HR.out Try.underlying43 rfl (infoEv x) ?_)
          | (refine wpListIn_load_at rfl _ _ rfl wr.heap.size 0 rfl (evC x) _ HR2.out Try.underlying43 rfl (infoEv x) ?_)
          | (refine wpListIn_store_new rfl _ _ _ rfl _ (evC x) rfl rfl rfl (infoEv x) rfl HONE.out ?_)
          | (refine ⟨trivial, ?_⟩; gi_at_call 10; refine (callsIn_wide.2 (HC.out _ HWF.out HME.out)).mono ?_; rintro e' w1 ⟨rfl, hB1⟩
             have oA := (oE.trans (Only.of_below hB1)).alloc (.cells #[.int .u8 ak, .int .i64 ac, .int .i64 ae, .int .i64 aq, .int .i64 ag, .bool ay, .int .u8 ao] 33)
             obtain ⟨fn, tmps, assign, body, hy, hR⟩ := HY.out _ (hJg _ _ _ hJ oA))
          | (refine hR.mono ?_; intro e W3 h3; obtain ⟨v, rfl, h4⟩ := ypp_of h3))
        all_goals
          rcases h4 with ⟨rfl, h5, h6⟩ | ⟨rfl, h5⟩
          · first
              | (exact absurd (by assumption : (!true) = true) (by decide))
              | exact ⟨⟨j + 1, by omega, by go_num, by rw [HS.out]; exact h5, (hk.trans (spares_only oA (by omega) (by omega) (by omega))).trans h6⟩, by simp only [intOf]; omega⟩
          · first
              | (exact absurd (by assumption : (!false) = false) (by decide))
              | (refine bodyPost_ret (results_none rfl _ _ _) rfl ?_
                 exact ⟨⟨_, rfl⟩, .inr ⟨actsTo bad l (j + 1), HP.out, by rw [HS.out]; exact h5⟩⟩)
    · obtain rfl : j = l.length := by omega
      clear hlt
      gi_wp2
      go_end0
      exact ⟨⟨_, rfl⟩, .inl ⟨_, rfl, hJ⟩⟩

theorem each_in (n : Nat) (bad : Int) (av : Option Addr) (len cap : Nat) (w : World) :
    CallsIn Fence.wide n Try.prog 21 #[.int .u8 bad, .slice av len cap] w fun e w' =>
      e = .returned (.func (.func 31) #[] #[.pointer (some ⟨w.heap.size + 1, 0, none⟩), .pointer (some ⟨w.heap.size, 0, none⟩)]) ∧ w' = (w.alloc (.cells #[.int .u8 bad] 5)).alloc (.cells #[.slice av len cap] 22) := by
  refine callsIn_of_wp Try.func21 rfl trivial ?_ rfl
  simp only [Try.ntmps21, List.size_toArray, List.length_cons, List.length_nil, Nat.reduceAdd, Nat.reduceSub, Array.replicate_succ, Array.replicate_zero, List.push_toArray, List.append_toArray, List.nil_append, List.cons_append]
  gi_wp2
  go_ret
  exact ⟨rfl, rfl⟩

theorem each_stops (n : Nat) (hn : 1 ≤ n) (Bl Bb n0 : Nat) (bad : Int) (av : Option Addr) (l : List Ev) (cap : Nat) (hlen : l.length ≤ 1000) (w : World) (hz : n0 ≤ w.heap.size) (hev : EvsAt w n0 av l)
    (bl : Boxed w Bl 22 (.slice av l.length cap)) (bb : Boxed w Bb 5 (.int .u8 bad)) :
    SeqStopsK Fence.wide n Try.prog 31 #[.pointer (some ⟨Bl, 0, none⟩), .pointer (some ⟨Bb, 0, none⟩)] encA (SparesP (evS n0 Bl Bb)) (fun ys => ys = actsTo bad l l.length) (fun pre => pre <+: actsTo bad l l.length) l.length w := fun y J Jx W hB hJ _ hY h0 =>
  each1_in n hn y Bl Bb n0 bad av l cap hlen (fun _ => True) (fun _ _ _ _ _ => trivial) J Jx (fun pre W1 W2 h o => hJ pre W1 W2 none h (grown_only o) (fun _ e => by cases e)) (fun pre v W2 _ => hY pre v W2) W (Nat.le_trans hz hB.size)
    (Nat.lt_of_lt_of_le bl.lt hB.size) (Nat.lt_of_lt_of_le bb.lt hB.size) (hev.below (hB.mono hz)) ((hB.block _ bl.lt).trans bl) ((hB.block _ bb.lt).trans bb) h0

/-- The same, of actions of which something is known. -/
theorem each_stopsV (V : Nat × Act' → Prop) (n : Nat) (hn : 1 ≤ n) (Bl Bb n0 : Nat) (bad : Int) (av : Option Addr) (l : List Ev) (cap : Nat) (hlen : l.length ≤ 1000) (hV : ∀ (j : Nat) x a, l[j]? = some x → oneO bad x = some a → V (j, a)) (w : World) (hz : n0 ≤ w.heap.size) (hev : EvsAt w n0 av l)
    (bl : Boxed w Bl 22 (.slice av l.length cap)) (bb : Boxed w Bb 5 (.int .u8 bad)) :
    SeqStopsK Fence.wide n Try.prog 31 #[.pointer (some ⟨Bl, 0, none⟩), .pointer (some ⟨Bb, 0, none⟩)] (fun v : { v : Nat × Act' // V v } => encA v.1) (SparesP (evS n0 Bl Bb)) (fun ys => ys.map (·.1) = actsTo bad l l.length) (fun pre => pre.map (·.1) <+: actsTo bad l l.length) l.length w := fun y J Jx W hB hJ hJx hY h0 => by
  have key := each1_in n hn y Bl Bb n0 bad av l cap hlen V hV (fun pre W1 => ∃ pre' : List { v : Nat × Act' // V v }, pre'.map (·.1) = pre ∧ J pre' W1) (fun pre W1 => ∃ pre' : List { v : Nat × Act' // V v }, pre'.map (·.1) = pre ∧ Jx pre' W1)
    (fun pre W1 W2 ⟨pre', h1, h2⟩ o => ⟨pre', h1, hJ pre' W1 W2 none h2 (grown_only o) (fun _ e => by cases e)⟩)
    (fun pre v W2 hv ⟨pre', h1, h2⟩ hlt => by
      obtain ⟨fn, tmps, assign, body, q1, q2⟩ := hY pre' ⟨v, hv⟩ W2 h2 (by rw [← h1, List.length_map] at hlt; exact hlt)
      refine ⟨fn, tmps, assign, body, q1, q2.mono fun e W3 h => ?_⟩
      rcases h with ⟨e1, e2, e3⟩ | ⟨e1, e2⟩
      · exact .inl ⟨e1, ⟨_, by rw [List.map_append, h1]; rfl, e2⟩, e3⟩
      · exact .inr ⟨e1, ⟨_, by rw [List.map_append, h1]; rfl, e2⟩⟩)
    W (Nat.le_trans hz hB.size) (Nat.lt_of_lt_of_le bl.lt hB.size) (Nat.lt_of_lt_of_le bb.lt hB.size) (hev.below (hB.mono hz)) ((hB.block _ bl.lt).trans bl) ((hB.block _ bb.lt).trans bb) ⟨[], rfl, h0⟩
  refine key.mono fun e W3 ⟨h1, h2⟩ => ⟨h1, ?_⟩
  rcases h2 with ⟨ys, rfl, ys', q1, q2⟩ | ⟨pre, q0, pre', q1, q2⟩
  · exact .inl ⟨ys', q1, q2⟩
  · exact .inr ⟨pre', (show pre'.map (·.1) <+: actsTo bad l l.length by rw [q1]; exact q0), q2⟩
end Go.Proofs.Ytkjfagchololbaa
