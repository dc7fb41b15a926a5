/- The walk of the trace's Actions. -/
import Derived.Test.YtkjfagchololbaaTAct
import Derived.RangeFuncNested
namespace Go.Proofs.Ytkjfagchololbaa
open Go.RowKit Go.Shelf

attribute [local go_sem] Oper.semAt_some

def AcPost (bad : Int) (l : List Ev) (w : World) (e : Ending) (w' : World) : Prop :=
  ∃ v1 v2, e = .returned (.tuple #[v1, v2]) ∧ w'.ownsRow w.heap.size 33 7 v1 (actsTo bad l l.length).length ((actsTo bad l l.length).flatMap fun v => actL v.2) ∧
    w'.ownsRow w.heap.size 3 1 v2 (actsTo bad l l.length).length ((actsTo bad l l.length).map fun v => .int .i64 (v.1 : Int)) ∧ Below w.heap.size w w'

structure AcI (n0 : Nat) (bad : Int) (vl : Value) (w0 : World) (pre : List (Nat × Act')) (va vp : Value) (W : World) : Prop where
  ba : Boxed W n0 25 va
  ra : W.ownsRow n0 33 7 va pre.length (pre.flatMap fun v => actL v.2)
  bp : Boxed W (n0 + 1) 26 vp
  rp : W.ownsRow n0 3 1 vp pre.length (pre.map fun v => .int .i64 (v.1 : Int))
  bel : Below n0 w0 W
  bl : Boxed W (n0 + 3) 22 vl
  bb : Boxed W (n0 + 2) 5 (.int .u8 bad)
  sz : n0 ≤ W.heap.size

theorem nonc_ne {W : World} {row : Option Nat} {B : Nat} (hr : ∀ r, row = some r → B ≤ r ∧ ∃ o : Obj, W.heap[r]? = some o ∧ o.isCells = false) {b : Nat} {cs : Array Value} {t : TypeId} {fr : Nat × Nat} (hb : W.heap[b]? = some (.cells cs t fr)) : some b ≠ row := by
  intro e
  obtain ⟨_, o, h1, h2⟩ := hr b e.symm
  rw [hb] at h1
  cases h1
  simp [Obj.isCells] at h2
theorem owns_nonc {w w' : World} {row : Option Nat} {B n0 : Nat} {e : TypeId} {size : Nat} {v : Value} {k : Nat} {xs : List Value} (h : w.ownsRow n0 e size v k xs) (hg : w.grownBy w' row) (hr : ∀ r, row = some r → B ≤ r ∧ ∃ o : Obj, w.heap[r]? = some o ∧ o.isCells = false) : w'.ownsRow n0 e size v k xs := by
  refine ⟨h.1, ?_⟩
  rcases h.2 with h2 | ⟨g, cap, cur, rfl, hb, hgg, rest⟩
  · exact .inl h2
  · exact .inr ⟨g, cap, cur, rfl, hb, (hg.block g (Array.getElem?_eq_some_iff.1 hgg).1 (nonc_ne hr hgg)).trans hgg, rest⟩

theorem AcI.nonc {n0 : Nat} {bad : Int} {vl : Value} {w0 : World} {pre : List (Nat × Act')} {va vp : Value} {W W' : World} {row : Option Nat} {B : Nat} (h : AcI n0 bad vl w0 pre va vp W) (hB : n0 ≤ B) (hg : W.grownBy W' row)
    (hr : ∀ r, row = some r → B ≤ r ∧ ∃ o : Obj, W.heap[r]? = some o ∧ o.isCells = false) : AcI n0 bad vl w0 pre va vp W' :=
  ⟨h.ba.kept hg (nonc_ne hr h.ba), owns_nonc h.ra hg hr, h.bp.kept hg (nonc_ne hr h.bp), owns_nonc h.rp hg hr, h.bel.grown hg h.sz (fun r e => Nat.le_trans hB (hr r e).1), h.bl.kept hg (nonc_ne hr h.bl), h.bb.kept hg (nonc_ne hr h.bb), Nat.le_trans h.sz hg.size⟩

theorem AcI.spares {n0 : Nat} {bad : Int} {vl : Value} {w0 : World} {pre pre' : List (Nat × Act')} {va vp va' vp' : Value} {W W' : World} (h : AcI n0 bad vl w0 pre va vp W) (h' : AcI n0 bad vl w0 pre' va' vp' W') (hs : W.heap.size ≤ W'.heap.size) : SparesP (evS n0 (n0 + 3) (n0 + 2)) W W' :=
  ⟨hs, fun k hk => by
    rcases hk with hk | rfl | rfl
    · exact (h'.bel.block k hk).trans (h.bel.block k hk).symm
    · exact (show W'.heap[n0 + 3]? = _ from h'.bl).trans (show W.heap[n0 + 3]? = _ from h.bl).symm
    · exact (show W'.heap[n0 + 2]? = _ from h'.bb).trans (show W.heap[n0 + 2]? = _ from h.bb).symm⟩

def AcIx (n0 : Nat) (bad : Int) (vl : Value) (w0 : World) (pre : List (Nat × Act')) (W : World) : Prop := ∃ va vp, AcI n0 bad vl w0 pre va vp W
def AcAx (bad : Int) (av : Option Addr) (len cap : Nat) (pa pp : Nat) (fv : Value) (x : Nat × Act') (a' : Act) (W : World) : Prop :=
  ∃ qb, a' = acFr bad av len cap pa pp fv (x.1 : Int) qb (actV x.2) undef undef undef undef undef undef undef undef ∧ W.heap[qb]? = some (.cells (acs x.2) 33 (0, 0))

theorem sparesP_b {S : Nat → Prop} {N : Nat} (hS : ∀ k, S k → k < N) (W : World) (l : Nat) (o o' : Obj) (hl : N ≤ l) (_ : W.heap[l]? = some o) (_ : o.isCells = false) (_ : o.isWalk = false) : SparesP S W (W.putObj l o') :=
  ⟨by simp, fun k hk => World.putObj_heap_other (by have := hS k hk; omega)⟩

set_option maxRecDepth 100000 in
set_option maxHeartbeats 8000000 in
theorem acts_any (bad : Int) (av : Option Addr) (l : List Ev) (cap : Nat) (w : World) (hlen : l.length ≤ 1000) (hev : EvsAt w w.heap.size av l) :
    Calls Try.prog 8 #[.int .u8 bad, .slice av l.length cap] w (AcPost bad l w) := by
  refine (callsIn_wide (n := 9)).1 ?_
  refine callsIn_of_wp_marks Try.func8 rfl trivial ?_ rfl
  simp only [Try.ntmps8, List.size_toArray, List.length_cons, List.length_nil, Nat.reduceAdd, Nat.reduceSub, Array.replicate_succ, Array.replicate_zero, List.push_toArray, List.append_toArray, List.nil_append, List.cons_append]
  gi_wp2_with (refine ⟨trivial, ?_⟩; gi_at_call 21; refine (each_in _ bad av l.length cap _).mono ?_; rintro e w' ⟨rfl, rfl⟩)
  obtain ⟨W1, hW1⟩ : ∃ W1, W1 = (((w.alloc (.cells #[.slice none 0 0] 25)).alloc (.cells #[.slice none 0 0] 26)).alloc (.cells #[.int .u8 bad] 5)).alloc (.cells #[.slice av l.length cap] 22) := ⟨_, rfl⟩
  obtain ⟨n0, hn0⟩ : ∃ n0, w.heap.size = n0 := ⟨_, rfl⟩
  have hsz : W1.heap.size = n0 + 4 := by rw [hW1]; simp [hn0]
  have hI : AcI n0 bad (.slice av l.length cap) w [] (.slice none 0 0) (.slice none 0 0) W1 := by
    refine ⟨?_, World.ownsRow_nil _ _ _ _, ?_, World.ownsRow_nil _ _ _ _, ?_, ?_, ?_, by omega⟩
    · rw [← hn0, hW1]; exact (((Boxed.new w _ _).alloc _).alloc _).alloc _
    · rw [← hn0, hW1]; have := (((Boxed.new (w.alloc (.cells #[.slice none 0 0] 25)) 26 (.slice none 0 0)).alloc (.cells #[.int .u8 bad] 5)).alloc (.cells #[.slice av l.length cap] 22)); simp only [World.size_alloc] at this; exact this
    · rw [← hn0, hW1]; exact ((((Below.refl _ w).alloc (Nat.le_refl _) _).alloc (by simp) _).alloc (by simp; omega) _).alloc (by simp; omega) _
    · rw [← hn0, hW1]; have := Boxed.new (((w.alloc (.cells #[.slice none 0 0] 25)).alloc (.cells #[.slice none 0 0] 26)).alloc (.cells #[.int .u8 bad] 5)) 22 (.slice av l.length cap); simp only [World.size_alloc] at this; exact this
    · rw [← hn0, hW1]; have := ((Boxed.new ((w.alloc (.cells #[.slice none 0 0] 25)).alloc (.cells #[.slice none 0 0] 26)) 5 (.int .u8 bad)).alloc (.cells #[.slice av l.length cap] 22)); simp only [World.size_alloc] at this; exact this
  have hev1 : EvsAt W1 n0 av l := by rw [hn0] at hev; exact hev.below hI.bel
  rw [← hW1]
  refine wpIn_rangeFunc_ownH rfl (by omega) (gf := 31) (lb := #[.pointer (some ⟨n0 + 3, 0, none⟩), .pointer (some ⟨n0 + 2, 0, none⟩)]) (by rw [← hn0]; rfl) trivial (enters_of Try.func31 (by kernel_rfl) rfl)
    (each_stops 8 (by omega) (n0 + 3) (n0 + 2) n0 bad av l cap hlen W1 (by omega) hev1 hI.bl hI.bb) SparesP.trans (sparesP_b (by rintro k (h | h | h) <;> omega)) (Below.refl _ _) (fun _ => rfl)
    (AcIx n0 bad (.slice av l.length cap) w) (fun _ _ _ => False)
    (fun pre W W' row ⟨va, vp, h⟩ hg hr => ⟨va, vp, h.nonc (by omega) hg hr⟩) (fun _ _ _ _ _ hs _ _ => hs) ⟨_, _, hI⟩ (AcAx bad av l.length cap n0 (n0 + 1) (.func (.func 31) #[] #[.pointer (some ⟨n0 + 3, 0, none⟩), .pointer (some ⟨n0 + 2, 0, none⟩)]))
    (fun x a' _ W W' row ⟨qb, h1, h2⟩ hg hr => ⟨qb, h1, (hg.block qb (Array.getElem?_eq_some_iff.1 h2).1 (nonc_ne hr h2)).trans h2⟩) ?assign ?body ?done ?stop
  case assign =>
    intro y pre x W K hI' hK
    obtain ⟨xk, ak, ac, ae, aq, ag, ay, ao⟩ := x
    obtain ⟨va, vp, h⟩ := hI'
    have HK := Lib.hid hK
    clear hK
    unfold encA actV
    gi_wp2
    have hg := World.grownBy_alloc W (.cells #[.int .u8 ak, .int .i64 ac, .int .i64 ae, .int .i64 aq, .int .i64 ag, .bool ay, .int .u8 ao] 33) none
    have h' := h.nonc (B := n0) (Nat.le_refl _) hg (fun _ e => by cases e)
    refine HK.out _ _ ((KeepsOthers.alloc W _).from _) (h.spares h' (by simp)) ⟨_, _, h'⟩ ⟨W.heap.size, ?_, heap_alloc_new _ _⟩
    rw [← hn0]
    rfl
  case body =>
    intro y pre x a' W hy hl hI' hA hlt
    obtain ⟨va, vp, h⟩ := hI'
    obtain ⟨qb, rfl, hqb⟩ := hA
    gi_wp2
    have hrn : ∀ w2, w2 = W.drew → Rnd n0 (n0 + 3) (n0 + 2) W1.heap.size 22 5 (.slice av l.length cap) (.int .u8 bad) w W w2 := fun w2 e => by
      subst e
      exact ⟨below_drewN h.bel 1, h.bl, h.bb, ⟨Nat.le_refl _, fun _ _ _ hk _ => hk⟩, h.sz⟩
    refine reg4 (n := 9 - 1 - 1) (y := y) bad av l.length cap _ n0 (n0 + 1) qb n0 (n0 + 3) (n0 + 2) W1.heap.size (.slice av l.length cap) (.int .u8 bad) w W pre.length (by omega) (x.1 : Int) x.2 va vp _ _ (by rfl)
      ⟨false, false, false, false, false, false, false, false, false, false, undef, undef, undef, undef, undef, undef, undef, undef, rfl, rfl, ⟨(fun h => by cases h), (fun h => by cases h), (fun h => by cases h), fun _ => h.ra.drewN 1, h.ba, Nat.le_refl _, (fun h => by cases h), (fun h => by cases h)⟩, (fun h => by cases h), fun _ => hqb, (fun h => by cases h),
        ⟨(fun h => by cases h), (fun h => by cases h), (fun h => by cases h), fun _ => h.rp.drewN 1, h.bp, Nat.le_succ _, (fun h => by cases h), (fun h => by cases h)⟩, (fun h => by cases h), (fun h => by cases h), (fun h => by cases h), (fun h => by cases h), (fun h => by cases h), hrn _ rfl⟩ ?_
    intro a2 w2 x13 x14 x15 x16 x17 x18 x19 x20 _ hA2 hP2 hR2
    have h2 : AcI n0 bad (.slice av l.length cap) w (pre ++ [x]) x16 x20 w2 := by
      refine ⟨by simpa using hA2.bx, ?_, by simpa using hP2.bx, ?_, hR2.bel, hR2.bl, hR2.bb, hR2.sz⟩
      · have := hA2.ca rfl
        rw [List.length_append, List.length_singleton, List.flatMap_append]
        simpa [acs, actL] using this
      · have := hP2.ca rfl
        rw [List.length_append, List.length_singleton, List.map_append]
        simpa using this
    exact ⟨hR2.kf, h.spares h2 hR2.kf.size, _, _, h2⟩
  case done =>
    intro D ys W hD hys hI' hK
    obtain ⟨va, vp, h⟩ := hI'
    subst hys
    obtain ⟨a1, c1, rfl⟩ := slice_of_owns h.ra
    obtain ⟨a2, c2, rfl⟩ := slice_of_owns h.rp
    have ca := h.ba.cell
    have cp := h.bp.cell
    have fa := h.ba.frozen
    have fp := h.bp.frozen
    rw [hn0]
    gi_wp2
    gi_region
    all_goals gi_wp2
    have hs1 := grownBy_setCell' W n0 (.slice a1 (actsTo bad l l.length).length c1)
    have r1 := RowOf.box h.ba (Nat.le_refl n0)
    have h1 : AcI n0 bad (.slice av l.length cap) w (actsTo bad l l.length) (.slice a1 (actsTo bad l l.length).length c1) (.slice a2 (actsTo bad l l.length).length c2) (W.setCell ⟨n0, 0, none⟩ (.slice a1 (actsTo bad l l.length).length c1)) :=
      ⟨h.ba.set _, owns_grown h.ra hs1 (r1.imp fun t e => by subst e; decide), h.bp.kept hs1 (r1.ne h.bp (by decide)), owns_grown h.rp hs1 (r1.imp fun t e => by subst e; decide), h.bel.setCell (p := ⟨n0, 0, none⟩) (Nat.le_refl _) _, h.bl.kept hs1 (r1.ne h.bl (by decide)), h.bb.kept hs1 (r1.ne h.bb (by decide)), Nat.le_trans h.sz hs1.size⟩
    have hs2 := grownBy_setCell' (W.setCell ⟨n0, 0, none⟩ (.slice a1 (actsTo bad l l.length).length c1)) (n0 + 1) (.slice a2 (actsTo bad l l.length).length c2)
    have r2 := RowOf.box h1.bp (Nat.le_succ n0)
    have h2' : AcI n0 bad (.slice av l.length cap) w (actsTo bad l l.length) (.slice a1 (actsTo bad l l.length).length c1) (.slice a2 (actsTo bad l l.length).length c2) ((W.setCell ⟨n0, 0, none⟩ (.slice a1 (actsTo bad l l.length).length c1)).setCell ⟨n0 + 1, 0, none⟩ (.slice a2 (actsTo bad l l.length).length c2)) :=
      ⟨h1.ba.kept hs2 (r2.ne h1.ba (by decide)), owns_grown h1.ra hs2 (r2.imp fun t e => by subst e; decide), h1.bp.set _, owns_grown h1.rp hs2 (r2.imp fun t e => by subst e; decide), h1.bel.setCell (p := ⟨n0 + 1, 0, none⟩) (Nat.le_succ _) _, h1.bl.kept hs2 (r2.ne h1.bl (by decide)), h1.bb.kept hs2 (r2.ne h1.bb (by decide)), Nat.le_trans h1.sz hs2.size⟩
    have h2 := h2'.nonc (B := n0) (Nat.le_refl _) (grownBy_drewN _ 1 none) (fun _ e => by cases e)
    have hK2 := (KeepsOthers.setCell (W.setCell ⟨n0, 0, none⟩ (.slice a1 (actsTo bad l l.length).length c1)) ⟨n0 + 1, 0, none⟩ (.slice a2 (actsTo bad l l.length).length c2)).same D _ ((KeepsOthers.setCell W ⟨n0, 0, none⟩ (.slice a1 (actsTo bad l l.length).length c1)).same D _ hK rfl) rfl
    generalize ((W.setCell ⟨n0, 0, none⟩ (.slice a1 (actsTo bad l l.length).length c1)).setCell ⟨n0 + 1, 0, none⟩ (.slice a2 (actsTo bad l l.length).length c2)) = W2 at *
    refine ⟨by simp, .inl ⟨_, _, rfl, run_takeDeferred (show W2.drew.heap[D]? = _ from hK2), ?_⟩⟩
    have h3 := h2.nonc (B := n0) (Nat.le_refl _) (grownBy_putObj' W2.drew D (.deferred none)) (fun r e => by cases e; exact ⟨by omega, _, hK2, rfl⟩)
    have c3 := h3.ba.cell
    have c4 := h3.bp.cell
    refine ⟨.tuple #[.slice a1 (actsTo bad l l.length).length c1, .slice a2 (actsTo bad l l.length).length c2], ?_, ?_⟩
    · simp [results, Try.results8, go_sem, c3, c4]
    · refine ⟨_, _, rfl, ?_, ?_, ?_⟩
      · rw [hn0]; exact h3.ra
      · rw [hn0]; exact h3.rp
      · rw [hn0]; exact h3.bel
  case stop =>
    intro D c pre W _ _ h _
    exact h.elim
end Go.Proofs.Ytkjfagchololbaa
