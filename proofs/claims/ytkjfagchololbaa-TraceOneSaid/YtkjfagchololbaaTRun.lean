/- The walk of the trace's run. -/
import Derived.Test.YtkjfagchololbaaTActs
namespace Go.Proofs.Ytkjfagchololbaa
open Go.RowKit Go.Shelf

attribute [local go_sem] Oper.semAt_some

/-- A ledger's run over actions with places: its rows, or where it stops, and the error. -/
def runT (bad : Int) : List Row → List (Nat × Act') → List Row ⊕ (Nat × Int)
  | rs, [] => .inl rs
  | rs, x :: l => if mayV bad rs x.2 = 0 then runT bad (putR rs x.2) l else .inr (x.1, mayV bad rs x.2)
theorem runT_append (bad : Int) : ∀ (l m : List (Nat × Act')) (rs : List Row), runT bad rs (l ++ m) = match runT bad rs l with | .inl rs' => runT bad rs' m | .inr x => .inr x
  | [], _, _ => rfl
  | x :: l, m, rs => by
    simp only [List.cons_append, runT]
    split
    · exact runT_append bad l m _
    · rfl
theorem runT_prefix {bad : Int} {l m : List (Nat × Act')} {rs : List Row} {x : Nat × Int} (h : l <+: m) (hr : runT bad rs l = .inr x) : runT bad rs m = .inr x := by
  obtain ⟨t, rfl⟩ := h
  rw [runT_append, hr]

theorem setStep_byte {s : Int} {m : Int × ByteArray} (h : 0 ≤ s ∧ s ≤ 255) : 0 ≤ setStep s m ∧ setStep s m ≤ 255 := by
  unfold setStep
  split
  · exact bits_within .or .u8 s _
  · exact h
theorem setM_byte (ms : List (Int × ByteArray)) : 0 ≤ setM ms ∧ setM ms ≤ 255 := by
  unfold setM
  have key : ∀ (ms : List (Int × ByteArray)) (s : Int), (0 ≤ s ∧ s ≤ 255) → 0 ≤ ms.foldl setStep s ∧ ms.foldl setStep s ≤ 255 := by
    intro ms
    induction ms with
    | nil => exact fun s h => h
    | cons m ms ih => exact fun s h => ih _ (setStep_byte h)
  exact key ms 0 (by omega)
theorem oneO_wf {bad : Int} {x : Ev} {a : Act'} (hx : EvWf x) (h : oneO bad x = some a) : ActWf a := by
  have ha : actOf x = some a := by
    unfold oneO at h
    cases hq : actOf x with
    | none => rw [hq] at h; cases h
    | some b =>
      rw [hq] at h
      dsimp only at h
      split at h
      · exact h
      · cases h
  clear h
  unfold actOf at ha
  split at ha
  · cases ha
    exact ⟨by dsimp only; omega, ⟨hx.t.1, hx.t.2.1, hx.t.2.2⟩, by unfold wfI; dsimp only; omega, setM_byte _⟩
  · split at ha
    · split at ha
      · cases ha; exact ⟨by dsimp only; omega, ⟨hx.rt.1, hx.rt.2.1, hx.rt.2.2⟩, hx.g, by dsimp only; omega⟩
      · split at ha
        · cases ha; exact ⟨by dsimp only; omega, ⟨hx.rt.1, hx.rt.2.1, hx.rt.2.2⟩, by unfold wfI; dsimp only; omega, by dsimp only; omega⟩
        · split at ha
          · cases ha; exact ⟨by dsimp only; omega, ⟨hx.rt.1, hx.rt.2.1, hx.rt.2.2⟩, hx.g, by dsimp only; omega⟩
          · cases ha
    · cases ha

abbrev WA := { v : Nat × Act' // ActWf v.2 }
abbrev wv (pre : List WA) : List (Nat × Act') := pre.map fun x => x.1

def RnPost (bad : Int) (l : List Ev) (w : World) (e : Ending) (w' : World) : Prop :=
  (∃ gb mb rv rs, runT bad [] (actsTo bad l l.length) = .inl rs ∧ e = .returned (.tuple #[.pointer (some ⟨gb, 0, none⟩), .int .i64 (l.length : Int), .int .i64 0]) ∧ GAt w' (w.heap.size + 3) gb mb rv bad rs ∧ Below w.heap.size w w') ∨
  (∃ k v, runT bad [] (actsTo bad l l.length) = .inr (k, v) ∧ e = .returned (.tuple #[.pointer none, .int .i64 (k : Int), .int .i64 v]) ∧ Below w.heap.size w w')

structure RuI (n0 gb mb pb Bl Bb B : Nat) (bad : Int) (vl : Value) (w0 : World) (pre : List (Nat × Act')) (rv : Value) (rs : List Row) (W : World) : Prop where
  g : GAt W (n0 + 3) gb mb rv bad rs
  run : runT bad [] pre = .inl rs
  len : rs.length ≤ pre.length
  b4 : Boxed W n0 74 (.pointer none)
  b5 : Boxed W (n0 + 1) 3 (.int .i64 0)
  b6 : Boxed W (n0 + 2) 44 (.int .i64 0)
  bp : Boxed W pb 74 (.pointer (some ⟨gb, 0, none⟩))
  bel : Below n0 w0 W
  bl : Boxed W Bl 22 vl
  bb : Boxed W Bb 5 (.int .u8 bad)
  sz : n0 + 3 ≤ W.heap.size
  mB : mb < B

theorem RuI.nonc {n0 gb mb pb Bl Bb B : Nat} {bad : Int} {vl : Value} {w0 : World} {pre : List (Nat × Act')} {rv : Value} {rs : List Row} {W W' : World} {row : Option Nat} (h : RuI n0 gb mb pb Bl Bb B bad vl w0 pre rv rs W) (hB : n0 ≤ B) (hg : W.grownBy W' row)
    (hr : ∀ r, row = some r → B ≤ r ∧ ∃ o : Obj, W.heap[r]? = some o ∧ o.isCells = false) : RuI n0 gb mb pb Bl Bb B bad vl w0 pre rv rs W' := by
  refine ⟨?_, h.run, h.len, h.b4.kept hg (nonc_ne hr h.b4), h.b5.kept hg (nonc_ne hr h.b5), h.b6.kept hg (nonc_ne hr h.b6), h.bp.kept hg (nonc_ne hr h.bp), h.bel.grown hg (by have := h.sz; omega) (fun r e => Nat.le_trans hB (hr r e).1), h.bl.kept hg (nonc_ne hr h.bl), h.bb.kept hg (nonc_ne hr h.bb), Nat.le_trans h.sz hg.size, h.mB⟩
  have g := h.g
  refine ⟨(hg.block gb (Array.getElem?_eq_some_iff.1 g.cells).1 (nonc_ne hr g.cells)).trans g.cells, owns_nonc g.rows hg hr, ?_, g.low, g.nodup, g.ok, g.few⟩
  exact (hg.block mb (Array.getElem?_eq_some_iff.1 g.map).1 (fun e => by have := (hr mb e.symm).1; have := h.mB; omega)).trans g.map

theorem box_map {W : World} {b mb : Nat} {t : TypeId} {v : Value} {es : Array MapEntry} {c : Nat} (hb : Boxed W b t v) (hm : W.heap[mb]? = some (.map es c)) : ¬ b = mb := cells_map_ne hm hb
/-- What Apply turns spares a box. -/
theorem RuI.box {n0 gb mb pb Bl Bb B : Nat} {bad : Int} {vl : Value} {w0 : World} {pre : List (Nat × Act')} {rv : Value} {rs : List Row} {W W' : World} (h : RuI n0 gb mb pb Bl Bb B bad vl w0 pre rv rs W) (ho : Only (fun j => j = gb ∨ j = mb ∨ rv.ownBlock = some j) W W')
    {b : Nat} {t : TypeId} {v : Value} (hb : Boxed W b t v) (h1 : t ≠ 92) (h2 : t ≠ 62) : Boxed W' b t v :=
  ho.obj hb (by
    rintro (e | e | e)
    · exact block_ne hb h.g.cells h1 e
    · exact box_map hb h.g.map e
    · exact row_ne h.g.rows hb h2 b e rfl)

theorem RuI.spares {n0 gb mb pb Bl Bb B : Nat} {bad : Int} {vl : Value} {w0 : World} {pre pre' : List (Nat × Act')} {rv rv' : Value} {rs rs' : List Row} {W W' : World} (h : RuI n0 gb mb pb Bl Bb B bad vl w0 pre rv rs W) (h' : RuI n0 gb mb pb Bl Bb B bad vl w0 pre' rv' rs' W') (hs : W.heap.size ≤ W'.heap.size) : SparesP (evS n0 Bl Bb) W W' :=
  ⟨hs, fun k hk => by
    rcases hk with hk | rfl | rfl
    · exact (h'.bel.block k hk).trans (h.bel.block k hk).symm
    · exact (show W'.heap[k]? = _ from h'.bl).trans (show W.heap[k]? = _ from h.bl).symm
    · exact (show W'.heap[k]? = _ from h'.bb).trans (show W.heap[k]? = _ from h.bb).symm⟩

theorem RuI.keeps {n0 gb mb pb Bl Bb B : Nat} {bad : Int} {vl : Value} {w0 : World} {pre : List (Nat × Act')} {rv : Value} {rs : List Row} {W W' : World} (h : RuI n0 gb mb pb Bl Bb B bad vl w0 pre rv rs W) (ho : Only (fun j => j = gb ∨ j = mb ∨ rv.ownBlock = some j) W W') : KeepsFrom B W W' :=
  ⟨ho.size, fun k o hB hk hc => (ho.block k (Array.getElem?_eq_some_iff.1 hk).1 (by
    rintro (e | e | e)
    · subst e
      rw [h.g.cells] at hk
      cases hk
      simp [Obj.isCells] at hc
    · have := h.mB; omega
    · obtain ⟨⟨cs, t, h1, _⟩, _⟩ := RowOf.own h.g.rows k e
      rw [hk] at h1
      cases h1
      simp [Obj.isCells] at hc)).trans hk⟩
theorem RuI.step {n0 gb mb pb Bl Bb B : Nat} {bad : Int} {vl : Value} {w0 : World} {pre : List (Nat × Act')} {rv rv' : Value} {rs : List Row} {W W' : World} {x : Nat × Act'} (h : RuI n0 gb mb pb Bl Bb B bad vl w0 pre rv rs W) (hv : mayV bad rs x.2 = 0)
    (hG : GAt W' (n0 + 3) gb mb rv' bad (putR rs x.2)) (ho : Only (fun j => j = gb ∨ j = mb ∨ rv.ownBlock = some j) W W') : RuI n0 gb mb pb Bl Bb B bad vl w0 (pre ++ [x]) rv' (putR rs x.2) W' :=
  ⟨hG, by rw [runT_append, h.run]; simp only [runT]; rw [if_pos hv], by have := putR_len rs x.2; have := h.len; simp; omega, h.box ho h.b4 (by decide) (by decide), h.box ho h.b5 (by decide) (by decide), h.box ho h.b6 (by decide) (by decide), h.box ho h.bp (by decide) (by decide),
    h.g.below h.bel (by have := h.sz; omega) (by omega) ho, h.box ho h.bl (by decide) (by decide), h.box ho h.bb (by decide) (by decide), Nat.le_trans h.sz ho.size, h.mB⟩

def ruFr (bad : Int) (av : Option Addr) (len cap : Nat) (n0 m gb : Nat) (fv : Value) (k : Int) (qb : Nat) (ac : Value) : Act :=
  { tmps := #[.int .u8 bad, .slice av len cap, undef, undef, .pointer (some ⟨n0, 0, none⟩), .pointer (some ⟨n0 + 1, 0, none⟩), .pointer (some ⟨n0 + 1 + 1, 0, none⟩), .pointer (some ⟨m, 0, none⟩), .int .i64 k, .pointer (some ⟨qb, 0, none⟩), undef, .int .u8 bad,
    .pointer (some ⟨gb, 0, none⟩), .int .u8 bad, .slice av len cap, fv, .int .i64 k, ac, undef, undef, undef, undef, undef, undef, undef, undef, undef, undef], defers := [] }
def RuAx (bad : Int) (av : Option Addr) (len cap : Nat) (n0 m gb : Nat) (fv : Value) (x : Nat × Act') (a' : Act) (W : World) : Prop :=
  ∃ qb, a' = ruFr bad av len cap n0 m gb fv (x.1 : Int) qb (actV x.2) ∧ W.heap[qb]? = some (.cells (acs x.2) 33 (0, 0))

def RuX (n0 : Nat) (bad : Int) (w0 : World) (c : Code) (pre : List (Nat × Act')) (W : World) : Prop :=
  c = .ret ∧ ∃ k v, runT bad [] pre = .inr (k, v) ∧ Boxed W n0 74 (.pointer none) ∧ Boxed W (n0 + 1) 3 (.int .i64 (k : Int)) ∧ Boxed W (n0 + 2) 44 (.int .i64 v) ∧ Below n0 w0 W ∧ n0 ≤ W.heap.size

set_option maxRecDepth 100000 in
set_option maxHeartbeats 8000000 in
theorem trun_any (bad : Int) (av : Option Addr) (l : List Ev) (cap : Nat) (w : World) (hlen : l.length ≤ 900) (hev : EvsAt w w.heap.size av l) :
    Calls Try.prog 25 #[.int .u8 bad, .slice av l.length cap] w (RnPost bad l w) := by
  refine (callsIn_wide (n := 9)).1 ?_
  refine callsIn_of_wp_marks Try.func25 rfl trivial ?_ rfl
  simp only [Try.ntmps25, List.size_toArray, List.length_cons, List.length_nil, Nat.reduceAdd, Nat.reduceSub, Array.replicate_succ, Array.replicate_zero, List.push_toArray, List.append_toArray, List.nil_append, List.cons_append]
  gi_wp2_with (first
    | (refine ⟨trivial, ?_⟩; gi_at_call 35; refine (callsIn_wide.2 (newL_any bad _)).mono ?_; rintro e w1 ⟨gb, mb, rfl, hG1, hB1⟩)
    | (refine ⟨trivial, ?_⟩; gi_at_call 21; refine (each_in _ bad av l.length cap _).mono ?_; rintro e w' ⟨rfl, rfl⟩))
  obtain ⟨W0, hW0⟩ : ∃ W0, W0 = ((w.alloc (.cells #[.pointer none] 74)).alloc (.cells #[.int .i64 0] 3)).alloc (.cells #[.int .i64 0] 44) := ⟨_, rfl⟩
  rw [← hW0] at hG1 hB1
  obtain ⟨n0, hn0⟩ : ∃ n0, w.heap.size = n0 := ⟨_, rfl⟩
  have hsz0 : W0.heap.size = n0 + 3 := by rw [hW0]; simp [hn0]
  obtain ⟨m, hm⟩ : ∃ m, w1.heap.size = m := ⟨_, rfl⟩
  obtain ⟨W1, hW1⟩ : ∃ W1, W1 = (((w1.alloc (.cells #[.pointer (some ⟨gb, 0, none⟩)] 74)).alloc (.cells #[.int .u8 bad] 5)).alloc (.cells #[.slice av l.length cap] 22)) := ⟨_, rfl⟩
  have hB00 : Below n0 w W0 := by rw [← hn0, hW0]; exact (((Below.refl _ w).alloc (Nat.le_refl _) _).alloc (by simp) _).alloc (by simp; omega) _
  have hB11 : Below (n0 + 3) W0 w1 := by rw [← hsz0]; exact hB1
  have hszm : n0 + 3 ≤ m := by have := hB1.size; omega
  have hsz1 : W1.heap.size = m + 3 := by rw [hW1]; simp [hm]
  have oA : Only (fun _ => False) w1 W1 := by rw [hW1]; exact (((Only.refl _ w1).alloc _).alloc _).alloc _
  have hmb : mb < m := by rw [← hm]; exact (Array.getElem?_eq_some_iff.1 hG1.map).1
  have k4 : Boxed W0 n0 74 (.pointer none) := by rw [← hn0, hW0]; exact ((Boxed.new w _ _).alloc _).alloc _
  have k5 : Boxed W0 (n0 + 1) 3 (.int .i64 0) := by rw [← hn0, hW0]; have := (Boxed.new (w.alloc (.cells #[.pointer none] 74)) 3 (.int .i64 0)).alloc (.cells #[.int .i64 0] 44); simp only [World.size_alloc] at this; exact this
  have k6 : Boxed W0 (n0 + 2) 44 (.int .i64 0) := by rw [← hn0, hW0]; have := Boxed.new ((w.alloc (.cells #[.pointer none] 74)).alloc (.cells #[.int .i64 0] 3)) 44 (.int .i64 0); simp only [World.size_alloc] at this; exact this
  have up : ∀ {b : Nat} {t : TypeId} {v : Value}, b < n0 + 3 → Boxed W0 b t v → Boxed W1 b t v := fun hb h => oA.obj ((hB11.block _ hb).trans h) id
  have hI : RuI n0 gb mb m (m + 2) (m + 1) (m + 3) bad (.slice av l.length cap) w [] (.slice none 0 0) [] W1 := by
    refine ⟨?_, rfl, by simp, up (by omega) k4, up (by omega) k5, up (by omega) k6, ?_, ?_, ?_, ?_, by omega, by omega⟩
    · rw [← hsz0]; exact hG1.kept oA id id (fun _ _ => id)
    · rw [hW1, ← hm]; exact ((Boxed.new w1 _ _).alloc _).alloc _
    · exact (hB00.trans (hB11.mono (by omega))).trans (oA.below (by omega) (fun _ h => h.elim))
    · rw [hW1, ← hm]; have := Boxed.new ((w1.alloc (.cells #[.pointer (some ⟨gb, 0, none⟩)] 74)).alloc (.cells #[.int .u8 bad] 5)) 22 (.slice av l.length cap); simp only [World.size_alloc] at this; exact this
    · rw [hW1, ← hm]; have := (Boxed.new (w1.alloc (.cells #[.pointer (some ⟨gb, 0, none⟩)] 74)) 5 (.int .u8 bad)).alloc (.cells #[.slice av l.length cap] 22); simp only [World.size_alloc] at this; exact this
  have hev1 : EvsAt W1 n0 av l := by rw [hn0] at hev; exact hev.below hI.bel
  rw [← hW1]
  have hlow := hG1.low
  rw [hsz0] at hlow
  refine wpIn_rangeFunc_ownH rfl (by omega) (gf := 31) (lb := #[.pointer (some ⟨m + 2, 0, none⟩), .pointer (some ⟨m + 1, 0, none⟩)]) (by rw [← hm]; rfl) trivial (enters_of Try.func31 (by kernel_rfl) rfl)
    (each_stopsV (fun v => ActWf v.2) 8 (by omega) (m + 2) (m + 1) n0 bad av l cap (by omega) (fun j x a hx ho => oneO_wf (hev1.wf x (List.mem_of_getElem? hx)).1 ho) W1 (by omega) hev1 hI.bl hI.bb) SparesP.trans (sparesP_b (by rintro k (h | h | h) <;> omega)) (Below.refl _ _) (fun _ => rfl)
    (fun (pre : List WA) W => ∃ rv rs, RuI n0 gb mb m (m + 2) (m + 1) (m + 3) bad (.slice av l.length cap) w (wv pre) rv rs W) (fun c (pre : List WA) W => RuX n0 bad w c (wv pre) W)
    (fun pre W W' row ⟨rv, rs, h⟩ hg hr => ⟨rv, rs, h.nonc (by omega) hg (fun r e => by obtain ⟨h1, h2⟩ := hr r e; exact ⟨by omega, h2⟩)⟩)
    (fun c pre W W' row ⟨h1, k, v, h2, h3, h4, h5, h6, h7⟩ hg hr => ⟨h1, k, v, h2, h3.kept hg (nonc_ne hr h3), h4.kept hg (nonc_ne hr h4), h5.kept hg (nonc_ne hr h5), h6.grown hg h7 (fun r e => by have := (hr r e).1; omega), Nat.le_trans h7 hg.size⟩)
    ⟨_, _, hI⟩ (fun (x : WA) => RuAx bad av l.length cap n0 m gb (.func (.func 31) #[] #[.pointer (some ⟨m + 2, 0, none⟩), .pointer (some ⟨m + 1, 0, none⟩)]) x.1)
    (fun (x : WA) a' _ W W' row ⟨qb, h1, h2⟩ hg hr => ⟨qb, h1, (hg.block qb (Array.getElem?_eq_some_iff.1 h2).1 (nonc_ne hr h2)).trans h2⟩) ?assign ?body ?done ?stop
  case assign =>
    intro y pre x W K hI' hK
    obtain ⟨⟨xk, ak, ac, ae, aq, ag, ay, ao⟩, hxw⟩ := x
    obtain ⟨rv, rs, h⟩ := hI'
    have HK := Lib.hid hK
    clear hK
    unfold encA actV
    gi_wp2
    have hg := World.grownBy_alloc W (.cells #[.int .u8 ak, .int .i64 ac, .int .i64 ae, .int .i64 aq, .int .i64 ag, .bool ay, .int .u8 ao] 33) none
    have h' := h.nonc (by omega) hg (fun _ e => by cases e)
    refine HK.out _ _ ((KeepsOthers.alloc W _).from _) (h.spares h' (by simp)) ⟨_, _, h'⟩ ⟨W.heap.size, ?_, heap_alloc_new _ _⟩
    rw [← hn0, ← hm]
    rfl
  case body =>
    intro y pre x a' W hy hl hI' hA hlt
    obtain ⟨rv, rs, h⟩ := hI'
    obtain ⟨qb, rfl, hqb⟩ := hA
    obtain ⟨⟨xk, ak, ac, ae, aq, ag, ay, ao⟩, hxw⟩ := x
    have cb := h.bp.cell
    have q0 : W.cell? ⟨qb, 0, none⟩ = some (.int .u8 ak) := by rw [cells7_get hqb]; rfl
    have q1 : W.cell? ⟨qb, 1, none⟩ = some (.int .i64 ac) := by rw [cells7_get hqb]; rfl
    have q2 : W.cell? ⟨qb, 2, none⟩ = some (.int .i64 ae) := by rw [cells7_get hqb]; rfl
    have q3 : W.cell? ⟨qb, 3, none⟩ = some (.int .i64 aq) := by rw [cells7_get hqb]; rfl
    have q4 : W.cell? ⟨qb, 4, none⟩ = some (.int .i64 ag) := by rw [cells7_get hqb]; rfl
    have q5 : W.cell? ⟨qb, 5, none⟩ = some (.bool ay) := by rw [cells7_get hqb]; rfl
    have q6 : W.cell? ⟨qb, 6, none⟩ = some (.int .u8 ao) := by rw [cells7_get hqb]; rfl
    have hpl : rs.length < 1000 := by have := h.len; simp at this; omega
    have hsz := h.sz
    have hG := h.g
    obtain ⟨v, hv⟩ : ∃ v, mayV bad rs ⟨ak, ac, ae, aq, ag, ay, ao⟩ = v := ⟨_, rfl⟩
    have HV := Lib.hid hv
    have HQ := Lib.hid hqb
    clear hqb
    unfold ruFr actV
    dsimp only at hxw ⊢
    by_cases hz : v = 0
    · subst hz
      have HP := Lib.hid (show applyR bad rs ⟨ak, ac, ae, aq, ag, ay, ao⟩ = putR rs ⟨ak, ac, ae, aq, ag, ay, ao⟩ by rw [applyR, if_pos hv])
      clear hv
      gi_wp2_with (refine ⟨trivial, ?_⟩; gi_at_call 36; refine (CallsIn.inRound y (callsIn_wide.2 (apply_is 0 (n0 + 3) gb mb rv bad rs ⟨ak, ac, ae, aq, ag, ay, ao⟩ HV.out _ hG hsz hpl hxw))).mono ?_; rintro r' wA ⟨rfl, ⟨rv', hGA⟩, hoA⟩)
      rw [HP.out] at hGA
      have h' := h.step (x := (xk, ⟨ak, ac, ae, aq, ag, ay, ao⟩)) HV.out hGA hoA
      exact ⟨by rw [hsz1]; exact h.keeps hoA, h.spares h' hoA.size, rv', _, by rw [wv, List.map_append]; exact h'⟩
    · have hne : (v != 0) = true := by simpa using hz
      clear hv
      gi_wp2_with (refine ⟨trivial, ?_⟩; gi_at_call 36; refine (CallsIn.inRound y (callsIn_wide.2 (apply_is v (n0 + 3) gb mb rv bad rs ⟨ak, ac, ae, aq, ag, ay, ao⟩ HV.out _ hG hsz hpl hxw))).mono ?_; rintro r' wA ⟨rfl, _, hoA⟩
                   have k4 := h.box hoA h.b4 (by decide) (by decide)
                   have k5 := h.box hoA h.b5 (by decide) (by decide)
                   have k6 := h.box hoA h.b6 (by decide) (by decide)
                   have k4c := k4.cell
                   have k4f := k4.frozen
                   have k5c := k5.cell
                   have k5f := k5.frozen
                   have k6c := k6.cell
                   have k6f := k6.frozen)
      have kf : KeepsFrom W1.heap.size W (((wA.setCell ⟨n0, 0, none⟩ (.pointer none)).setCell ⟨n0 + 1, 0, none⟩ (.int .i64 (xk : Int))).setCell ⟨n0 + 1 + 1, 0, none⟩ (.int .i64 v)) :=
        ((((by rw [hsz1]; exact h.keeps hoA : KeepsFrom W1.heap.size W wA).trans ((KeepsOthers.setCell wA ⟨n0, 0, none⟩ (.pointer none)).from _)).trans ((KeepsOthers.setCell _ ⟨n0 + 1, 0, none⟩ (.int .i64 (xk : Int))).from _)).trans ((KeepsOthers.setCell _ ⟨n0 + 1 + 1, 0, none⟩ (.int .i64 v)).from _))
      have hbA := h.g.below h.bel (by omega) (by omega) hoA
      refine ⟨kf, rfl, xk, v, ?_, ((k4.set _).other (by omega) _).other (by omega) _, (((k5.other (by omega) _).set _).other (by omega) _), (((k6.other (by omega) _).other (by omega) _).set _), ?_, ?_⟩
      · rw [wv, List.map_append, runT_append, h.run]
        simp only [runT, List.map_cons, List.map_nil]
        rw [if_neg (by rw [HV.out]; exact hz), HV.out]
      · exact ((hbA.setCell (p := ⟨n0, 0, none⟩) (Nat.le_refl _) _).setCell (p := ⟨n0 + 1, 0, none⟩) (show n0 ≤ n0 + 1 by omega) _).setCell (p := ⟨n0 + 1 + 1, 0, none⟩) (show n0 ≤ n0 + 1 + 1 by omega) _
      · have := hoA.size
        simp [World.setCell]
        omega
  case done =>
    intro D ys W hD hys hI' hK
    obtain ⟨rv, rs, h⟩ := hI'
    have hrun := h.run
    rw [show wv ys = actsTo bad l l.length from hys] at hrun
    have HRUN := Lib.hid hrun
    have hDg : gb < m := by rw [← hm]; exact (Array.getElem?_eq_some_iff.1 hG1.cells).1
    have c4 := h.b4.cell
    have f4 := h.b4.frozen
    have c5 := h.b5.cell
    have f5 := h.b5.frozen
    have c6 := h.b6.cell
    have f6 := h.b6.frozen
    have cb := h.bp.cell
    have hG := h.g
    have hbel := h.bel
    have hsz := h.sz
    have k4 := h.b4
    have k5 := h.b5
    have k6 := h.b6
    clear h hrun hys
    rw [hn0, hm]
    gi_wp2
    have o3 : Only (fun j => j = n0 ∨ j = n0 + 1 ∨ j = n0 + 1 + 1) W (((W.setCell ⟨n0, 0, none⟩ (.pointer (some ⟨gb, 0, none⟩))).setCell ⟨n0 + 1, 0, none⟩ (.int .i64 (l.length : Int))).setCell ⟨n0 + 1 + 1, 0, none⟩ (.int .i64 0)) :=
      (((Only.refl _ W).setCell (p := ⟨n0, 0, none⟩) (.inl rfl) _).setCell (p := ⟨n0 + 1, 0, none⟩) (.inr (.inl rfl)) _).setCell (p := ⟨n0 + 1 + 1, 0, none⟩) (.inr (.inr rfl)) _
    have k4' := (((k4.set (.pointer (some ⟨gb, 0, none⟩))).other (B' := n0 + 1) (by omega) (.int .i64 (l.length : Int))).other (B' := n0 + 1 + 1) (by omega) (.int .i64 0))
    have k5' := (((k5.other (B' := n0) (by omega) (.pointer (some ⟨gb, 0, none⟩))).set (.int .i64 (l.length : Int))).other (B' := n0 + 1 + 1) (by omega) (.int .i64 0))
    have k6' := (((k6.other (B' := n0) (by omega) (.pointer (some ⟨gb, 0, none⟩))).other (B' := n0 + 1) (by omega) (.int .i64 (l.length : Int))).set (.int .i64 0))
    have hG3 := hG.kept o3 (by rintro (e | e | e) <;> omega) (by rintro (e | e | e) <;> omega) (fun k hk => by have := (hG.rows.lt k hk).1; rintro (e | e | e) <;> omega)
    have hb3 := hbel.trans (o3.below (B := n0) (by omega) (by rintro k (e | e | e) <;> omega))
    have hs3 := o3.size
    have hK3 := ((KeepsOthers.setCell W ⟨n0, 0, none⟩ (.pointer (some ⟨gb, 0, none⟩))).trans ((KeepsOthers.setCell _ ⟨n0 + 1, 0, none⟩ (.int .i64 (l.length : Int))).trans (KeepsOthers.setCell _ ⟨n0 + 1 + 1, 0, none⟩ (.int .i64 0)))).same D _ hK rfl
    generalize (((W.setCell ⟨n0, 0, none⟩ (.pointer (some ⟨gb, 0, none⟩))).setCell ⟨n0 + 1, 0, none⟩ (.int .i64 (l.length : Int))).setCell ⟨n0 + 1 + 1, 0, none⟩ (.int .i64 0)) = W3 at *
    refine ⟨by simp, .inl ⟨_, _, rfl, run_takeDeferred hK3, ?_⟩⟩
    have hgD := grownBy_putObj' W3 D (.deferred none)
    have hrD : ∀ r, some D = some r → m ≤ r ∧ ∃ o : Obj, W3.heap[r]? = some o ∧ o.isCells = false := fun r e => by cases e; exact ⟨by omega, _, hK3, rfl⟩
    have c4' := (k4'.kept hgD (nonc_ne hrD k4')).cell
    have c5' := (k5'.kept hgD (nonc_ne hrD k5')).cell
    have c6' := (k6'.kept hgD (nonc_ne hrD k6')).cell
    have hG4 : GAt (W3.putObj D (.deferred none)) (n0 + 3) gb mb rv bad rs := ⟨(hgD.block gb (Array.getElem?_eq_some_iff.1 hG3.cells).1 (nonc_ne hrD hG3.cells)).trans hG3.cells, owns_nonc hG3.rows hgD hrD, (hgD.block mb (Array.getElem?_eq_some_iff.1 hG3.map).1 (fun e => by cases e; omega)).trans hG3.map, hG3.low, hG3.nodup, hG3.ok, hG3.few⟩
    refine ⟨.tuple #[.pointer (some ⟨gb, 0, none⟩), .int .i64 (l.length : Int), .int .i64 0], ?_, ?_⟩
    · simp [results, Try.results25, go_sem, c4', c5', c6']
    · exact .inl ⟨gb, mb, rv, rs, HRUN.out, rfl, by rw [hn0]; exact hG4, by rw [hn0]; exact hb3.grown hgD (by omega) (fun r e => by have := (hrD r e).1; omega)⟩
  case stop =>
    intro D c pre W hD hpre hX hK
    obtain ⟨rfl, k, v, h2, h3, h4, h5, h6, h7⟩ := hX
    have hf := runT_prefix hpre h2
    gi_wp2
    refine ⟨by simp, .inl ⟨_, _, rfl, run_takeDeferred hK, ?_⟩⟩
    have hgD := grownBy_putObj' W D (.deferred none)
    have hrD : ∀ r, some D = some r → m ≤ r ∧ ∃ o : Obj, W.heap[r]? = some o ∧ o.isCells = false := fun r e => by cases e; exact ⟨by omega, _, hK, rfl⟩
    have c4' := (h3.kept hgD (nonc_ne hrD h3)).cell
    have c5' := (h4.kept hgD (nonc_ne hrD h4)).cell
    have c6' := (h5.kept hgD (nonc_ne hrD h5)).cell
    refine ⟨.tuple #[.pointer none, .int .i64 (k : Int), .int .i64 v], ?_, ?_⟩
    · simp [results, Try.results25, go_sem, c4', c5', c6', hn0]
    · exact .inr ⟨k, v, hf, rfl, by rw [hn0]; exact h6.grown hgD (by omega) (fun r e => by have := (hrD r e).1; omega)⟩
end Go.Proofs.Ytkjfagchololbaa
