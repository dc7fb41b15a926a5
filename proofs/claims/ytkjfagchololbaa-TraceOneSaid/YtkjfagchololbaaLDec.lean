/- The walk of the ledger's mayDecide. -/
import Derived.Test.YtkjfagchololbaaLHon
import Derived.Test.YtkjfagchololbaaOnly
import Derived.RangeFuncCalls
namespace Go.Proofs.Ytkjfagchololbaa
open Go.RowKit Go.Shelf

theorem grownBy_drewN (w : World) (q : Nat) (row : Option Nat) : w.grownBy (w.drewN q) row := ⟨rfl, rfl, rfl, Nat.le_refl _, fun _ _ _ => rfl⟩

attribute [local go_sem] Oper.semAt_some

theorem honest_in (n gb b : Nat) (w : World) :
    CallsIn Fence.wide n Try.prog 59 #[.pointer (some ⟨gb, 0, none⟩), .pointer (some ⟨b, 0, none⟩)] w fun e w' =>
      e = .returned (.func (.func 65) #[] #[.pointer (some ⟨w.heap.size + 1, 0, none⟩), .pointer (some ⟨w.heap.size, 0, none⟩)]) ∧ w' = (w.alloc (.cells #[.pointer (some ⟨gb, 0, none⟩)] 74)).alloc (.cells #[.pointer (some ⟨b, 0, none⟩)] 102) := by
  refine callsIn_of_wp Try.func59 rfl trivial ?_ rfl
  simp only [Try.ntmps59, List.size_toArray, List.length_cons, List.length_nil, Nat.reduceAdd, Nat.reduceSub, Array.replicate_succ, Array.replicate_zero, List.push_toArray, List.append_toArray, List.nil_append, List.cons_append]
  gi_wp2
  go_ret
  exact ⟨rfl, rfl⟩

theorem honest_stops (n : Nat) (hn : 1 ≤ n) (Br Bg rb gb N : Nat) (orgs bad : Int) (w : World) (hBr : Br < N) (hBg : Bg < N) (hrb : rb < N) (hgb : gb < N) (hN : N ≤ w.heap.size)
    (r0 : w.cell? ⟨Br, 0, none⟩ = some (.pointer (some ⟨rb, 0, none⟩))) (g0 : w.cell? ⟨Bg, 0, none⟩ = some (.pointer (some ⟨gb, 0, none⟩)))
    (r4 : w.cell? ⟨rb, 4, none⟩ = some (.int .u8 orgs)) (gc : w.cell? ⟨gb, 0, none⟩ = some (.int .u8 bad)) :
    SeqStopsK Fence.wide n Try.prog 65 #[.pointer (some ⟨Br, 0, none⟩), .pointer (some ⟨Bg, 0, none⟩)] (fun v : Fin 8 => #[Value.int .i64 ((v.val : Nat) : Int)]) (SparesAll N) (fun ys => ys = honB orgs bad 8) (fun pre => pre <+: honB orgs bad 8) 8 w := fun l J Jx W hB hJ _ hY h0 =>
  honest1_in n hn l Br Bg rb gb N orgs bad J Jx hBr hBg hrb hgb (fun pre W' h => hJ pre W' _ none h (grownBy_drewN W' 1 none) (fun _ e => by cases e)) hY W
    ((hB.cell (p := ⟨Br, 0, none⟩) (by show Br < _; omega)).trans r0) ((hB.cell (p := ⟨Bg, 0, none⟩) (by show Bg < _; omega)).trans g0)
    ((hB.cell (p := ⟨rb, 4, none⟩) (by show rb < _; omega)).trans r4) ((hB.cell (p := ⟨gb, 0, none⟩) (by show gb < _; omega)).trans gc) h0

theorem SparesAll.trans {N : Nat} {A B C : World} (h : SparesAll N A B) (k : SparesAll N B C) : SparesAll N A C :=
  ⟨Nat.le_trans h.size k.size, fun i hi => (k.block i hi).trans (h.block i hi)⟩
theorem sparesAll_b {N : Nat} {w : World} (hn : N ≤ w.heap.size) (W : World) (l : Nat) (o o' : Obj) (hl : w.heap.size ≤ l) (_ : W.heap[l]? = some o) (_ : o.isCells = false) (_ : o.isWalk = false) : SparesAll N W (W.putObj l o') :=
  ⟨by simp, fun k hk => World.putObj_heap_other (by omega)⟩

def decB (bad : Int) (r : Row) (yes : Bool) : Bool := !(r.decided || (yes && !r.begun)) && (!yes || (honB r.orgs bad 8).all fun k => inB r.yes ((k.val : Nat) : Int))

def AllYes (yes : Int) (pre : List (Fin 8)) : Prop := ∀ k ∈ pre, inB yes ((k.val : Nat) : Int) = true
theorem AllYes.snoc {yes : Int} {pre : List (Fin 8)} (h : AllYes yes pre) {x : Fin 8} (hx : inB yes ((x.val : Nat) : Int) = true) : AllYes yes (pre ++ [x]) := fun k hk => by
  rcases List.mem_append.1 hk with hk | hk
  · exact h k hk
  · rw [List.mem_singleton.1 hk]; exact hx
def DecX (yes : Int) (w : World) (c : Code) (pre : List (Fin 8)) (W : World) : Prop :=
  c = .ret ∧ (∃ k ∈ pre, inB yes ((k.val : Nat) : Int) = false) ∧ Boxed W (w.heap.size + 2) 4 (.bool false) ∧ Below w.heap.size w W
theorem decX_own (yes : Int) (w : World) {B : Nat} (hB : w.heap.size + 5 ≤ B) (c : Code) : OwnFrom B (DecX yes w c) := fun pre W W' row h hg hr =>
  ⟨h.1, h.2.1, h.2.2.1.kept hg (fun e => by have := (hr _ e.symm).1; omega), h.2.2.2.grown hg h.2.2.2.size (fun k e => by have := (hr k e).1; omega)⟩

theorem results_cell1 {fn : Func} {p : Tmp} {ty : TypeId} (h : fn.results = #[.cell p ty]) (tmps : Array Value) (P : Program) (w : World) :
    (results fn tmps).run P w = ((asAddr (tmps.getD p undef)).run P w).andThen fun a w₁ => (loadVar ty a).run P w₁ := by
  simp only [results, h]
  simp [Sem.run_bind, Result.andThen]

set_option maxRecDepth 100000 in
set_option maxHeartbeats 4000000 in
theorem mayDecide_any (gb b : Nat) (bad : Int) (r : Row) (a : Act') (w : World) (h : RowAt w b 0 r) (hg : w.cell? ⟨gb, 0, none⟩ = some (.int .u8 bad)) :
    Calls Try.prog 51 #[.pointer (some ⟨gb, 0, none⟩), .pointer (some ⟨b, 0, none⟩), actV a] w fun e w' => e = .returned (.bool (decB bad r a.yes)) ∧ Below w.heap.size w w' := by
  have hlt := h.lt
  have hglt : gb < w.heap.size := World.block_lt_of_cell? w _ hg
  obtain ⟨c3, c4, c5, c6, c7, c8, c9⟩ := h
  simp only [Nat.zero_add] at *
  obtain ⟨rc, re, rq, begun, orgs, voted, yes, decided, commit, learnt⟩ := r
  obtain ⟨kind, c, e, q, org, ayes, aorgs⟩ := a
  dsimp only at *
  unfold actV
  dsimp only
  have oX := (((Only.refl (fun _ : Nat => False) w).alloc (.cells #[.pointer (some ⟨b, 0, none⟩)] 102)).alloc (.cells #[.int .u8 kind, .int .i64 c, .int .i64 e, .int .i64 q, .int .i64 org, .bool ayes, .int .u8 aorgs] 33)).alloc (.cells #[.bool false] 4)
  have d3 := oX.cell c3 id
  have d4 := oX.cell c4 id
  have d6 := oX.cell c6 id
  have d7 := oX.cell c7 id
  have dg := oX.cell hg id
  have k4 := c4
  have k6 := c6
  clear c3 c4 c5 c6 c7 c8 c9
  refine (callsIn_wide (n := 9)).1 ?_
  refine callsIn_of_wp_marks Try.func51 rfl trivial ?_ rfl
  simp only [Try.ntmps51, List.size_toArray, List.length_cons, List.length_nil, Nat.reduceAdd, Nat.reduceSub, Array.replicate_succ, Array.replicate_zero, List.push_toArray, List.append_toArray, List.nil_append, List.cons_append]
  have hB0 : Below w.heap.size w (((w.alloc (.cells #[.pointer (some ⟨b, 0, none⟩)] 102)).alloc (.cells #[.int .u8 kind, .int .i64 c, .int .i64 e, .int .i64 q, .int .i64 org, .bool ayes, .int .u8 aorgs] 33)).alloc (.cells #[.bool false] 4)) := (((Below.refl _ w).alloc (Nat.le_refl _) _).alloc (by simp) _).alloc (by simp; omega) _
  cases decided
  · by_cases hyb : ayes = true ∧ begun = false
    · obtain ⟨rfl, rfl⟩ := hyb
      gi_wp2
      refine ⟨.bool false, ?_, rfl, hB0⟩
      rw [results_cell1 rfl]
      simp [go_sem]
    · have hyn : ayes = false ∨ begun = true := by cases ayes <;> cases begun <;> simp_all
      have hlen : (honB orgs bad 8).length ≤ 8 := honB_len _ _ _
      have hdec : decB bad ⟨rc, re, rq, begun, orgs, voted, yes, false, commit, learnt⟩ ayes = (!ayes || (honB orgs bad 8).all fun k => inB yes ((k.val : Nat) : Int)) := by
        rcases hyn with h | h <;> simp [decB, h]
      have HD := Lib.hid hdec
      have HL := Lib.hid hlen
      clear hdec hlen
      obtain ⟨W1, hW1⟩ : ∃ W1, W1 = (((((w.alloc (.cells #[.pointer (some ⟨b, 0, none⟩)] 102)).alloc (.cells #[.int .u8 kind, .int .i64 c, .int .i64 e, .int .i64 q, .int .i64 org, .bool ayes, .int .u8 aorgs] 33)).alloc (.cells #[.bool false] 4)).alloc (.cells #[.pointer (some ⟨gb, 0, none⟩)] 74)).alloc (.cells #[.pointer (some ⟨b, 0, none⟩)] 102)) := ⟨_, rfl⟩
      have hsz : W1.heap.size = w.heap.size + 5 := by rw [hW1]; simp
      have oY := (oX.alloc (.cells #[.pointer (some ⟨gb, 0, none⟩)] 74)).alloc (.cells #[.pointer (some ⟨b, 0, none⟩)] 102)
      have bN : Boxed W1 (w.heap.size + 4) 102 (.pointer (some ⟨b, 0, none⟩)) := by have := Boxed.new ((((w.alloc (.cells #[.pointer (some ⟨b, 0, none⟩)] 102)).alloc (.cells #[.int .u8 kind, .int .i64 c, .int .i64 e, .int .i64 q, .int .i64 org, .bool ayes, .int .u8 aorgs] 33)).alloc (.cells #[.bool false] 4)).alloc (.cells #[.pointer (some ⟨gb, 0, none⟩)] 74)) 102 (.pointer (some ⟨b, 0, none⟩)); simp only [World.size_alloc] at this; rw [hW1]; exact this
      have bG : Boxed W1 (w.heap.size + 3) 74 (.pointer (some ⟨gb, 0, none⟩)) := by have := Boxed.new (((w.alloc (.cells #[.pointer (some ⟨b, 0, none⟩)] 102)).alloc (.cells #[.int .u8 kind, .int .i64 c, .int .i64 e, .int .i64 q, .int .i64 org, .bool ayes, .int .u8 aorgs] 33)).alloc (.cells #[.bool false] 4)) 74 (.pointer (some ⟨gb, 0, none⟩)); simp only [World.size_alloc] at this; rw [hW1]; exact this.alloc _
      have bO : Boxed W1 (w.heap.size + 2) 4 (.bool false) := by have := Boxed.new ((w.alloc (.cells #[.pointer (some ⟨b, 0, none⟩)] 102)).alloc (.cells #[.int .u8 kind, .int .i64 c, .int .i64 e, .int .i64 q, .int .i64 org, .bool ayes, .int .u8 aorgs] 33)) 4 (.bool false); simp only [World.size_alloc] at this; rw [hW1]; exact (this.alloc _).alloc _
      have bR : Boxed W1 w.heap.size 102 (.pointer (some ⟨b, 0, none⟩)) := by rw [hW1]; exact ((((Boxed.new w 102 (.pointer (some ⟨b, 0, none⟩))).alloc _).alloc _).alloc _).alloc _
      have hA : W1.heap[w.heap.size + 1]? = some (.cells #[.int .u8 kind, .int .i64 c, .int .i64 e, .int .i64 q, .int .i64 org, .bool ayes, .int .u8 aorgs] 33 (0, 0)) := by
        rw [hW1, heap_alloc_old _ _ _ (by simp), heap_alloc_old _ _ _ (by simp), heap_alloc_old _ _ _ (by simp)]
        exact heap_at _ _ _ (by simp)
      have d5 : W1.cell? ⟨w.heap.size + 1, 5, none⟩ = some (.bool ayes) := by simp [World.cell?, hA]
      have f4 : W1.cell? ⟨b, 4, none⟩ = some (.int .u8 orgs) := by rw [hW1]; exact oY.cell k4 id
      have f6 : W1.cell? ⟨b, 6, none⟩ = some (.int .u8 yes) := by rw [hW1]; exact oY.cell k6 id
      have fg : W1.cell? ⟨gb, 0, none⟩ = some (.int .u8 bad) := by rw [hW1]; exact oY.cell hg id
      have hB1 : Below w.heap.size w W1 := by rw [hW1]; exact (hB0.alloc (by simp; omega) _).alloc (by simp; omega) _
      cases ayes
      · gi_wp2_with (refine ⟨trivial, ?_⟩; gi_at_call 59; refine (honest_in _ gb b _).mono ?_; rintro e w' ⟨rfl, rfl⟩)
        rw [← hW1]
        clear oX oY hB0 d3 d4 d6 d7 dg hA hW1
        refine wpIn_rangeFunc_ownG rfl (by omega) (gf := 65) (lb := #[.pointer (some ⟨w.heap.size + 4, 0, none⟩), .pointer (some ⟨w.heap.size + 3, 0, none⟩)]) rfl trivial (enters_of Try.func65 (by kernel_rfl) rfl)
          (honest_stops 8 (by omega) (w.heap.size + 4) (w.heap.size + 3) b gb (w.heap.size + 5) orgs bad W1 (by omega) (by omega) (by omega) (by omega) (by omega) bN.cell bG.cell f4 fg) SparesAll.trans (sparesAll_b (by omega)) (Below.refl _ _) (fun _ => rfl)
          (fun _ W => Below (w.heap.size + 5) W1 W) (fun _ _ _ => False)
          (ownFrom_below (by omega) (by omega)) (fun _ _ _ _ _ hs _ _ => hs) (Below.refl _ _) ?a1 ?assign ?body ?done ?stop
        case assign =>
          intro l x W K hK
          gi_wp2
          exact hK
        case body =>
          intro l pre x W hB hl
          have x5 := (hB.cell (p := ⟨w.heap.size + 1, 5, none⟩) (by show w.heap.size + 1 < w.heap.size + 5; omega)).trans d5
          gi_wp2
          refine ⟨trivial, ?_⟩
          gi_wp2
          exact ⟨KeepsFrom.refl _ _, ⟨Nat.le_refl _, fun _ _ => rfl⟩, hB⟩
        case done =>
          intro D ys W hD hys hB hK
          have bW : Boxed W (w.heap.size + 2) 4 (.bool false) := (hB.block _ (by omega)).trans bO
          have hc := bW.cell
          have hf := bW.frozen
          clear hys
          gi_wp2
          have b2 := bW.set (.bool true)
          have hK2 := (KeepsOthers.setCell W ⟨w.heap.size + 2, 0, none⟩ (.bool true)).same D _ hK rfl
          refine ⟨by simp, .inl ⟨_, _, rfl, run_takeDeferred hK2, ?_⟩⟩
          have b3 : Boxed ((W.setCell ⟨w.heap.size + 2, 0, none⟩ (.bool true)).putObj D (.deferred none)) (w.heap.size + 2) 4 (.bool true) := b2.kept (grownBy_putObj' _ D _) (by intro e; cases e; omega)
          have hc3 := b3.cell
          refine ⟨.bool true, ?_, by rw [HD.out]; rfl, ?_⟩
          · rw [results_cell1 rfl]
            simp [go_sem, hc3]
          · exact ((hB1.trans (hB.mono (by omega))).setCell (p := ⟨w.heap.size + 2, 0, none⟩) (by show w.heap.size ≤ w.heap.size + 2; omega) _).grown (grownBy_putObj' _ D _) (by have := hB1.size; have := hB.size; simp [World.setCell]; omega) (fun k e => by cases e; omega)
        case stop =>
          intro D c pre W _ _ h _
          exact h.elim
      · have hbeg : begun = true := by rcases hyn with h | h <;> simp_all
        subst hbeg
        gi_wp2_with (refine ⟨trivial, ?_⟩; gi_at_call 59; refine (honest_in _ gb b _).mono ?_; rintro e w' ⟨rfl, rfl⟩)
        rw [← hW1]
        clear oX oY hB0 d3 d4 d6 d7 dg hA hW1
        refine wpIn_rangeFunc_ownG rfl (by omega) (gf := 65) (lb := #[.pointer (some ⟨w.heap.size + 4, 0, none⟩), .pointer (some ⟨w.heap.size + 3, 0, none⟩)]) rfl trivial (enters_of Try.func65 (by kernel_rfl) rfl)
          (honest_stops 8 (by omega) (w.heap.size + 4) (w.heap.size + 3) b gb (w.heap.size + 5) orgs bad W1 (by omega) (by omega) (by omega) (by omega) (by omega) bN.cell bG.cell f4 fg) SparesAll.trans (sparesAll_b (by omega)) (Below.refl _ _) (fun _ => rfl)
          (fun pre W => AllYes yes pre ∧ Below (w.heap.size + 5) W1 W) (fun c pre W => DecX yes w c pre W)
          (OwnFrom.and (fun _ _ _ _ h _ _ => h) (ownFrom_below (by omega) (by omega))) (fun c => decX_own yes w (by omega) c) ⟨fun _ h => (by cases h), Below.refl _ _⟩ ?b1 ?bassign ?bbody ?bdone ?bstop
        case bassign =>
          intro l x W K hK
          gi_wp2
          exact hK
        case bbody =>
          intro l pre x W hI hl
          obtain ⟨hall, hB⟩ := hI
          have x5 := (hB.cell (p := ⟨w.heap.size + 1, 5, none⟩) (by show w.heap.size + 1 < w.heap.size + 5; omega)).trans d5
          have xr := (hB.cell (p := ⟨w.heap.size, 0, none⟩) (by show w.heap.size < w.heap.size + 5; omega)).trans bR.cell
          have x6 := (hB.cell (p := ⟨b, 6, none⟩) (by show b < w.heap.size + 5; omega)).trans f6
          have bW : Boxed W (w.heap.size + 2) 4 (.bool false) := (hB.block _ (by omega)).trans bO
          have hc := bW.cell
          have hf := bW.frozen
          have hx := x.isLt
          cases hv : inB yes ((x.val : Nat) : Int)
          · have HV := Lib.hid hv
            have HA := Lib.hid hall
            clear hv hall
            gi_wp2_with (refine ⟨trivial, ?_⟩; gi_at_call 58; refine (CallsIn.inRound l (callsIn_wide.2 (in_is yes ((x.val : Nat) : Int) false HV.out _ (by omega) (by omega)))).mono ?_; rintro e w' ⟨rfl, rfl⟩)
            exact ⟨(KeepsOthers.setCell W _ _).from _, rfl, ⟨x, by simp, HV.out⟩, bW.set _, (hB1.trans (hB.mono (by omega))).setCell (p := ⟨w.heap.size + 2, 0, none⟩) (by show w.heap.size ≤ w.heap.size + 2; omega) _⟩
          · have HV := Lib.hid hv
            have HA := Lib.hid hall
            clear hv hall
            gi_wp2_with (refine ⟨trivial, ?_⟩; gi_at_call 58; refine (CallsIn.inRound l (callsIn_wide.2 (in_is yes ((x.val : Nat) : Int) true HV.out _ (by omega) (by omega)))).mono ?_; rintro e w' ⟨rfl, rfl⟩)
            exact ⟨KeepsFrom.refl _ _, ⟨Nat.le_refl _, fun _ _ => rfl⟩, HA.out.snoc HV.out, hB⟩
        case bdone =>
          intro D ys W hD hys hI hK
          obtain ⟨hall, hB⟩ := hI
          have bW : Boxed W (w.heap.size + 2) 4 (.bool false) := (hB.block _ (by omega)).trans bO
          have hc := bW.cell
          have hf := bW.frozen
          have HA := Lib.hid (show ((honB orgs bad 8).all fun k => inB yes ((k.val : Nat) : Int)) = true by rw [← hys, List.all_eq_true]; exact hall)
          clear hys hall
          gi_wp2
          have b2 := bW.set (.bool true)
          have hK2 := (KeepsOthers.setCell W ⟨w.heap.size + 2, 0, none⟩ (.bool true)).same D _ hK rfl
          refine ⟨by simp, .inl ⟨_, _, rfl, run_takeDeferred hK2, ?_⟩⟩
          have b3 : Boxed ((W.setCell ⟨w.heap.size + 2, 0, none⟩ (.bool true)).putObj D (.deferred none)) (w.heap.size + 2) 4 (.bool true) := b2.kept (grownBy_putObj' _ D _) (by intro e; cases e; omega)
          have hc3 := b3.cell
          refine ⟨.bool true, ?_, by rw [HD.out, HA.out]; rfl, ?_⟩
          · rw [results_cell1 rfl]
            simp [go_sem, hc3]
          · exact ((hB1.trans (hB.mono (by omega))).setCell (p := ⟨w.heap.size + 2, 0, none⟩) (by show w.heap.size ≤ w.heap.size + 2; omega) _).grown (grownBy_putObj' _ D _) (by have := hB1.size; have := hB.size; simp [World.setCell]; omega) (fun k e => by cases e; omega)
        case bstop =>
          rintro D c pre W hD hpre ⟨rfl, ⟨k, hk, hk2⟩, bX, hBX⟩ hK
          have HA := Lib.hid (show ((honB orgs bad 8).all fun k => inB yes ((k.val : Nat) : Int)) = false by rw [List.all_eq_false]; exact ⟨k, hpre.subset hk, by rw [hk2]; decide⟩)
          clear hk2 hpre
          gi_wp2
          refine ⟨by simp, .inl ⟨_, _, rfl, run_takeDeferred hK, ?_⟩⟩
          have b3 : Boxed (W.putObj D (.deferred none)) (w.heap.size + 2) 4 (.bool false) := bX.kept (grownBy_putObj' _ D _) (by intro e; cases e; omega)
          have hc3 := b3.cell
          refine ⟨.bool false, ?_, by rw [HD.out, HA.out]; rfl, ?_⟩
          · rw [results_cell1 rfl]
            simp [go_sem, hc3]
          · exact hBX.grown (grownBy_putObj' _ D _) hBX.size (fun k e => by cases e; omega)
  · gi_wp2
    refine ⟨.bool false, ?_, rfl, hB0⟩
    rw [results_cell1 rfl]
    simp [go_sem]
end Go.Proofs.Ytkjfagchololbaa
