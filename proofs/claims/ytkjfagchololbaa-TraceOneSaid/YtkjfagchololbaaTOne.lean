/- The walk of the trace's One. -/
import Derived.Test.YtkjfagchololbaaTBeg
import Derived.Test.YtkjfagchololbaaTKin
import Derived.Deep.CutRange
import Derived.Deep.DeepCutAuto
import Derived.Deep.CutBlock
import Derived.Deep.RegionWith
namespace Go.Proofs.Ytkjfagchololbaa
open Go.RowKit

theorem look_tk {w : World} {b p1 p2 : Nat} (h : KinAt w b p1 p2) (k : Int) :
    (Instr.lookup 71 (.map (some b)) (.int .u8 k) true).run Try.prog w = .ok (if k = 2 then .tuple #[kfV p1, .bool true] else if k = 4 then .tuple #[kfV p2, .bool true] else if k = 3 then .tuple #[kf3, .bool true] else .tuple #[.agg #[.nilFunc], .bool false]) w := by
  have hb : w.heap[b]? = some (.map (kes p1 p2) 3) := h.m
  have hk : MapKept.IsKey (.int .u8) (.int .u8 k) := rfl
  have key : ∃ r, Instr.findNow (.int .u8) (.int .u8 k) (kes p1 p2).toList 0 = some r ∧ ((r = none ∧ ¬ k = 2 ∧ ¬ k = 4 ∧ ¬ k = 3) ∨ (∃ i, r = some (i, kfV p1) ∧ k = 2) ∨ (∃ i, r = some (i, kfV p2) ∧ k = 4) ∨ (∃ i, r = some (i, kf3) ∧ k = 3)) := by
    by_cases h1 : k = 2
    · subst h1; exact ⟨_, rfl, .inr (.inl ⟨_, rfl, rfl⟩)⟩
    · by_cases h2 : k = 4
      · subst h2; exact ⟨_, rfl, .inr (.inr (.inl ⟨_, rfl, rfl⟩))⟩
      · by_cases h3 : k = 3
        · subst h3; exact ⟨_, rfl, .inr (.inr (.inr ⟨_, rfl, rfl⟩))⟩
        · refine ⟨none, ?_, .inl ⟨rfl, h1, h2, h3⟩⟩
          simp [kes, Instr.findNow, Instr.sameNow, beq_eq_false_iff_ne.2 h1, beq_eq_false_iff_ne.2 h2, beq_eq_false_iff_ne.2 h3]
  obtain ⟨r, h1, h2⟩ := key
  rcases h2 with ⟨rfl, h2, h3, h4⟩ | ⟨i, rfl, rfl⟩ | ⟨i, rfl, rfl⟩ | ⟨i, rfl, rfl⟩
  · rw [if_neg h2, if_neg h3, if_neg h4]
    simp [Instr.lookup, run_underlying Try.underlying71, MapKept.run_getObj_map hb, MapKept.run_checkKey Try.underlying5 hk, MapKept.run_findKey Try.underlying5 h1, Result.andThen]
  all_goals
    simp [Instr.lookup, run_underlying Try.underlying71, MapKept.run_getObj_map hb, MapKept.run_checkKey Try.underlying5 hk, MapKept.run_findKey Try.underlying5 h1, Result.andThen]

/-- What the map of kinds answers. -/
def kinV (k : Int) (p1 p2 : Nat) : Value := if k = 2 then .func (.func 33) #[] #[.pointer (some ⟨p1, 0, none⟩)] else if k = 4 then .func (.func 33) #[] #[.pointer (some ⟨p2, 0, none⟩)] else if k = 3 then .func (.func 34) #[] #[] else .nilFunc
def kinB (k : Int) : Bool := decide (k = 2) || decide (k = 4) || decide (k = 3)
def KMid (k : Int) (W : World) (v6 v7 : Value) (wx : World) : Prop := ∃ kb p1 p2, v6 = .pointer (some ⟨kb, 0, none⟩) ∧ v7 = .bool (kinB k) ∧ wx.heap[kb]? = some (.cells #[kinV k p1 p2] 69 (0, 0)) ∧ wx.heap[p1]? = some (.cells #[.int .u8 2] 5 (0, 0)) ∧ wx.heap[p2]? = some (.cells #[.int .u8 4] 5 (0, 0)) ∧ Only (fun _ => False) W wx

theorem kin_cases (k : Int) (p1 p2 : Nat) : (∃ f bs, kinV k p1 p2 = .func f #[] bs ∧ kinB k = true) ∨ (kinV k p1 p2 = .nilFunc ∧ kinB k = false) := by
  unfold kinV kinB
  by_cases h2 : k = 2
  · exact .inl ⟨_, _, by rw [if_pos h2], by simp [h2]⟩
  · by_cases h4 : k = 4
    · exact .inl ⟨_, _, by rw [if_neg h2, if_pos h4], by simp [h4]⟩
    · by_cases h3 : k = 3
      · exact .inl ⟨_, _, by rw [if_neg h2, if_neg h4, if_pos h3], by simp [h3]⟩
      · exact .inr ⟨by rw [if_neg h2, if_neg h4, if_neg h3], by simp [h2, h4, h3]⟩
theorem look_kin {w : World} {b p1 p2 : Nat} (h : KinAt w b p1 p2) (k : Int) :
    (Instr.lookup 71 (.map (some b)) (.int .u8 k) true).run Try.prog w = .ok (.tuple #[.agg #[kinV k p1 p2], .bool (kinB k)]) w := by
  rw [look_tk h]
  unfold kinV kinB kfV kf3
  by_cases h2 : k = 2
  · simp [h2]
  · by_cases h4 : k = 4
    · simp [h4]
    · by_cases h3 : k = 3
      · simp [h3]
      · simp [h2, h4, h3]

/-- What the trace's functions make of a record. -/
theorem kf1_any (p : Nat) (k : Int) (x : Ev) (w : World) (hp : w.heap[p]? = some (.cells #[.int .u8 k] 5 (0, 0))) :
    Calls Try.prog 33 #[.int .i64 x.org, .agg #[.int .u8 x.rk, .int .i64 x.rep, .int .i64 x.rc, .int .i64 x.re, .int .i64 x.rq, .bool x.ry, .int .i64 x.ra, x.rm, x.rt, x.rb], .pointer (some ⟨p, 0, none⟩)] w fun e w' => e = .returned (actV ⟨k, x.rc, x.re, x.rq, x.org, x.ry, 0⟩) ∧ Below w.heap.size w w' := by
  have hpl : p < w.heap.size := (Array.getElem?_eq_some_iff.1 hp).1
  have c0 : w.cell? ⟨p, 0, none⟩ = some (.int .u8 k) := by rw [cells7_get hp]; rfl
  clear hp
  obtain ⟨kind, act, org, c, e, q, rk, rep, rc, re, rq, ry, ra, rm, rt, rb, xc, xe, xq, xa, av, mcap, xt, ms⟩ := x
  unfold actV
  dsimp only at *
  go_enter Try.func33, Try.ntmps33
  go_wp2
  refine bodyPost_ret (v := .agg #[.int .u8 k, .int .i64 rc, .int .i64 re, .int .i64 rq, .int .i64 org, .bool ry, .int .u8 0]) (by simp [results, Try.results33, go_sem]) rfl ?_
  exact ⟨rfl, ((Below.refl _ w).alloc (Nat.le_refl _) _).alloc (by simp) _⟩

theorem kf3_any (x : Ev) (w : World) :
    Calls Try.prog 34 #[.int .i64 x.org, .agg #[.int .u8 x.rk, .int .i64 x.rep, .int .i64 x.rc, .int .i64 x.re, .int .i64 x.rq, .bool x.ry, .int .i64 x.ra, x.rm, x.rt, x.rb]] w fun e w' => e = .returned (actV ⟨3, x.rc, x.re, x.rq, 0, x.ry, 0⟩) ∧ Below w.heap.size w w' := by
  obtain ⟨kind, act, org, c, e, q, rk, rep, rc, re, rq, ry, ra, rm, rt, rb, xc, xe, xq, xa, av, mcap, xt, ms⟩ := x
  unfold actV
  dsimp only at *
  go_enter Try.func34, Try.ntmps34
  go_wp2
  refine bodyPost_ret (v := .agg #[.int .u8 3, .int .i64 rc, .int .i64 re, .int .i64 rq, .int .i64 0, .bool ry, .int .u8 0]) (by simp [results, Try.results34, go_sem]) rfl ?_
  exact ⟨rfl, ((Below.refl _ w).alloc (Nat.le_refl _) _).alloc (by simp) _⟩

theorem kmid_a {k : Int} {W wT : World} {b p1 p2 : Nat} {v : Value} {bb : Bool} (hK : KinAt wT b p1 p2) (oW : Only (fun _ => False) W wT) (hv : kinV k p1 p2 = v) (hb : kinB k = bb) :
    KMid k W (.pointer (some ⟨wT.heap.size, 0, none⟩)) (.bool bb) (wT.alloc (.cells #[v] 69)) := by
  subst hv hb
  have o := (Only.refl (fun _ => False) wT).alloc (.cells #[kinV k p1 p2] 69)
  exact ⟨_, p1, p2, rfl, rfl, heap_alloc_new _ _, o.obj hK.x id, o.obj hK.y id, oW.trans o⟩
theorem kmid_b {k : Int} {W wT : World} {b p1 p2 : Nat} {v u : Value} {bb : Bool} (hK : KinAt wT b p1 p2) (hk : wT.heap[W.heap.size]? = some (.cells #[u] 69 (0, 0))) (oW : Only (fun _ => False) W wT) (hv : kinV k p1 p2 = v) (hb : kinB k = bb) :
    KMid k W (.pointer (some ⟨W.heap.size, 0, none⟩)) (.bool bb) (wT.setCell ⟨W.heap.size, 0, none⟩ v) := by
  subst hv hb
  have o := (Only.refl (fun j => j = W.heap.size) wT).setCell (p := ⟨W.heap.size, 0, none⟩) rfl (kinV k p1 p2)
  refine ⟨_, p1, p2, rfl, rfl, setBlk hk, o.obj hK.x (fun e => block_ne hK.x hk (by decide) e), o.obj hK.y (fun e => block_ne hK.y hk (by decide) e), ?_⟩
  exact ((oW.shrink (T := fun j => j = W.heap.size) (fun _ _ h => h.elim)).trans o).shrink (fun j hj e => absurd (e ▸ hj) (Nat.lt_irrefl _))

/-- Behind the switch: the action, and whether there is one. -/
def OneMid (x : Ev) (n : Nat) (w : World) (v5 : Value) (wx : World) : Prop :=
  ∃ (b : Bool) (a : Act'), v5 = .bool b ∧ actOf x = (if b = true then some a else none) ∧ wx.heap[n + 1]? = some (.cells (actCells a) 33 (0, 0)) ∧ Below n w wx ∧ wx.cell? ⟨n, 2, none⟩ = some (.int .i64 x.org)

theorem mid_of {x : Ev} {n : Nat} {w W wT : World} {a a0 : Act'} (hB : Below n w W) (hT : Below W.heap.size W wT) (hn : n ≤ W.heap.size) (hA : wT.heap[n + 1]? = some (.cells (actCells a0) 33 (0, 0))) (h2 : wT.cell? ⟨n, 2, none⟩ = some (.int .i64 x.org)) (ha : actOf x = some a) :
    OneMid x n w (.bool true) (((((((wT.setCell ⟨n + 1, 0, none⟩ (.int .u8 a.kind)).setCell ⟨n + 1, 1, none⟩ (.int .i64 a.c)).setCell ⟨n + 1, 2, none⟩ (.int .i64 a.e)).setCell ⟨n + 1, 3, none⟩ (.int .i64 a.q)).setCell ⟨n + 1, 4, none⟩ (.int .i64 a.org)).setCell ⟨n + 1, 5, none⟩ (.bool a.yes)).setCell ⟨n + 1, 6, none⟩ (.int .u8 a.orgs)) := by
  refine ⟨true, a, rfl, ha, ?_, ?_, ?_⟩
  · have h7 := setBlk (o := 6) (v := .int .u8 a.orgs) (setBlk (o := 5) (v := .bool a.yes) (setBlk (o := 4) (v := .int .i64 a.org) (setBlk (o := 3) (v := .int .i64 a.q) (setBlk (o := 2) (v := .int .i64 a.e) (setBlk (o := 1) (v := .int .i64 a.c) (setBlk (o := 0) (v := .int .u8 a.kind) hA))))))
    rw [h7]
    simp [actCells]
  · iterate 7 (refine Below.setCell ?_ (show n ≤ n + 1 by omega) _)
    exact hB.trans (hT.mono hn)
  · iterate 7 (refine (World.cell?_setCell_other _ _ _ _ (by simp)).trans ?_)
    exact h2

def oneA (bad : Int) (x : Ev) : Act' := (oneO bad x).getD zAct
def OnePost (bad : Int) (x : Ev) (w : World) (e : Ending) (w' : World) : Prop := e = .returned (.tuple #[actV (oneA bad x), .bool (oneO bad x).isSome]) ∧ Below w.heap.size w w'

theorem infoEv (x : Ev) : (Try.prog.info? 43).map (·.size) = some (evC x).size := by
  rw [show (evC x).size = 22 from rfl]; kernel_rfl

set_option maxRecDepth 100000 in
set_option maxHeartbeats 8000000 in
theorem one_any (bad : Int) (x : Ev) (w : World) (hx : EvWf x) (hm : MemAt w w.heap.size x.av x.ms) : Calls Try.prog 10 #[.int .u8 bad, evV x] w (OnePost bad x w) := by
  have hE : ((w.alloc (.cells (evC x) 43)).alloc (.cells #[.int .u8 0, .int .i64 0, .int .i64 0, .int .i64 0, .int .i64 0, .bool false, .int .u8 0] 33)).heap[w.heap.size]? = some (.cells (evC x) 43 (0, 0)) := by
    rw [heap_alloc_old _ _ (by simp)]
    exact heap_at _ _ _ rfl
  have hA : ((w.alloc (.cells (evC x) 43)).alloc (.cells #[.int .u8 0, .int .i64 0, .int .i64 0, .int .i64 0, .int .i64 0, .bool false, .int .u8 0] 33)).heap[w.heap.size + 1]? = some (.cells #[.int .u8 0, .int .i64 0, .int .i64 0, .int .i64 0, .int .i64 0, .bool false, .int .u8 0] 33 (0, 0)) := heap_at _ _ _ (by simp)
  have hB : Below w.heap.size w ((w.alloc (.cells (evC x) 43)).alloc (.cells #[.int .u8 0, .int .i64 0, .int .i64 0, .int .i64 0, .int .i64 0, .bool false, .int .u8 0] 33)) := ((Below.refl _ w).alloc (Nat.le_refl _) _).alloc (by simp) _
  have HX := Lib.hid hx
  have HM := Lib.hid hm
  clear hx hm
  go_enter Try.func10, Try.ntmps10
  go_upto_region 1 with (fail)
  generalize ((w.alloc (.cells (evC x) 43)).alloc (.cells #[.int .u8 0, .int .i64 0, .int .i64 0, .int .i64 0, .int .i64 0, .bool false, .int .u8 0] 33)) = W at *
  obtain ⟨n, hn⟩ : ∃ n, w.heap.size = n := ⟨_, rfl⟩
  rw [hn] at hE hA hB ⊢
  have HN := Lib.hid hn
  clear hn
  have x0 : W.cell? ⟨n, 0, none⟩ = some (.int .u8 x.kind) := by rw [cells7_get hE]; rfl
  go_upto_block 0 with (fail)
  have hfz : ∀ wx : World, wx.heap[n + 1]? = some (.cells #[.int .u8 0, .int .i64 0, .int .i64 0, .int .i64 0, .int .i64 0, .bool false, .int .u8 0] 33 (0, 0)) →
      (∀ j, wx.frozen? ⟨n + 1, j, none⟩ = false) ∧ (wx.cell? ⟨n + 1, 0, none⟩ = some (.int .u8 0) ∧ wx.cell? ⟨n + 1, 1, none⟩ = some (.int .i64 0) ∧ wx.cell? ⟨n + 1, 2, none⟩ = some (.int .i64 0) ∧ wx.cell? ⟨n + 1, 3, none⟩ = some (.int .i64 0)) ∧ wx.cell? ⟨n + 1, 4, none⟩ = some (.int .i64 0) ∧ wx.cell? ⟨n + 1, 5, none⟩ = some (.bool false) ∧ wx.cell? ⟨n + 1, 6, none⟩ = some (.int .u8 0) := by
    intro wx h
    refine ⟨fun j => by simp [World.frozen?, h], ⟨?_, ?_, ?_, ?_⟩, ?_, ?_, ?_⟩ <;> (rw [cells7_get h]; rfl)
  have HF := Lib.hid hfz
  have hEl : n < W.heap.size := (Array.getElem?_eq_some_iff.1 hE).1
  have hAl : n + 1 < W.heap.size := (Array.getElem?_eq_some_iff.1 hA).1
  have x2 : W.cell? ⟨n, 2, none⟩ = some (.int .i64 x.org) := by rw [cells7_get hE]; rfl
  have HX2 := Lib.hid x2
  have HE := Lib.hid hE
  have HA := Lib.hid hA
  have HBW := Lib.hid hB
  clear hE hA hB hfz x2
  have hbg := fun wx => begun_any x wx
  unfold actV at hbg
  dsimp only at hbg
  have HG := Lib.hid hbg
  clear hbg
  go_cut [5] (fun v5 wx => OneMid x n w v5 wx)
  case first =>
    by_cases hk1 : x.kind = 1
    · have HK := Lib.hid hk1
      have h1 : (x.kind == 1) = true := by simpa using hk1
      clear hk1
      have hEW := HE.out
      go_wp2_with (first
        | (refine wpList_load_row rfl _ _ rfl n rfl 43 (evC x) (0, 0) _ hEW Try.underlying43 rfl (infoEv x) ?_)
        | (go_at_call 22; ((with_reducible refine (HG.out _ HX.out ((HM.out.below (by rw [HN.out]; exact HBW.out)).mono (by rw [HN.out]; omega))).mono ?_))
           rintro e' wT ⟨rfl, hT⟩
           have hAT := (hT.block (n + 1) hAl).trans HA.out
           obtain ⟨f, ⟨c0, c1, c2, c3⟩, c4, c5, c6⟩ := HF.out wT hAT
           have f0 := f 0
           have f1 := f 1
           have f2 := f 2
           have f3 := f 3
           have f4 := f 4
           have f5 := f 5
           have f6 := f 6
           have HAT := Lib.hid hAT
           have e2' := (hT.cell (p := ⟨n, 2, none⟩) hEl).trans HX2.out
           clear hAT f hEW))
      go_meet
      case rel =>
        have ha : actOf x = some ⟨1, x.c, x.e, x.q, 0, false, setM x.ms⟩ := by rw [actOf, if_pos HK.out]
        have key := mid_of (a := ⟨1, x.c, x.e, x.q, 0, false, setM x.ms⟩) (a0 := zAct) HBW.out hT (by omega) HAT.out e2' ha
        dsimp only at key
        exact key
    · by_cases hk2 : x.kind = 2
      · have HK := Lib.hid (And.intro hk1 hk2)
        have h1 : (x.kind == 1) = false := by simpa using hk1
        have h2 : (x.kind == 2) = true := by simpa using hk2
        clear hk1 hk2
        have hEW := HE.out
        have x6 : W.cell? ⟨n, 6, none⟩ = some (.int .u8 x.rk) := by rw [cells7_get hEW]; rfl
        have HX6 := Lib.hid x6
        clear x6
        go_upto_region 5 with (fail)
        have x6 := HX6.out
        have x6B : (W.alloc (.cells #[.nilFunc] 69)).cell? ⟨n, 6, none⟩ = some (.int .u8 x.rk) := ((Only.refl (fun _ => False) W).alloc _).cell x6 id
        go_cut [6, 7] (fun v6 v7 wx => KMid x.rk W v6 v7 wx)
        case first =>
          cases hkb : kinB x.rk
          · have HKB := Lib.hid hkb
            clear hkb
            go_region_with (first | (go_at_call 23; ((with_reducible refine (tkinds_any _).mono ?_)); rintro r wT ⟨b, p1, p2, rfl, hK, oT⟩
                                     have l0 := look_kin hK x.rk
                                     have l1 := look_kin (hK.kept ((Only.refl _ wT).alloc (.cells #[.nilFunc] 69))) x.rk
                                     have x6T : wT.cell? ⟨n, 6, none⟩ = some (.int .u8 x.rk) := by first | exact oT.cell (p := ⟨n, 6, none⟩) x6 id | exact oT.cell (p := ⟨n, 6, none⟩) (((Only.refl (fun _ => False) W).alloc _).cell x6 id) id
                                     have x6A : (wT.alloc (.cells #[.nilFunc] 69)).cell? ⟨n, 6, none⟩ = some (.int .u8 x.rk) := ((Only.refl (fun _ => False) wT).alloc _).cell x6T id
                                     try
                                       have hkT : wT.heap[W.heap.size]? = some (.cells #[.nilFunc] 69 (0, 0)) := oT.obj (heap_alloc_new W _) id
                                       have k0 : wT.cell? ⟨W.heap.size, 0, none⟩ = some .nilFunc := by rw [cells7_get hkT]; rfl
                                       have k1 : wT.frozen? ⟨W.heap.size, 0, none⟩ = false := by simp [World.frozen?, hkT]
                                       have HKT := Lib.hid hkT
                                       clear hkT
                                     have oW : Only (fun _ => False) W wT := by first | exact (Only.refl _ W).drew.trans oT | exact ((Only.refl _ W).alloc _).drew.trans oT | exact ((Only.refl _ W).drew.alloc _).trans oT
                                     have hv := ((kin_cases x.rk p1 p2).resolve_left (by rintro ⟨_, _, _, h⟩; rw [HKB.out] at h; cases h)).1
                                     rw [hv, HKB.out] at l0 l1
                                     have HV := Lib.hid hv
                                     clear hv))
            all_goals go_wp2_with fail
            all_goals go_meet
            all_goals (case rel =>
              first
                | exact kmid_a hK oW HV.out HKB.out
                | exact kmid_b hK HKT.out oW HV.out HKB.out)
          · have HKB := Lib.hid hkb
            clear hkb
            go_region_with (first | (go_at_call 23; ((with_reducible refine (tkinds_any _).mono ?_)); rintro r wT ⟨b, p1, p2, rfl, hK, oT⟩
                                     have l0 := look_kin hK x.rk
                                     have l1 := look_kin (hK.kept ((Only.refl _ wT).alloc (.cells #[.nilFunc] 69))) x.rk
                                     have x6T : wT.cell? ⟨n, 6, none⟩ = some (.int .u8 x.rk) := by first | exact oT.cell (p := ⟨n, 6, none⟩) x6 id | exact oT.cell (p := ⟨n, 6, none⟩) (((Only.refl (fun _ => False) W).alloc _).cell x6 id) id
                                     have x6A : (wT.alloc (.cells #[.nilFunc] 69)).cell? ⟨n, 6, none⟩ = some (.int .u8 x.rk) := ((Only.refl (fun _ => False) wT).alloc _).cell x6T id
                                     try
                                       have hkT : wT.heap[W.heap.size]? = some (.cells #[.nilFunc] 69 (0, 0)) := oT.obj (heap_alloc_new W _) id
                                       have k0 : wT.cell? ⟨W.heap.size, 0, none⟩ = some .nilFunc := by rw [cells7_get hkT]; rfl
                                       have k1 : wT.frozen? ⟨W.heap.size, 0, none⟩ = false := by simp [World.frozen?, hkT]
                                       have HKT := Lib.hid hkT
                                       clear hkT
                                     have oW : Only (fun _ => False) W wT := by first | exact (Only.refl _ W).drew.trans oT | exact ((Only.refl _ W).alloc _).drew.trans oT | exact ((Only.refl _ W).drew.alloc _).trans oT
                                     obtain ⟨f, bs, hv, _⟩ := (kin_cases x.rk p1 p2).resolve_right (by rintro ⟨_, h⟩; rw [HKB.out] at h; cases h)
                                     rw [hv, HKB.out] at l0 l1
                                     have HV := Lib.hid hv
                                     clear hv))
            all_goals go_wp2_with fail
            all_goals go_meet
            all_goals (case rel =>
              first
                | exact kmid_a hK oW HV.out HKB.out
                | exact kmid_b hK HKT.out oW HV.out HKB.out)
        case rest =>
          clear x6 x6B
          obtain ⟨kb, p1, p2, rfl, rfl, hkb, hp1, hp2, oX⟩ := hcut
          obtain ⟨w2, rfl⟩ : ∃ w2 : World, w2 = wc := ⟨_, rfl⟩
          have hsz := oX.size
          have hA2 := oX.obj HA.out id
          have h2E := oX.obj HE.out id
          have h2 : w2.cell? ⟨n, 2, none⟩ = some (.int .i64 x.org) := by rw [cells7_get h2E]; rfl
          have HB2 : Hid (Below n w w2) := Lib.hid (HBW.out.trans (oX.below (by omega) (fun _ h => h.elim)))
          have HA2 := Lib.hid hA2
          cases hb : kinB x.rk
          · have hr : actOf x = none := by
              unfold kinB at hb
              simp at hb
              rw [actOf, if_neg HK.out.1, if_pos HK.out.2, if_neg (by omega), if_neg (by omega), if_neg (by omega)]
            have HR := Lib.hid hr
            have HH2 := Lib.hid h2
            clear hr hkb hp1 hp2 hA2 h2E hb
            go_wp2
            go_meet
            case rel => exact ⟨false, zAct, rfl, HR.out, HA2.out, HB2.out, HH2.out⟩
          · have HH2 := Lib.hid h2
            have y6 : w2.cell? ⟨n, 6, none⟩ = some (.int .u8 x.rk) := by rw [cells7_get h2E]; rfl
            have y7 : w2.cell? ⟨n, 7, none⟩ = some (.int .i64 x.rep) := by rw [cells7_get h2E]; rfl
            have y8 : w2.cell? ⟨n, 8, none⟩ = some (.int .i64 x.rc) := by rw [cells7_get h2E]; rfl
            have y9 : w2.cell? ⟨n, 9, none⟩ = some (.int .i64 x.re) := by rw [cells7_get h2E]; rfl
            have y10 : w2.cell? ⟨n, 10, none⟩ = some (.int .i64 x.rq) := by rw [cells7_get h2E]; rfl
            have y11 : w2.cell? ⟨n, 11, none⟩ = some (.bool x.ry) := by rw [cells7_get h2E]; rfl
            have y12 : w2.cell? ⟨n, 12, none⟩ = some (.int .i64 x.ra) := by rw [cells7_get h2E]; rfl
            have y13 : w2.cell? ⟨n, 13, none⟩ = some x.rm := by rw [cells7_get h2E]; rfl
            have y14 : w2.cell? ⟨n, 14, none⟩ = some x.rt := by rw [cells7_get h2E]; rfl
            have y15 : w2.cell? ⟨n, 15, none⟩ = some x.rb := by rw [cells7_get h2E]; rfl
            have k0 : w2.cell? ⟨kb, 0, none⟩ = some (kinV x.rk p1 p2) := by rw [cells7_get hkb]; rfl
            have HP1 := Lib.hid hp1
            have HP2 := Lib.hid hp2
            have hE2l : n < w2.heap.size := by omega
            have hA2l : n + 1 < w2.heap.size := by omega
            clear hkb hp1 hp2 hA2 h2E
            have hcs : x.rk = 2 ∨ x.rk = 4 ∨ x.rk = 3 := by
              unfold kinB at hb
              simp at hb
              omega
            clear hb
            rcases hcs with hr | hr | hr
            · have HR := Lib.hid hr
              rw [show kinV x.rk p1 p2 = .func (.func 33) #[] #[.pointer (some ⟨p1, 0, none⟩)] from by rw [kinV, if_pos HR.out]] at k0
              clear hr
              have hkf := fun wx => kf1_any p1 2 x wx
              unfold actV at hkf
              dsimp only at hkf
              have HKF := Lib.hid hkf
              clear hkf
              go_wp2_with (go_at_call 33; ((with_reducible refine (HKF.out _ HP1.out).mono ?_))
                           rintro e' wT ⟨rfl, hT⟩
                           have hAT := (hT.block (n + 1) hA2l).trans HA2.out
                           obtain ⟨f, ⟨c0, c1, c2, c3⟩, c4, c5, c6⟩ := HF.out wT hAT
                           have f0 := f 0
                           have f1 := f 1
                           have f2 := f 2
                           have f3 := f 3
                           have f4 := f 4
                           have f5 := f 5
                           have f6 := f 6
                           have HAT := Lib.hid hAT
                           have e2' := (hT.cell (p := ⟨n, 2, none⟩) hE2l).trans HH2.out
                           clear hAT f)
              go_meet
              case rel =>
                have ha : actOf x = some ⟨2, x.rc, x.re, x.rq, x.org, x.ry, 0⟩ := by rw [actOf, if_neg HK.out.1, if_pos HK.out.2, if_pos HR.out]
                have key := mid_of (a := ⟨2, x.rc, x.re, x.rq, x.org, x.ry, 0⟩) (a0 := zAct) HB2.out hT (by omega) HAT.out e2' ha
                dsimp only at key
                exact key
            · have HR := Lib.hid hr
              rw [show kinV x.rk p1 p2 = .func (.func 33) #[] #[.pointer (some ⟨p2, 0, none⟩)] from by rw [kinV, if_neg (by have := HR.out; omega), if_pos HR.out]] at k0
              clear hr
              have hkf := fun wx => kf1_any p2 4 x wx
              unfold actV at hkf
              dsimp only at hkf
              have HKF := Lib.hid hkf
              clear hkf
              go_wp2_with (go_at_call 33; ((with_reducible refine (HKF.out _ HP2.out).mono ?_))
                           rintro e' wT ⟨rfl, hT⟩
                           have hAT := (hT.block (n + 1) hA2l).trans HA2.out
                           obtain ⟨f, ⟨c0, c1, c2, c3⟩, c4, c5, c6⟩ := HF.out wT hAT
                           have f0 := f 0
                           have f1 := f 1
                           have f2 := f 2
                           have f3 := f 3
                           have f4 := f 4
                           have f5 := f 5
                           have f6 := f 6
                           have HAT := Lib.hid hAT
                           have e2' := (hT.cell (p := ⟨n, 2, none⟩) hE2l).trans HH2.out
                           clear hAT f)
              go_meet
              case rel =>
                have ha : actOf x = some ⟨4, x.rc, x.re, x.rq, x.org, x.ry, 0⟩ := by rw [actOf, if_neg HK.out.1, if_pos HK.out.2, if_neg (by have := HR.out; omega), if_neg (by have := HR.out; omega), if_pos HR.out]
                have key := mid_of (a := ⟨4, x.rc, x.re, x.rq, x.org, x.ry, 0⟩) (a0 := zAct) HB2.out hT (by omega) HAT.out e2' ha
                dsimp only at key
                exact key
            · have HR := Lib.hid hr
              rw [show kinV x.rk p1 p2 = .func (.func 34) #[] #[] from by rw [kinV, if_neg (by have := HR.out; omega), if_neg (by have := HR.out; omega), if_pos HR.out]] at k0
              clear hr
              have hkf := fun wx => kf3_any x wx
              unfold actV at hkf
              dsimp only at hkf
              have HKF := Lib.hid hkf
              clear hkf
              go_wp2_with (go_at_call 34; ((with_reducible refine (HKF.out _).mono ?_))
                           rintro e' wT ⟨rfl, hT⟩
                           have hAT := (hT.block (n + 1) hA2l).trans HA2.out
                           obtain ⟨f, ⟨c0, c1, c2, c3⟩, c4, c5, c6⟩ := HF.out wT hAT
                           have f0 := f 0
                           have f1 := f 1
                           have f2 := f 2
                           have f3 := f 3
                           have f4 := f 4
                           have f5 := f 5
                           have f6 := f 6
                           have HAT := Lib.hid hAT
                           have e2' := (hT.cell (p := ⟨n, 2, none⟩) hE2l).trans HH2.out
                           clear hAT f)
              go_meet
              case rel =>
                have ha : actOf x = some ⟨3, x.rc, x.re, x.rq, 0, x.ry, 0⟩ := by rw [actOf, if_neg HK.out.1, if_pos HK.out.2, if_neg (by have := HR.out; omega), if_pos HR.out]
                have key := mid_of (a := ⟨3, x.rc, x.re, x.rq, 0, x.ry, 0⟩) (a0 := zAct) HB2.out hT (by omega) HAT.out e2' ha
                dsimp only at key
                exact key
      · have HK := Lib.hid (And.intro hk1 hk2)
        have h1 : (x.kind == 1) = false := by simpa using hk1
        have h2 : (x.kind == 2) = false := by simpa using hk2
        clear hk1 hk2
        go_wp2
        go_meet
        case rel => exact ⟨false, zAct, rfl, by rw [actOf, if_neg HK.out.1, if_neg HK.out.2]; rfl, HA.out, HBW.out, HX2.out⟩
  case rest =>
    clear HX2 HE HA HBW HG x0 hEl hAl HF
    obtain ⟨b, a, rfl, ha, hc, hB2, h2⟩ := hcut
    obtain ⟨w2, rfl⟩ : ∃ w2 : World, w2 = wc := ⟨_, rfl⟩
    have f0 : w2.frozen? ⟨n + 1, 0, none⟩ = false := by simp [World.frozen?, hc]
    have f1 : w2.frozen? ⟨n + 1, 1, none⟩ = false := by simp [World.frozen?, hc]
    have f2 : w2.frozen? ⟨n + 1, 2, none⟩ = false := by simp [World.frozen?, hc]
    have f3 : w2.frozen? ⟨n + 1, 3, none⟩ = false := by simp [World.frozen?, hc]
    have f4 : w2.frozen? ⟨n + 1, 4, none⟩ = false := by simp [World.frozen?, hc]
    have f5 : w2.frozen? ⟨n + 1, 5, none⟩ = false := by simp [World.frozen?, hc]
    have f6 : w2.frozen? ⟨n + 1, 6, none⟩ = false := by simp [World.frozen?, hc]
    have c0 : w2.cell? ⟨n + 1, 0, none⟩ = some (.int .u8 a.kind) := by rw [cells7_get hc]; rfl
    have c1 : w2.cell? ⟨n + 1, 1, none⟩ = some (.int .i64 a.c) := by rw [cells7_get hc]; rfl
    have c2 : w2.cell? ⟨n + 1, 2, none⟩ = some (.int .i64 a.e) := by rw [cells7_get hc]; rfl
    have c3 : w2.cell? ⟨n + 1, 3, none⟩ = some (.int .i64 a.q) := by rw [cells7_get hc]; rfl
    have c4 : w2.cell? ⟨n + 1, 4, none⟩ = some (.int .i64 a.org) := by rw [cells7_get hc]; rfl
    have c5 : w2.cell? ⟨n + 1, 5, none⟩ = some (.bool a.yes) := by rw [cells7_get hc]; rfl
    have c6 : w2.cell? ⟨n + 1, 6, none⟩ = some (.int .u8 a.orgs) := by rw [cells7_get hc]; rfl
    have HB2 := Lib.hid hB2
    have HA := Lib.hid ha
    clear hc hB2 ha
    cases b
    · have HO := Lib.hid (show oneO bad x = none by rw [oneO, HA.out]; rfl)
      go_wp2
      refine bodyPost_ret (v := .tuple #[.agg #[.int .u8 0, .int .i64 0, .int .i64 0, .int .i64 0, .int .i64 0, .bool false, .int .u8 0], .bool false]) (by simp [results, Try.results10, go_sem, c0, c1, c2, c3, c4, c5, c6]) rfl ?_
      refine ⟨by rw [oneA, HO.out]; rfl, ?_⟩
      rw [HN.out]
      iterate 7 (refine Below.setCell ?_ (show n ≤ n + 1 by omega) _)
      exact HB2.out
    · cases h1 : hstB bad x.org
      · have HO := Lib.hid (show oneO bad x = none by rw [oneO, HA.out]; simp [h1])
        have H1 := Lib.hid h1
        clear h1
        go_wp2_with (go_at_call 24; ((with_reducible refine (hst_is bad x.org false H1.out _).mono ?_)); rintro e' wT ⟨rfl, rfl⟩)
        refine bodyPost_ret (v := .tuple #[.agg #[.int .u8 0, .int .i64 0, .int .i64 0, .int .i64 0, .int .i64 0, .bool false, .int .u8 0], .bool false]) (by simp [results, Try.results10, go_sem, c0, c1, c2, c3, c4, c5, c6]) rfl ?_
        refine ⟨by rw [oneA, HO.out]; rfl, ?_⟩
        rw [HN.out]
        iterate 7 (refine Below.setCell ?_ (show n ≤ n + 1 by omega) _)
        exact HB2.out
      · cases h3 : hstB bad a.c
        · have HO := Lib.hid (show oneO bad x = none by rw [oneO, HA.out]; simp [h1, h3])
          have H1 := Lib.hid h1
          have H3 := Lib.hid h3
          clear h1 h3
          go_wp2_with (first
            | (go_at_call 24; ((with_reducible refine (hst_is bad x.org true H1.out _).mono ?_)); rintro e' wT ⟨rfl, rfl⟩)
            | (go_at_call 24; ((with_reducible refine (hst_is bad a.c false H3.out _).mono ?_)); rintro e' wT ⟨rfl, rfl⟩))
          refine bodyPost_ret (v := .tuple #[.agg #[.int .u8 0, .int .i64 0, .int .i64 0, .int .i64 0, .int .i64 0, .bool false, .int .u8 0], .bool false]) (by simp [results, Try.results10, go_sem, c0, c1, c2, c3, c4, c5, c6]) rfl ?_
          refine ⟨by rw [oneA, HO.out]; rfl, ?_⟩
          rw [HN.out]
          iterate 7 (refine Below.setCell ?_ (show n ≤ n + 1 by omega) _)
          exact HB2.out
        · have HO := Lib.hid (show oneO bad x = some a by rw [oneO, HA.out]; simp [h1, h3])
          have H1 := Lib.hid h1
          have H3 := Lib.hid h3
          clear h1 h3
          go_wp2_with (first
            | (go_at_call 24; ((with_reducible refine (hst_is bad x.org true H1.out _).mono ?_)); rintro e' wT ⟨rfl, rfl⟩)
            | (go_at_call 24; ((with_reducible refine (hst_is bad a.c true H3.out _).mono ?_)); rintro e' wT ⟨rfl, rfl⟩))
          refine bodyPost_ret (v := .tuple #[.agg #[.int .u8 a.kind, .int .i64 a.c, .int .i64 a.e, .int .i64 a.q, .int .i64 a.org, .bool a.yes, .int .u8 a.orgs], .bool true]) (by simp [results, Try.results10, go_sem, c0, c1, c2, c3, c4, c5, c6]) rfl ?_
          refine ⟨by rw [oneA, HO.out]; rfl, ?_⟩
          rw [HN.out]
          iterate 7 (refine Below.setCell ?_ (show n ≤ n + 1 by omega) _)
          exact HB2.out
end Go.Proofs.Ytkjfagchololbaa
