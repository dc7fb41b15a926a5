/- The walk of the ledger's May (printed by wip/gen_lmay.py). -/
import Derived.Test.YtkjfagchololbaaLRow
import Derived.Laws.EntriesVeiled
namespace Go.Proofs.Ytkjfagchololbaa
open Go.RowKit

def koB (k : Int) : Bool := k == 1
def krB (k : Int) : Bool := k == 2 || k == 4
def kyB (k : Int) : Bool := k == 2 || k == 3 || k == 4
def canB (bad : Int) (r : Row) (a : Act') : Bool :=
  if a.kind = 1 then !r.begun && !r.decided
  else if a.kind = 2 then r.begun && inB r.orgs a.org && !inB (orB r.voted r.learnt) a.org
  else if a.kind = 3 then decB bad r a.yes
  else r.decided && (r.commit == a.yes) && !inB r.learnt a.org && (!r.begun || inB r.orgs a.org) && (!a.yes || inB r.yes a.org)
def argB (bad : Int) (a : Act') : Bool := kindIs a.kind && mayBeB bad a (koB a.kind) (krB a.kind) (kyB a.kind)
def mayV (bad : Int) (rs : List Row) (a : Act') : Int := if argB bad a = true then (if canB bad (rowOf rs a.t) a = true then 0 else 290) else 2

/-- What an action's values may be. -/
structure ActWf (a : Act') : Prop where
  k : 0 ≤ a.kind ∧ a.kind ≤ 255
  t : wfT a.t
  g : wfI a.org
  o : 0 ≤ a.orgs ∧ a.orgs ≤ 255

theorem mayBe_is (v : Bool) (gb : Nat) (bad : Int) (a : Act') (ko kr ky : Bool) (x y : Nat) (hv : mayBeB bad a ko kr ky = v) (w : World) (hg : w.cell? ⟨gb, 0, none⟩ = some (.int .u8 bad)) (hs0 : 0 ≤ a.orgs) (hs1 : a.orgs ≤ 255) :
    Calls Try.prog 45 #[.pointer (some ⟨gb, 0, none⟩), actV a, kindRow ko kr ky x y] w fun e w' => e = .returned (.bool v) ∧ Below w.heap.size w w' := hv ▸ mayBe_any gb bad a ko kr ky x y w hg hs0 hs1

theorem mayBe_org {bad : Int} {a : Act'} {ko ky : Bool} (h : mayBeB bad a ko true ky = true) : 0 ≤ a.org ∧ a.org ≤ 7 := by
  unfold mayBeB be5 at h
  simp at h
  omega

theorem row_at {w : World} {rb : Nat} {r : Row} {t : TypeId} {fr : Nat × Nat} (h : w.heap[rb]? = some (.cells (rowCells r).toArray t fr)) : RowAt w rb 0 r := by
  constructor <;> simp [World.cell?, h, rowCells]
theorem can1_is (v : Bool) (bad : Int) (g : Value) (b : Nat) (r : Row) (a : Act') (w : World) (h : RowAt w b 0 r) (hk : a.kind = 1) (hv : canB bad r a = v) :
    Calls Try.prog 47 #[g, .pointer (some ⟨b, 0, none⟩), actV a] w fun e w' => e = .returned (.bool v) ∧ Below w.heap.size w w' := by
  rw [← hv, canB, if_pos hk]; exact mayBegin_any g b r a w h
theorem can2_is (v : Bool) (bad : Int) (g : Value) (b : Nat) (r : Row) (a : Act') (w : World) (h : RowAt w b 0 r) (h0 : 0 ≤ a.org) (h1 : a.org ≤ 7) (hk : a.kind = 2) (hv : canB bad r a = v) :
    Calls Try.prog 49 #[g, .pointer (some ⟨b, 0, none⟩), actV a] w fun e w' => e = .returned (.bool v) ∧ Below w.heap.size w w' := by
  rw [← hv, canB, if_neg (by omega), if_pos hk]; exact mayVote_any g b r a w h h0 h1
theorem can3_is (v : Bool) (bad : Int) (gb b : Nat) (r : Row) (a : Act') (w : World) (h : RowAt w b 0 r) (hg : w.cell? ⟨gb, 0, none⟩ = some (.int .u8 bad)) (hk : a.kind = 3) (hv : canB bad r a = v) :
    Calls Try.prog 51 #[.pointer (some ⟨gb, 0, none⟩), .pointer (some ⟨b, 0, none⟩), actV a] w fun e w' => e = .returned (.bool v) ∧ Below w.heap.size w w' := by
  rw [← hv, canB, if_neg (by omega), if_neg (by omega), if_pos hk]; exact mayDecide_any gb b bad r a w h hg
theorem can4_is (v : Bool) (bad : Int) (g : Value) (b : Nat) (r : Row) (a : Act') (w : World) (h : RowAt w b 0 r) (h0 : 0 ≤ a.org) (h1 : a.org ≤ 7) (hk : a.kind = 4) (hv : canB bad r a = v) :
    Calls Try.prog 53 #[g, .pointer (some ⟨b, 0, none⟩), actV a] w fun e w' => e = .returned (.bool v) ∧ Below w.heap.size w w' := by
  rw [← hv, canB, if_neg (by omega), if_neg (by omega), if_neg (by omega)]; exact mayLearn_any g b r a w h h0 h1

set_option maxRecDepth 100000 in
set_option maxHeartbeats 4000000 in
theorem may_1 (base gb mb : Nat) (rv : Value) (bad : Int) (rs : List Row) (c e q org : Int) (ayes : Bool) (aorgs : Int) (w : World) (h : GAt w base gb mb rv bad rs) (ha : ActWf ⟨1, c, e, q, org, ayes, aorgs⟩) :
    Calls Try.prog 42 #[.pointer (some ⟨gb, 0, none⟩), actV ⟨1, c, e, q, org, ayes, aorgs⟩] w fun e' w' => e' = .returned (.int .i64 (mayV bad rs ⟨1, c, e, q, org, ayes, aorgs⟩)) ∧ Below w.heap.size w w' := by
  obtain ⟨hk, ht, hg, ho0, ho1⟩ := ha
  obtain ⟨v, hv⟩ : ∃ v, mayV bad rs ⟨1, c, e, q, org, ayes, aorgs⟩ = v := ⟨_, rfl⟩
  rw [hv]
  dsimp only at hk ht hg ho0 ho1
  unfold actV
  dsimp only
  have hA := heap_alloc_new w (.cells #[.int .u8 1, .int .i64 c, .int .i64 e, .int .i64 q, .int .i64 org, .bool ayes, .int .u8 aorgs] 33)
  have oX := (Only.refl (fun _ : Nat => False) w).alloc (.cells #[.int .u8 1, .int .i64 c, .int .i64 e, .int .i64 q, .int .i64 org, .bool ayes, .int .u8 aorgs] 33)
  have hB : Below w.heap.size w (w.alloc (.cells #[.int .u8 1, .int .i64 c, .int .i64 e, .int .i64 q, .int .i64 org, .bool ayes, .int .u8 aorgs] 33)) := (Below.refl _ w).alloc (Nat.le_refl _) _
  have hX := h.kept oX id id (fun _ _ => id)
  have HV := Lib.hid hv
  have HT := Lib.hid ht
  clear hv ht h oX
  go_enter Try.func42, Try.ntmps42
  go_upto_region 3 with fail
  generalize (w.alloc (.cells #[.int .u8 1, .int .i64 c, .int .i64 e, .int .i64 q, .int .i64 org, .bool ayes, .int .u8 aorgs] 33)) = W at *
  generalize hab : w.heap.size = ab at *
  have HAB := Lib.hid hab
  clear hab
  have x0 : W.cell? ⟨ab, 0, none⟩ = some (.int .u8 1) := by simp [World.cell?, hA]
  have hlt : ab < W.heap.size := (Array.getElem?_eq_some_iff.1 hA).1
  have l1 := look_kinds (W.alloc (.map kindsEs 4)).drew W.heap.size 1 true (heap_alloc_new W _)
  have l2 := look_kinds ((W.alloc (.cells #[.bool false, .bool false, .bool false, .nilFunc, .nilFunc] 99)).alloc (.map kindsEs 4)).drew (W.heap.size + 1) 1 true (heap_at _ _ _ (by simp))
  have l3 := look_kinds ((W.alloc (.map kindsEs 4)).alloc (.cells #[.bool false, .bool false, .bool false, .nilFunc, .nilFunc] 99)).drew W.heap.size 1 true ((heap_alloc_old _ _ _ (by simp)).trans (heap_alloc_new W _))
  rw [if_pos rfl, show kindV 1 = (.agg #[.bool true, .bool false, .bool false, .func (.func 47) #[] #[], .func (.func 48) #[] #[]] : Value) from rfl, show kindIs 1 = true from rfl] at l1 l2 l3
  
  go_cut [5, 6] (fun v5 v6 wx => ∃ kb, v5 = .pointer (some ⟨kb, 0, none⟩) ∧ v6 = .bool true ∧ wx.heap[kb]? = some (.cells ((.agg #[.bool true, .bool false, .bool false, .func (.func 47) #[] #[], .func (.func 48) #[] #[]] : Value)).cells 99 (0, 0)) ∧ Only (fun _ => False) W wx)
  case first =>
    go_region_with (first | (go_at_call 43; refine (kinds_any _).mono ?_; rintro r wT ⟨rfl, rfl⟩))
    all_goals go_wp2_with fail
    all_goals go_meet
    all_goals (case rel => exact ⟨_, rfl, rfl, by first | exact heap_alloc_new _ _ | exact heap_at _ _ _ (by simp) | exact (heap_alloc_old _ _ _ (by simp)).trans (heap_alloc_new _ _), ((((Only.refl (fun _ : Nat => False) W).alloc _).alloc _).drew)⟩)
  case rest =>
    obtain ⟨kb, rfl, rfl, hkb, hW⟩ := hcut
    obtain ⟨w2, rfl⟩ : ∃ w2 : World, w2 = wc := ⟨_, rfl⟩
    have hA2 := hW.obj hA id
    have hG := hX.kept hW id id (fun _ _ => id)
    have hBw : ab ≤ W.heap.size := Nat.le_of_lt hlt
    have hB2 : Below ab w w2 := hB.trans (hW.below hBw (fun _ h => h.elim))
    clear hA x0 hX hW hB l1 l2 l3 hBw hlt
    have y0 : w2.cell? ⟨ab, 0, none⟩ = some (.int .u8 1) := by simp [World.cell?, hA2]
    have y1 : w2.cell? ⟨ab, 1, none⟩ = some (.int .i64 c) := by simp [World.cell?, hA2]
    have y2 : w2.cell? ⟨ab, 2, none⟩ = some (.int .i64 e) := by simp [World.cell?, hA2]
    have y3 : w2.cell? ⟨ab, 3, none⟩ = some (.int .i64 q) := by simp [World.cell?, hA2]
    have y4 : w2.cell? ⟨ab, 4, none⟩ = some (.int .i64 org) := by simp [World.cell?, hA2]
    have y5 : w2.cell? ⟨ab, 5, none⟩ = some (.bool ayes) := by simp [World.cell?, hA2]
    have y6 : w2.cell? ⟨ab, 6, none⟩ = some (.int .u8 aorgs) := by simp [World.cell?, hA2]
    have z0 : w2.cell? ⟨kb, 0, none⟩ = some (.bool true) := by simp [World.cell?, hkb, Value.cells]
    have z1 : w2.cell? ⟨kb, 1, none⟩ = some (.bool false) := by simp [World.cell?, hkb, Value.cells]
    have z2 : w2.cell? ⟨kb, 2, none⟩ = some (.bool false) := by simp [World.cell?, hkb, Value.cells]
    have z3 : w2.cell? ⟨kb, 3, none⟩ = some (.func (.func 47) #[] #[]) := by simp [World.cell?, hkb, Value.cells]
    have z4 : w2.cell? ⟨kb, 4, none⟩ = some (.func (.func 48) #[] #[]) := by simp [World.cell?, hkb, Value.cells]
    obtain ⟨g0, _, _⟩ := hG.c
    cases hm : mayBeB bad ⟨1, c, e, q, org, ayes, aorgs⟩ true false false
    · have HR := Lib.hid (show v = 2 by rw [← HV.out, mayV, if_neg]; rw [argB]; show ¬ (kindIs 1 && mayBeB bad ⟨1, c, e, q, org, ayes, aorgs⟩ (koB 1) (krB 1) (kyB 1)) = true; rw [show mayBeB bad ⟨1, c, e, q, org, ayes, aorgs⟩ (koB 1) (krB 1) (kyB 1) = false from hm]; simp)
      have HM := Lib.hid hm
      clear hm hA2 hkb
      go_wp2_with (go_at_call 45; refine (mayBe_is false gb bad ⟨1, c, e, q, org, ayes, aorgs⟩ true false false 47 48 HM.out _ (by exact g0) ho0 ho1).mono ?_; rintro r wT ⟨rfl, hBT⟩)
      go_ret
      exact ⟨by rw [HR.out]; rfl, by rw [HAB.out]; exact hB2.trans (hBT.mono (by rw [← HAB.out]; exact hB2.size))⟩
    · have HM := Lib.hid hm
      have HR := Lib.hid (show v = if canB bad (rowOf rs (c, e, q)) ⟨1, c, e, q, org, ayes, aorgs⟩ = true then 0 else 290 by rw [← HV.out, mayV, if_pos]; rfl; rw [argB]; show (kindIs 1 && mayBeB bad ⟨1, c, e, q, org, ayes, aorgs⟩ (koB 1) (krB 1) (kyB 1)) = true; rw [show mayBeB bad ⟨1, c, e, q, org, ayes, aorgs⟩ (koB 1) (krB 1) (kyB 1) = true from hm]; rfl)
      clear hm
      go_upto_region 6 with (go_at_call 45; refine (mayBe_is true gb bad ⟨1, c, e, q, org, ayes, aorgs⟩ true false false 47 48 HM.out _ (by exact g0) ho0 ho1).mono ?_; rintro r wT ⟨rfl, hBT⟩)
      have hT := Only.of_below hBT
      have hGT := hG.kept hT id id (fun _ _ => id)
      have hB3 := hB2.trans (hBT.mono (by rw [← HAB.out]; exact hB2.size))
      have y0' := hT.cell y0 id
      have y1' := hT.cell y1 id
      have y2' := hT.cell y2 id
      have y3' := hT.cell y3 id
      have y4' := hT.cell y4 id
      have y5' := hT.cell y5 id
      have y6' := hT.cell y6 id
      have z3' := hT.cell z3 id
      clear y0 y1 y2 y3 y4 y5 y6 z0 z1 z2 z3 z4 g0 hT hG hA2 hkb
      obtain ⟨⟨rc, re, rq, begun, orgs, voted, yes, decided, commit, learnt⟩, hrow⟩ : ∃ r, rowOf rs (c, e, q) = r := ⟨_, rfl⟩
      have HW := Lib.hid hrow
      rw [hrow] at HR
      clear hrow
      go_upto_region 7 with (go_at_call 46; refine (row_any base gb mb rv bad rs (c, e, q) _ (by exact hGT) HT.out).mono ?_; rw [HW.out]; rintro r wR ⟨rfl, hBR⟩; unfold rowV; dsimp only)
      have hS := (Only.of_below hBR).alloc (.cells #[.int .i64 rc, .int .i64 re, .int .i64 rq, .bool begun, .int .u8 orgs, .int .u8 voted, .int .u8 yes, .bool decided, .bool commit, .int .u8 learnt] 62)
      have hrb := heap_alloc_new wR (.cells #[.int .i64 rc, .int .i64 re, .int .i64 rq, .bool begun, .int .u8 orgs, .int .u8 voted, .int .u8 yes, .bool decided, .bool commit, .int .u8 learnt] 62)
      generalize (wR.alloc (.cells #[.int .i64 rc, .int .i64 re, .int .i64 rq, .bool begun, .int .u8 orgs, .int .u8 voted, .int .u8 yes, .bool decided, .bool commit, .int .u8 learnt] 62)) = w3 at *
      generalize wR.heap.size = rb at *
      have hRA := row_at (r := ⟨rc, re, rq, begun, orgs, voted, yes, decided, commit, learnt⟩) hrb
      have hG3 := hGT.kept hS id id (fun _ _ => id)
      have z5 := hS.cell z3' id
      have u0 := hS.cell y0' id
      have u1 := hS.cell y1' id
      have u2 := hS.cell y2' id
      have u3 := hS.cell y3' id
      have u4 := hS.cell y4' id
      have u5 := hS.cell y5' id
      have u6 := hS.cell y6' id
      have hB5 := hB3.trans (hS.below (Nat.le_trans (by rw [← HAB.out]; exact hB2.size) hBT.size) (fun _ h => h.elim))
      obtain ⟨g5, _, _⟩ := hG3.c
      clear y0' y1' y2' y3' y4' y5' y6' z3' hS hGT hBR hB2 hB3 hBT hrb hG3
      cases hcan : canB bad ⟨rc, re, rq, begun, orgs, voted, yes, decided, commit, learnt⟩ ⟨1, c, e, q, org, ayes, aorgs⟩
      all_goals
        rw [hcan] at HR
        have HC := Lib.hid hcan
        clear hcan
        go_wp2_with (go_at_call 47; refine (can1_is _ bad _ rb _ ⟨1, c, e, q, org, ayes, aorgs⟩ _ (by exact hRA) rfl HC.out).mono ?_; rintro r wC ⟨rfl, hBC⟩)
        go_ret
        exact ⟨by rw [HR.out]; rfl, by rw [HAB.out]; exact hB5.trans (hBC.mono (by rw [← HAB.out]; exact hB5.size))⟩

set_option maxRecDepth 100000 in
set_option maxHeartbeats 4000000 in
theorem may_2 (base gb mb : Nat) (rv : Value) (bad : Int) (rs : List Row) (c e q org : Int) (ayes : Bool) (aorgs : Int) (w : World) (h : GAt w base gb mb rv bad rs) (ha : ActWf ⟨2, c, e, q, org, ayes, aorgs⟩) :
    Calls Try.prog 42 #[.pointer (some ⟨gb, 0, none⟩), actV ⟨2, c, e, q, org, ayes, aorgs⟩] w fun e' w' => e' = .returned (.int .i64 (mayV bad rs ⟨2, c, e, q, org, ayes, aorgs⟩)) ∧ Below w.heap.size w w' := by
  obtain ⟨hk, ht, hg, ho0, ho1⟩ := ha
  obtain ⟨v, hv⟩ : ∃ v, mayV bad rs ⟨2, c, e, q, org, ayes, aorgs⟩ = v := ⟨_, rfl⟩
  rw [hv]
  dsimp only at hk ht hg ho0 ho1
  unfold actV
  dsimp only
  have hA := heap_alloc_new w (.cells #[.int .u8 2, .int .i64 c, .int .i64 e, .int .i64 q, .int .i64 org, .bool ayes, .int .u8 aorgs] 33)
  have oX := (Only.refl (fun _ : Nat => False) w).alloc (.cells #[.int .u8 2, .int .i64 c, .int .i64 e, .int .i64 q, .int .i64 org, .bool ayes, .int .u8 aorgs] 33)
  have hB : Below w.heap.size w (w.alloc (.cells #[.int .u8 2, .int .i64 c, .int .i64 e, .int .i64 q, .int .i64 org, .bool ayes, .int .u8 aorgs] 33)) := (Below.refl _ w).alloc (Nat.le_refl _) _
  have hX := h.kept oX id id (fun _ _ => id)
  have HV := Lib.hid hv
  have HT := Lib.hid ht
  clear hv ht h oX
  go_enter Try.func42, Try.ntmps42
  go_upto_region 3 with fail
  generalize (w.alloc (.cells #[.int .u8 2, .int .i64 c, .int .i64 e, .int .i64 q, .int .i64 org, .bool ayes, .int .u8 aorgs] 33)) = W at *
  generalize hab : w.heap.size = ab at *
  have HAB := Lib.hid hab
  clear hab
  have x0 : W.cell? ⟨ab, 0, none⟩ = some (.int .u8 2) := by simp [World.cell?, hA]
  have hlt : ab < W.heap.size := (Array.getElem?_eq_some_iff.1 hA).1
  have l1 := look_kinds (W.alloc (.map kindsEs 4)).drew W.heap.size 2 true (heap_alloc_new W _)
  have l2 := look_kinds ((W.alloc (.cells #[.bool false, .bool false, .bool false, .nilFunc, .nilFunc] 99)).alloc (.map kindsEs 4)).drew (W.heap.size + 1) 2 true (heap_at _ _ _ (by simp))
  have l3 := look_kinds ((W.alloc (.map kindsEs 4)).alloc (.cells #[.bool false, .bool false, .bool false, .nilFunc, .nilFunc] 99)).drew W.heap.size 2 true ((heap_alloc_old _ _ _ (by simp)).trans (heap_alloc_new W _))
  rw [if_pos rfl, show kindV 2 = (.agg #[.bool false, .bool true, .bool true, .func (.func 49) #[] #[], .func (.func 50) #[] #[]] : Value) from rfl, show kindIs 2 = true from rfl] at l1 l2 l3
  
  go_cut [5, 6] (fun v5 v6 wx => ∃ kb, v5 = .pointer (some ⟨kb, 0, none⟩) ∧ v6 = .bool true ∧ wx.heap[kb]? = some (.cells ((.agg #[.bool false, .bool true, .bool true, .func (.func 49) #[] #[], .func (.func 50) #[] #[]] : Value)).cells 99 (0, 0)) ∧ Only (fun _ => False) W wx)
  case first =>
    go_region_with (first | (go_at_call 43; refine (kinds_any _).mono ?_; rintro r wT ⟨rfl, rfl⟩))
    all_goals go_wp2_with fail
    all_goals go_meet
    all_goals (case rel => exact ⟨_, rfl, rfl, by first | exact heap_alloc_new _ _ | exact heap_at _ _ _ (by simp) | exact (heap_alloc_old _ _ _ (by simp)).trans (heap_alloc_new _ _), ((((Only.refl (fun _ : Nat => False) W).alloc _).alloc _).drew)⟩)
  case rest =>
    obtain ⟨kb, rfl, rfl, hkb, hW⟩ := hcut
    obtain ⟨w2, rfl⟩ : ∃ w2 : World, w2 = wc := ⟨_, rfl⟩
    have hA2 := hW.obj hA id
    have hG := hX.kept hW id id (fun _ _ => id)
    have hBw : ab ≤ W.heap.size := Nat.le_of_lt hlt
    have hB2 : Below ab w w2 := hB.trans (hW.below hBw (fun _ h => h.elim))
    clear hA x0 hX hW hB l1 l2 l3 hBw hlt
    have y0 : w2.cell? ⟨ab, 0, none⟩ = some (.int .u8 2) := by simp [World.cell?, hA2]
    have y1 : w2.cell? ⟨ab, 1, none⟩ = some (.int .i64 c) := by simp [World.cell?, hA2]
    have y2 : w2.cell? ⟨ab, 2, none⟩ = some (.int .i64 e) := by simp [World.cell?, hA2]
    have y3 : w2.cell? ⟨ab, 3, none⟩ = some (.int .i64 q) := by simp [World.cell?, hA2]
    have y4 : w2.cell? ⟨ab, 4, none⟩ = some (.int .i64 org) := by simp [World.cell?, hA2]
    have y5 : w2.cell? ⟨ab, 5, none⟩ = some (.bool ayes) := by simp [World.cell?, hA2]
    have y6 : w2.cell? ⟨ab, 6, none⟩ = some (.int .u8 aorgs) := by simp [World.cell?, hA2]
    have z0 : w2.cell? ⟨kb, 0, none⟩ = some (.bool false) := by simp [World.cell?, hkb, Value.cells]
    have z1 : w2.cell? ⟨kb, 1, none⟩ = some (.bool true) := by simp [World.cell?, hkb, Value.cells]
    have z2 : w2.cell? ⟨kb, 2, none⟩ = some (.bool true) := by simp [World.cell?, hkb, Value.cells]
    have z3 : w2.cell? ⟨kb, 3, none⟩ = some (.func (.func 49) #[] #[]) := by simp [World.cell?, hkb, Value.cells]
    have z4 : w2.cell? ⟨kb, 4, none⟩ = some (.func (.func 50) #[] #[]) := by simp [World.cell?, hkb, Value.cells]
    obtain ⟨g0, _, _⟩ := hG.c
    cases hm : mayBeB bad ⟨2, c, e, q, org, ayes, aorgs⟩ false true true
    · have HR := Lib.hid (show v = 2 by rw [← HV.out, mayV, if_neg]; rw [argB]; show ¬ (kindIs 2 && mayBeB bad ⟨2, c, e, q, org, ayes, aorgs⟩ (koB 2) (krB 2) (kyB 2)) = true; rw [show mayBeB bad ⟨2, c, e, q, org, ayes, aorgs⟩ (koB 2) (krB 2) (kyB 2) = false from hm]; simp)
      have HM := Lib.hid hm
      clear hm hA2 hkb
      go_wp2_with (go_at_call 45; refine (mayBe_is false gb bad ⟨2, c, e, q, org, ayes, aorgs⟩ false true true 49 50 HM.out _ (by exact g0) ho0 ho1).mono ?_; rintro r wT ⟨rfl, hBT⟩)
      go_ret
      exact ⟨by rw [HR.out]; rfl, by rw [HAB.out]; exact hB2.trans (hBT.mono (by rw [← HAB.out]; exact hB2.size))⟩
    · have HM := Lib.hid hm
      have HR := Lib.hid (show v = if canB bad (rowOf rs (c, e, q)) ⟨2, c, e, q, org, ayes, aorgs⟩ = true then 0 else 290 by rw [← HV.out, mayV, if_pos]; rfl; rw [argB]; show (kindIs 2 && mayBeB bad ⟨2, c, e, q, org, ayes, aorgs⟩ (koB 2) (krB 2) (kyB 2)) = true; rw [show mayBeB bad ⟨2, c, e, q, org, ayes, aorgs⟩ (koB 2) (krB 2) (kyB 2) = true from hm]; rfl)
      obtain ⟨o0, o7⟩ := mayBe_org hm
      dsimp only at o0 o7
      clear hm
      go_upto_region 6 with (go_at_call 45; refine (mayBe_is true gb bad ⟨2, c, e, q, org, ayes, aorgs⟩ false true true 49 50 HM.out _ (by exact g0) ho0 ho1).mono ?_; rintro r wT ⟨rfl, hBT⟩)
      have hT := Only.of_below hBT
      have hGT := hG.kept hT id id (fun _ _ => id)
      have hB3 := hB2.trans (hBT.mono (by rw [← HAB.out]; exact hB2.size))
      have y0' := hT.cell y0 id
      have y1' := hT.cell y1 id
      have y2' := hT.cell y2 id
      have y3' := hT.cell y3 id
      have y4' := hT.cell y4 id
      have y5' := hT.cell y5 id
      have y6' := hT.cell y6 id
      have z3' := hT.cell z3 id
      clear y0 y1 y2 y3 y4 y5 y6 z0 z1 z2 z3 z4 g0 hT hG hA2 hkb
      obtain ⟨⟨rc, re, rq, begun, orgs, voted, yes, decided, commit, learnt⟩, hrow⟩ : ∃ r, rowOf rs (c, e, q) = r := ⟨_, rfl⟩
      have HW := Lib.hid hrow
      rw [hrow] at HR
      clear hrow
      go_upto_region 7 with (go_at_call 46; refine (row_any base gb mb rv bad rs (c, e, q) _ (by exact hGT) HT.out).mono ?_; rw [HW.out]; rintro r wR ⟨rfl, hBR⟩; unfold rowV; dsimp only)
      have hS := (Only.of_below hBR).alloc (.cells #[.int .i64 rc, .int .i64 re, .int .i64 rq, .bool begun, .int .u8 orgs, .int .u8 voted, .int .u8 yes, .bool decided, .bool commit, .int .u8 learnt] 62)
      have hrb := heap_alloc_new wR (.cells #[.int .i64 rc, .int .i64 re, .int .i64 rq, .bool begun, .int .u8 orgs, .int .u8 voted, .int .u8 yes, .bool decided, .bool commit, .int .u8 learnt] 62)
      generalize (wR.alloc (.cells #[.int .i64 rc, .int .i64 re, .int .i64 rq, .bool begun, .int .u8 orgs, .int .u8 voted, .int .u8 yes, .bool decided, .bool commit, .int .u8 learnt] 62)) = w3 at *
      generalize wR.heap.size = rb at *
      have hRA := row_at (r := ⟨rc, re, rq, begun, orgs, voted, yes, decided, commit, learnt⟩) hrb
      have hG3 := hGT.kept hS id id (fun _ _ => id)
      have z5 := hS.cell z3' id
      have u0 := hS.cell y0' id
      have u1 := hS.cell y1' id
      have u2 := hS.cell y2' id
      have u3 := hS.cell y3' id
      have u4 := hS.cell y4' id
      have u5 := hS.cell y5' id
      have u6 := hS.cell y6' id
      have hB5 := hB3.trans (hS.below (Nat.le_trans (by rw [← HAB.out]; exact hB2.size) hBT.size) (fun _ h => h.elim))
      obtain ⟨g5, _, _⟩ := hG3.c
      clear y0' y1' y2' y3' y4' y5' y6' z3' hS hGT hBR hB2 hB3 hBT hrb hG3
      cases hcan : canB bad ⟨rc, re, rq, begun, orgs, voted, yes, decided, commit, learnt⟩ ⟨2, c, e, q, org, ayes, aorgs⟩
      all_goals
        rw [hcan] at HR
        have HC := Lib.hid hcan
        clear hcan
        go_wp2_with (go_at_call 49; refine (can2_is _ bad _ rb _ ⟨2, c, e, q, org, ayes, aorgs⟩ _ (by exact hRA) o0 o7 rfl HC.out).mono ?_; rintro r wC ⟨rfl, hBC⟩)
        go_ret
        exact ⟨by rw [HR.out]; rfl, by rw [HAB.out]; exact hB5.trans (hBC.mono (by rw [← HAB.out]; exact hB5.size))⟩

set_option maxRecDepth 100000 in
set_option maxHeartbeats 4000000 in
theorem may_3 (base gb mb : Nat) (rv : Value) (bad : Int) (rs : List Row) (c e q org : Int) (ayes : Bool) (aorgs : Int) (w : World) (h : GAt w base gb mb rv bad rs) (ha : ActWf ⟨3, c, e, q, org, ayes, aorgs⟩) :
    Calls Try.prog 42 #[.pointer (some ⟨gb, 0, none⟩), actV ⟨3, c, e, q, org, ayes, aorgs⟩] w fun e' w' => e' = .returned (.int .i64 (mayV bad rs ⟨3, c, e, q, org, ayes, aorgs⟩)) ∧ Below w.heap.size w w' := by
  obtain ⟨hk, ht, hg, ho0, ho1⟩ := ha
  obtain ⟨v, hv⟩ : ∃ v, mayV bad rs ⟨3, c, e, q, org, ayes, aorgs⟩ = v := ⟨_, rfl⟩
  rw [hv]
  dsimp only at hk ht hg ho0 ho1
  unfold actV
  dsimp only
  have hA := heap_alloc_new w (.cells #[.int .u8 3, .int .i64 c, .int .i64 e, .int .i64 q, .int .i64 org, .bool ayes, .int .u8 aorgs] 33)
  have oX := (Only.refl (fun _ : Nat => False) w).alloc (.cells #[.int .u8 3, .int .i64 c, .int .i64 e, .int .i64 q, .int .i64 org, .bool ayes, .int .u8 aorgs] 33)
  have hB : Below w.heap.size w (w.alloc (.cells #[.int .u8 3, .int .i64 c, .int .i64 e, .int .i64 q, .int .i64 org, .bool ayes, .int .u8 aorgs] 33)) := (Below.refl _ w).alloc (Nat.le_refl _) _
  have hX := h.kept oX id id (fun _ _ => id)
  have HV := Lib.hid hv
  have HT := Lib.hid ht
  clear hv ht h oX
  go_enter Try.func42, Try.ntmps42
  go_upto_region 3 with fail
  generalize (w.alloc (.cells #[.int .u8 3, .int .i64 c, .int .i64 e, .int .i64 q, .int .i64 org, .bool ayes, .int .u8 aorgs] 33)) = W at *
  generalize hab : w.heap.size = ab at *
  have HAB := Lib.hid hab
  clear hab
  have x0 : W.cell? ⟨ab, 0, none⟩ = some (.int .u8 3) := by simp [World.cell?, hA]
  have hlt : ab < W.heap.size := (Array.getElem?_eq_some_iff.1 hA).1
  have l1 := look_kinds (W.alloc (.map kindsEs 4)).drew W.heap.size 3 true (heap_alloc_new W _)
  have l2 := look_kinds ((W.alloc (.cells #[.bool false, .bool false, .bool false, .nilFunc, .nilFunc] 99)).alloc (.map kindsEs 4)).drew (W.heap.size + 1) 3 true (heap_at _ _ _ (by simp))
  have l3 := look_kinds ((W.alloc (.map kindsEs 4)).alloc (.cells #[.bool false, .bool false, .bool false, .nilFunc, .nilFunc] 99)).drew W.heap.size 3 true ((heap_alloc_old _ _ _ (by simp)).trans (heap_alloc_new W _))
  rw [if_pos rfl, show kindV 3 = (.agg #[.bool false, .bool false, .bool true, .func (.func 51) #[] #[], .func (.func 52) #[] #[]] : Value) from rfl, show kindIs 3 = true from rfl] at l1 l2 l3
  
  go_cut [5, 6] (fun v5 v6 wx => ∃ kb, v5 = .pointer (some ⟨kb, 0, none⟩) ∧ v6 = .bool true ∧ wx.heap[kb]? = some (.cells ((.agg #[.bool false, .bool false, .bool true, .func (.func 51) #[] #[], .func (.func 52) #[] #[]] : Value)).cells 99 (0, 0)) ∧ Only (fun _ => False) W wx)
  case first =>
    go_region_with (first | (go_at_call 43; refine (kinds_any _).mono ?_; rintro r wT ⟨rfl, rfl⟩))
    all_goals go_wp2_with fail
    all_goals go_meet
    all_goals (case rel => exact ⟨_, rfl, rfl, by first | exact heap_alloc_new _ _ | exact heap_at _ _ _ (by simp) | exact (heap_alloc_old _ _ _ (by simp)).trans (heap_alloc_new _ _), ((((Only.refl (fun _ : Nat => False) W).alloc _).alloc _).drew)⟩)
  case rest =>
    obtain ⟨kb, rfl, rfl, hkb, hW⟩ := hcut
    obtain ⟨w2, rfl⟩ : ∃ w2 : World, w2 = wc := ⟨_, rfl⟩
    have hA2 := hW.obj hA id
    have hG := hX.kept hW id id (fun _ _ => id)
    have hBw : ab ≤ W.heap.size := Nat.le_of_lt hlt
    have hB2 : Below ab w w2 := hB.trans (hW.below hBw (fun _ h => h.elim))
    clear hA x0 hX hW hB l1 l2 l3 hBw hlt
    have y0 : w2.cell? ⟨ab, 0, none⟩ = some (.int .u8 3) := by simp [World.cell?, hA2]
    have y1 : w2.cell? ⟨ab, 1, none⟩ = some (.int .i64 c) := by simp [World.cell?, hA2]
    have y2 : w2.cell? ⟨ab, 2, none⟩ = some (.int .i64 e) := by simp [World.cell?, hA2]
    have y3 : w2.cell? ⟨ab, 3, none⟩ = some (.int .i64 q) := by simp [World.cell?, hA2]
    have y4 : w2.cell? ⟨ab, 4, none⟩ = some (.int .i64 org) := by simp [World.cell?, hA2]
    have y5 : w2.cell? ⟨ab, 5, none⟩ = some (.bool ayes) := by simp [World.cell?, hA2]
    have y6 : w2.cell? ⟨ab, 6, none⟩ = some (.int .u8 aorgs) := by simp [World.cell?, hA2]
    have z0 : w2.cell? ⟨kb, 0, none⟩ = some (.bool false) := by simp [World.cell?, hkb, Value.cells]
    have z1 : w2.cell? ⟨kb, 1, none⟩ = some (.bool false) := by simp [World.cell?, hkb, Value.cells]
    have z2 : w2.cell? ⟨kb, 2, none⟩ = some (.bool true) := by simp [World.cell?, hkb, Value.cells]
    have z3 : w2.cell? ⟨kb, 3, none⟩ = some (.func (.func 51) #[] #[]) := by simp [World.cell?, hkb, Value.cells]
    have z4 : w2.cell? ⟨kb, 4, none⟩ = some (.func (.func 52) #[] #[]) := by simp [World.cell?, hkb, Value.cells]
    obtain ⟨g0, _, _⟩ := hG.c
    cases hm : mayBeB bad ⟨3, c, e, q, org, ayes, aorgs⟩ false false true
    · have HR := Lib.hid (show v = 2 by rw [← HV.out, mayV, if_neg]; rw [argB]; show ¬ (kindIs 3 && mayBeB bad ⟨3, c, e, q, org, ayes, aorgs⟩ (koB 3) (krB 3) (kyB 3)) = true; rw [show mayBeB bad ⟨3, c, e, q, org, ayes, aorgs⟩ (koB 3) (krB 3) (kyB 3) = false from hm]; simp)
      have HM := Lib.hid hm
      clear hm hA2 hkb
      go_wp2_with (go_at_call 45; refine (mayBe_is false gb bad ⟨3, c, e, q, org, ayes, aorgs⟩ false false true 51 52 HM.out _ (by exact g0) ho0 ho1).mono ?_; rintro r wT ⟨rfl, hBT⟩)
      go_ret
      exact ⟨by rw [HR.out]; rfl, by rw [HAB.out]; exact hB2.trans (hBT.mono (by rw [← HAB.out]; exact hB2.size))⟩
    · have HM := Lib.hid hm
      have HR := Lib.hid (show v = if canB bad (rowOf rs (c, e, q)) ⟨3, c, e, q, org, ayes, aorgs⟩ = true then 0 else 290 by rw [← HV.out, mayV, if_pos]; rfl; rw [argB]; show (kindIs 3 && mayBeB bad ⟨3, c, e, q, org, ayes, aorgs⟩ (koB 3) (krB 3) (kyB 3)) = true; rw [show mayBeB bad ⟨3, c, e, q, org, ayes, aorgs⟩ (koB 3) (krB 3) (kyB 3) = true from hm]; rfl)
      clear hm
      go_upto_region 6 with (go_at_call 45; refine (mayBe_is true gb bad ⟨3, c, e, q, org, ayes, aorgs⟩ false false true 51 52 HM.out _ (by exact g0) ho0 ho1).mono ?_; rintro r wT ⟨rfl, hBT⟩)
      have hT := Only.of_below hBT
      have hGT := hG.kept hT id id (fun _ _ => id)
      have hB3 := hB2.trans (hBT.mono (by rw [← HAB.out]; exact hB2.size))
      have y0' := hT.cell y0 id
      have y1' := hT.cell y1 id
      have y2' := hT.cell y2 id
      have y3' := hT.cell y3 id
      have y4' := hT.cell y4 id
      have y5' := hT.cell y5 id
      have y6' := hT.cell y6 id
      have z3' := hT.cell z3 id
      clear y0 y1 y2 y3 y4 y5 y6 z0 z1 z2 z3 z4 g0 hT hG hA2 hkb
      obtain ⟨⟨rc, re, rq, begun, orgs, voted, yes, decided, commit, learnt⟩, hrow⟩ : ∃ r, rowOf rs (c, e, q) = r := ⟨_, rfl⟩
      have HW := Lib.hid hrow
      rw [hrow] at HR
      clear hrow
      go_upto_region 7 with (go_at_call 46; refine (row_any base gb mb rv bad rs (c, e, q) _ (by exact hGT) HT.out).mono ?_; rw [HW.out]; rintro r wR ⟨rfl, hBR⟩; unfold rowV; dsimp only)
      have hS := (Only.of_below hBR).alloc (.cells #[.int .i64 rc, .int .i64 re, .int .i64 rq, .bool begun, .int .u8 orgs, .int .u8 voted, .int .u8 yes, .bool decided, .bool commit, .int .u8 learnt] 62)
      have hrb := heap_alloc_new wR (.cells #[.int .i64 rc, .int .i64 re, .int .i64 rq, .bool begun, .int .u8 orgs, .int .u8 voted, .int .u8 yes, .bool decided, .bool commit, .int .u8 learnt] 62)
      generalize (wR.alloc (.cells #[.int .i64 rc, .int .i64 re, .int .i64 rq, .bool begun, .int .u8 orgs, .int .u8 voted, .int .u8 yes, .bool decided, .bool commit, .int .u8 learnt] 62)) = w3 at *
      generalize wR.heap.size = rb at *
      have hRA := row_at (r := ⟨rc, re, rq, begun, orgs, voted, yes, decided, commit, learnt⟩) hrb
      have hG3 := hGT.kept hS id id (fun _ _ => id)
      have z5 := hS.cell z3' id
      have u0 := hS.cell y0' id
      have u1 := hS.cell y1' id
      have u2 := hS.cell y2' id
      have u3 := hS.cell y3' id
      have u4 := hS.cell y4' id
      have u5 := hS.cell y5' id
      have u6 := hS.cell y6' id
      have hB5 := hB3.trans (hS.below (Nat.le_trans (by rw [← HAB.out]; exact hB2.size) hBT.size) (fun _ h => h.elim))
      obtain ⟨g5, _, _⟩ := hG3.c
      clear y0' y1' y2' y3' y4' y5' y6' z3' hS hGT hBR hB2 hB3 hBT hrb hG3
      cases hcan : canB bad ⟨rc, re, rq, begun, orgs, voted, yes, decided, commit, learnt⟩ ⟨3, c, e, q, org, ayes, aorgs⟩
      all_goals
        rw [hcan] at HR
        have HC := Lib.hid hcan
        clear hcan
        go_wp2_with (go_at_call 51; refine (can3_is _ bad gb rb _ ⟨3, c, e, q, org, ayes, aorgs⟩ _ (by exact hRA) (by exact g5) rfl HC.out).mono ?_; rintro r wC ⟨rfl, hBC⟩)
        go_ret
        exact ⟨by rw [HR.out]; rfl, by rw [HAB.out]; exact hB5.trans (hBC.mono (by rw [← HAB.out]; exact hB5.size))⟩

set_option maxRecDepth 100000 in
set_option maxHeartbeats 4000000 in
theorem may_4 (base gb mb : Nat) (rv : Value) (bad : Int) (rs : List Row) (c e q org : Int) (ayes : Bool) (aorgs : Int) (w : World) (h : GAt w base gb mb rv bad rs) (ha : ActWf ⟨4, c, e, q, org, ayes, aorgs⟩) :
    Calls Try.prog 42 #[.pointer (some ⟨gb, 0, none⟩), actV ⟨4, c, e, q, org, ayes, aorgs⟩] w fun e' w' => e' = .returned (.int .i64 (mayV bad rs ⟨4, c, e, q, org, ayes, aorgs⟩)) ∧ Below w.heap.size w w' := by
  obtain ⟨hk, ht, hg, ho0, ho1⟩ := ha
  obtain ⟨v, hv⟩ : ∃ v, mayV bad rs ⟨4, c, e, q, org, ayes, aorgs⟩ = v := ⟨_, rfl⟩
  rw [hv]
  dsimp only at hk ht hg ho0 ho1
  unfold actV
  dsimp only
  have hA := heap_alloc_new w (.cells #[.int .u8 4, .int .i64 c, .int .i64 e, .int .i64 q, .int .i64 org, .bool ayes, .int .u8 aorgs] 33)
  have oX := (Only.refl (fun _ : Nat => False) w).alloc (.cells #[.int .u8 4, .int .i64 c, .int .i64 e, .int .i64 q, .int .i64 org, .bool ayes, .int .u8 aorgs] 33)
  have hB : Below w.heap.size w (w.alloc (.cells #[.int .u8 4, .int .i64 c, .int .i64 e, .int .i64 q, .int .i64 org, .bool ayes, .int .u8 aorgs] 33)) := (Below.refl _ w).alloc (Nat.le_refl _) _
  have hX := h.kept oX id id (fun _ _ => id)
  have HV := Lib.hid hv
  have HT := Lib.hid ht
  clear hv ht h oX
  go_enter Try.func42, Try.ntmps42
  go_upto_region 3 with fail
  generalize (w.alloc (.cells #[.int .u8 4, .int .i64 c, .int .i64 e, .int .i64 q, .int .i64 org, .bool ayes, .int .u8 aorgs] 33)) = W at *
  generalize hab : w.heap.size = ab at *
  have HAB := Lib.hid hab
  clear hab
  have x0 : W.cell? ⟨ab, 0, none⟩ = some (.int .u8 4) := by simp [World.cell?, hA]
  have hlt : ab < W.heap.size := (Array.getElem?_eq_some_iff.1 hA).1
  have l1 := look_kinds (W.alloc (.map kindsEs 4)).drew W.heap.size 4 true (heap_alloc_new W _)
  have l2 := look_kinds ((W.alloc (.cells #[.bool false, .bool false, .bool false, .nilFunc, .nilFunc] 99)).alloc (.map kindsEs 4)).drew (W.heap.size + 1) 4 true (heap_at _ _ _ (by simp))
  have l3 := look_kinds ((W.alloc (.map kindsEs 4)).alloc (.cells #[.bool false, .bool false, .bool false, .nilFunc, .nilFunc] 99)).drew W.heap.size 4 true ((heap_alloc_old _ _ _ (by simp)).trans (heap_alloc_new W _))
  rw [if_pos rfl, show kindV 4 = (.agg #[.bool false, .bool true, .bool true, .func (.func 53) #[] #[], .func (.func 54) #[] #[]] : Value) from rfl, show kindIs 4 = true from rfl] at l1 l2 l3
  
  go_cut [5, 6] (fun v5 v6 wx => ∃ kb, v5 = .pointer (some ⟨kb, 0, none⟩) ∧ v6 = .bool true ∧ wx.heap[kb]? = some (.cells ((.agg #[.bool false, .bool true, .bool true, .func (.func 53) #[] #[], .func (.func 54) #[] #[]] : Value)).cells 99 (0, 0)) ∧ Only (fun _ => False) W wx)
  case first =>
    go_region_with (first | (go_at_call 43; refine (kinds_any _).mono ?_; rintro r wT ⟨rfl, rfl⟩))
    all_goals go_wp2_with fail
    all_goals go_meet
    all_goals (case rel => exact ⟨_, rfl, rfl, by first | exact heap_alloc_new _ _ | exact heap_at _ _ _ (by simp) | exact (heap_alloc_old _ _ _ (by simp)).trans (heap_alloc_new _ _), ((((Only.refl (fun _ : Nat => False) W).alloc _).alloc _).drew)⟩)
  case rest =>
    obtain ⟨kb, rfl, rfl, hkb, hW⟩ := hcut
    obtain ⟨w2, rfl⟩ : ∃ w2 : World, w2 = wc := ⟨_, rfl⟩
    have hA2 := hW.obj hA id
    have hG := hX.kept hW id id (fun _ _ => id)
    have hBw : ab ≤ W.heap.size := Nat.le_of_lt hlt
    have hB2 : Below ab w w2 := hB.trans (hW.below hBw (fun _ h => h.elim))
    clear hA x0 hX hW hB l1 l2 l3 hBw hlt
    have y0 : w2.cell? ⟨ab, 0, none⟩ = some (.int .u8 4) := by simp [World.cell?, hA2]
    have y1 : w2.cell? ⟨ab, 1, none⟩ = some (.int .i64 c) := by simp [World.cell?, hA2]
    have y2 : w2.cell? ⟨ab, 2, none⟩ = some (.int .i64 e) := by simp [World.cell?, hA2]
    have y3 : w2.cell? ⟨ab, 3, none⟩ = some (.int .i64 q) := by simp [World.cell?, hA2]
    have y4 : w2.cell? ⟨ab, 4, none⟩ = some (.int .i64 org) := by simp [World.cell?, hA2]
    have y5 : w2.cell? ⟨ab, 5, none⟩ = some (.bool ayes) := by simp [World.cell?, hA2]
    have y6 : w2.cell? ⟨ab, 6, none⟩ = some (.int .u8 aorgs) := by simp [World.cell?, hA2]
    have z0 : w2.cell? ⟨kb, 0, none⟩ = some (.bool false) := by simp [World.cell?, hkb, Value.cells]
    have z1 : w2.cell? ⟨kb, 1, none⟩ = some (.bool true) := by simp [World.cell?, hkb, Value.cells]
    have z2 : w2.cell? ⟨kb, 2, none⟩ = some (.bool true) := by simp [World.cell?, hkb, Value.cells]
    have z3 : w2.cell? ⟨kb, 3, none⟩ = some (.func (.func 53) #[] #[]) := by simp [World.cell?, hkb, Value.cells]
    have z4 : w2.cell? ⟨kb, 4, none⟩ = some (.func (.func 54) #[] #[]) := by simp [World.cell?, hkb, Value.cells]
    obtain ⟨g0, _, _⟩ := hG.c
    cases hm : mayBeB bad ⟨4, c, e, q, org, ayes, aorgs⟩ false true true
    · have HR := Lib.hid (show v = 2 by rw [← HV.out, mayV, if_neg]; rw [argB]; show ¬ (kindIs 4 && mayBeB bad ⟨4, c, e, q, org, ayes, aorgs⟩ (koB 4) (krB 4) (kyB 4)) = true; rw [show mayBeB bad ⟨4, c, e, q, org, ayes, aorgs⟩ (koB 4) (krB 4) (kyB 4) = false from hm]; simp)
      have HM := Lib.hid hm
      clear hm hA2 hkb
      go_wp2_with (go_at_call 45; refine (mayBe_is false gb bad ⟨4, c, e, q, org, ayes, aorgs⟩ false true true 53 54 HM.out _ (by exact g0) ho0 ho1).mono ?_; rintro r wT ⟨rfl, hBT⟩)
      go_ret
      exact ⟨by rw [HR.out]; rfl, by rw [HAB.out]; exact hB2.trans (hBT.mono (by rw [← HAB.out]; exact hB2.size))⟩
    · have HM := Lib.hid hm
      have HR := Lib.hid (show v = if canB bad (rowOf rs (c, e, q)) ⟨4, c, e, q, org, ayes, aorgs⟩ = true then 0 else 290 by rw [← HV.out, mayV, if_pos]; rfl; rw [argB]; show (kindIs 4 && mayBeB bad ⟨4, c, e, q, org, ayes, aorgs⟩ (koB 4) (krB 4) (kyB 4)) = true; rw [show mayBeB bad ⟨4, c, e, q, org, ayes, aorgs⟩ (koB 4) (krB 4) (kyB 4) = true from hm]; rfl)
      obtain ⟨o0, o7⟩ := mayBe_org hm
      dsimp only at o0 o7
      clear hm
      go_upto_region 6 with (go_at_call 45; refine (mayBe_is true gb bad ⟨4, c, e, q, org, ayes, aorgs⟩ false true true 53 54 HM.out _ (by exact g0) ho0 ho1).mono ?_; rintro r wT ⟨rfl, hBT⟩)
      have hT := Only.of_below hBT
      have hGT := hG.kept hT id id (fun _ _ => id)
      have hB3 := hB2.trans (hBT.mono (by rw [← HAB.out]; exact hB2.size))
      have y0' := hT.cell y0 id
      have y1' := hT.cell y1 id
      have y2' := hT.cell y2 id
      have y3' := hT.cell y3 id
      have y4' := hT.cell y4 id
      have y5' := hT.cell y5 id
      have y6' := hT.cell y6 id
      have z3' := hT.cell z3 id
      clear y0 y1 y2 y3 y4 y5 y6 z0 z1 z2 z3 z4 g0 hT hG hA2 hkb
      obtain ⟨⟨rc, re, rq, begun, orgs, voted, yes, decided, commit, learnt⟩, hrow⟩ : ∃ r, rowOf rs (c, e, q) = r := ⟨_, rfl⟩
      have HW := Lib.hid hrow
      rw [hrow] at HR
      clear hrow
      go_upto_region 7 with (go_at_call 46; refine (row_any base gb mb rv bad rs (c, e, q) _ (by exact hGT) HT.out).mono ?_; rw [HW.out]; rintro r wR ⟨rfl, hBR⟩; unfold rowV; dsimp only)
      have hS := (Only.of_below hBR).alloc (.cells #[.int .i64 rc, .int .i64 re, .int .i64 rq, .bool begun, .int .u8 orgs, .int .u8 voted, .int .u8 yes, .bool decided, .bool commit, .int .u8 learnt] 62)
      have hrb := heap_alloc_new wR (.cells #[.int .i64 rc, .int .i64 re, .int .i64 rq, .bool begun, .int .u8 orgs, .int .u8 voted, .int .u8 yes, .bool decided, .bool commit, .int .u8 learnt] 62)
      generalize (wR.alloc (.cells #[.int .i64 rc, .int .i64 re, .int .i64 rq, .bool begun, .int .u8 orgs, .int .u8 voted, .int .u8 yes, .bool decided, .bool commit, .int .u8 learnt] 62)) = w3 at *
      generalize wR.heap.size = rb at *
      have hRA := row_at (r := ⟨rc, re, rq, begun, orgs, voted, yes, decided, commit, learnt⟩) hrb
      have hG3 := hGT.kept hS id id (fun _ _ => id)
      have z5 := hS.cell z3' id
      have u0 := hS.cell y0' id
      have u1 := hS.cell y1' id
      have u2 := hS.cell y2' id
      have u3 := hS.cell y3' id
      have u4 := hS.cell y4' id
      have u5 := hS.cell y5' id
      have u6 := hS.cell y6' id
      have hB5 := hB3.trans (hS.below (Nat.le_trans (by rw [← HAB.out]; exact hB2.size) hBT.size) (fun _ h => h.elim))
      obtain ⟨g5, _, _⟩ := hG3.c
      clear y0' y1' y2' y3' y4' y5' y6' z3' hS hGT hBR hB2 hB3 hBT hrb hG3
      cases hcan : canB bad ⟨rc, re, rq, begun, orgs, voted, yes, decided, commit, learnt⟩ ⟨4, c, e, q, org, ayes, aorgs⟩
      all_goals
        rw [hcan] at HR
        have HC := Lib.hid hcan
        clear hcan
        go_wp2_with (go_at_call 53; refine (can4_is _ bad _ rb _ ⟨4, c, e, q, org, ayes, aorgs⟩ _ (by exact hRA) o0 o7 rfl HC.out).mono ?_; rintro r wC ⟨rfl, hBC⟩)
        go_ret
        exact ⟨by rw [HR.out]; rfl, by rw [HAB.out]; exact hB5.trans (hBC.mono (by rw [← HAB.out]; exact hB5.size))⟩

set_option maxRecDepth 100000 in
set_option maxHeartbeats 4000000 in
theorem may_0 (base gb mb : Nat) (rv : Value) (bad : Int) (rs : List Row) (kind : Int) (c e q org : Int) (ayes : Bool) (aorgs : Int) (w : World) (h : GAt w base gb mb rv bad rs) (hkz : kindIs kind = false) (ha : ActWf ⟨kind, c, e, q, org, ayes, aorgs⟩) :
    Calls Try.prog 42 #[.pointer (some ⟨gb, 0, none⟩), actV ⟨kind, c, e, q, org, ayes, aorgs⟩] w fun e' w' => e' = .returned (.int .i64 (mayV bad rs ⟨kind, c, e, q, org, ayes, aorgs⟩)) ∧ Below w.heap.size w w' := by
  obtain ⟨hk, ht, hg, ho0, ho1⟩ := ha
  have hks := hkz
  have hkv : kindV kind = .agg #[.bool false, .bool false, .bool false, .nilFunc, .nilFunc] := by unfold kindIs at hkz; simp at hkz; unfold kindV; rw [if_neg (by omega), if_neg (by omega), if_neg (by omega), if_neg (by omega)]
  obtain ⟨v, hv⟩ : ∃ v, mayV bad rs ⟨kind, c, e, q, org, ayes, aorgs⟩ = v := ⟨_, rfl⟩
  rw [hv]
  dsimp only at hk ht hg ho0 ho1
  unfold actV
  dsimp only
  have hA := heap_alloc_new w (.cells #[.int .u8 kind, .int .i64 c, .int .i64 e, .int .i64 q, .int .i64 org, .bool ayes, .int .u8 aorgs] 33)
  have oX := (Only.refl (fun _ : Nat => False) w).alloc (.cells #[.int .u8 kind, .int .i64 c, .int .i64 e, .int .i64 q, .int .i64 org, .bool ayes, .int .u8 aorgs] 33)
  have hB : Below w.heap.size w (w.alloc (.cells #[.int .u8 kind, .int .i64 c, .int .i64 e, .int .i64 q, .int .i64 org, .bool ayes, .int .u8 aorgs] 33)) := (Below.refl _ w).alloc (Nat.le_refl _) _
  have hX := h.kept oX id id (fun _ _ => id)
  have HV := Lib.hid hv
  have HT := Lib.hid ht
  clear hv ht h oX
  go_enter Try.func42, Try.ntmps42
  go_upto_region 3 with fail
  generalize (w.alloc (.cells #[.int .u8 kind, .int .i64 c, .int .i64 e, .int .i64 q, .int .i64 org, .bool ayes, .int .u8 aorgs] 33)) = W at *
  generalize hab : w.heap.size = ab at *
  have HAB := Lib.hid hab
  clear hab
  have x0 : W.cell? ⟨ab, 0, none⟩ = some (.int .u8 kind) := by simp [World.cell?, hA]
  have hlt : ab < W.heap.size := (Array.getElem?_eq_some_iff.1 hA).1
  have l1 := look_kinds (W.alloc (.map kindsEs 4)).drew W.heap.size kind true (heap_alloc_new W _)
  have l2 := look_kinds ((W.alloc (.cells #[.bool false, .bool false, .bool false, .nilFunc, .nilFunc] 99)).alloc (.map kindsEs 4)).drew (W.heap.size + 1) kind true (heap_at _ _ _ (by simp))
  have l3 := look_kinds ((W.alloc (.map kindsEs 4)).alloc (.cells #[.bool false, .bool false, .bool false, .nilFunc, .nilFunc] 99)).drew W.heap.size kind true ((heap_alloc_old _ _ _ (by simp)).trans (heap_alloc_new W _))
  rw [if_pos rfl, show kindV kind = (.agg #[.bool false, .bool false, .bool false, .nilFunc, .nilFunc] : Value) from hkv, show kindIs kind = false from hks] at l1 l2 l3
  clear hkv hks
  go_cut [5, 6] (fun v5 v6 wx => ∃ kb, v5 = .pointer (some ⟨kb, 0, none⟩) ∧ v6 = .bool false ∧ wx.heap[kb]? = some (.cells ((.agg #[.bool false, .bool false, .bool false, .nilFunc, .nilFunc] : Value)).cells 99 (0, 0)) ∧ Only (fun _ => False) W wx)
  case first =>
    go_region_with (first | (go_at_call 43; refine (kinds_any _).mono ?_; rintro r wT ⟨rfl, rfl⟩))
    all_goals go_wp2_with fail
    all_goals go_meet
    all_goals (case rel => exact ⟨_, rfl, rfl, by first | exact heap_alloc_new _ _ | exact heap_at _ _ _ (by simp) | exact (heap_alloc_old _ _ _ (by simp)).trans (heap_alloc_new _ _), ((((Only.refl (fun _ : Nat => False) W).alloc _).alloc _).drew)⟩)
  case rest =>
    obtain ⟨kb, rfl, rfl, hkb, hW⟩ := hcut
    obtain ⟨w2, rfl⟩ : ∃ w2 : World, w2 = wc := ⟨_, rfl⟩
    have hA2 := hW.obj hA id
    have hG := hX.kept hW id id (fun _ _ => id)
    have hBw : ab ≤ W.heap.size := Nat.le_of_lt hlt
    have hB2 : Below ab w w2 := hB.trans (hW.below hBw (fun _ h => h.elim))
    clear hA x0 hX hW hB l1 l2 l3 hBw hlt
    have y0 : w2.cell? ⟨ab, 0, none⟩ = some (.int .u8 kind) := by simp [World.cell?, hA2]
    have y1 : w2.cell? ⟨ab, 1, none⟩ = some (.int .i64 c) := by simp [World.cell?, hA2]
    have y2 : w2.cell? ⟨ab, 2, none⟩ = some (.int .i64 e) := by simp [World.cell?, hA2]
    have y3 : w2.cell? ⟨ab, 3, none⟩ = some (.int .i64 q) := by simp [World.cell?, hA2]
    have y4 : w2.cell? ⟨ab, 4, none⟩ = some (.int .i64 org) := by simp [World.cell?, hA2]
    have y5 : w2.cell? ⟨ab, 5, none⟩ = some (.bool ayes) := by simp [World.cell?, hA2]
    have y6 : w2.cell? ⟨ab, 6, none⟩ = some (.int .u8 aorgs) := by simp [World.cell?, hA2]
    have HR := Lib.hid (show v = 2 by rw [← HV.out, mayV, if_neg]; rw [argB, hkz]; simp)
    clear hkz
    go_wp2_with fail
    go_ret
    exact ⟨by rw [HR.out]; rfl, by rw [HAB.out]; exact hB2⟩

theorem may_any (base gb mb : Nat) (rv : Value) (bad : Int) (rs : List Row) (a : Act') (w : World) (h : GAt w base gb mb rv bad rs) (ha : ActWf a) :
    Calls Try.prog 42 #[.pointer (some ⟨gb, 0, none⟩), actV a] w fun e' w' => e' = .returned (.int .i64 (mayV bad rs a)) ∧ Below w.heap.size w w' := by
  obtain ⟨kind, c, e, q, org, ayes, aorgs⟩ := a
  by_cases h1 : kind = 1
  · subst h1; exact may_1 base gb mb rv bad rs c e q org ayes aorgs w h ha
  · by_cases h2 : kind = 2
    · subst h2; exact may_2 base gb mb rv bad rs c e q org ayes aorgs w h ha
    · by_cases h3 : kind = 3
      · subst h3; exact may_3 base gb mb rv bad rs c e q org ayes aorgs w h ha
      · by_cases h4 : kind = 4
        · subst h4; exact may_4 base gb mb rv bad rs c e q org ayes aorgs w h ha
        · exact may_0 base gb mb rv bad rs kind c e q org ayes aorgs w h (by simp [kindIs]; omega) ha
theorem may_is (v : Int) (base gb mb : Nat) (rv : Value) (bad : Int) (rs : List Row) (a : Act') (hv : mayV bad rs a = v) (w : World) (h : GAt w base gb mb rv bad rs) (ha : ActWf a) :
    Calls Try.prog 42 #[.pointer (some ⟨gb, 0, none⟩), actV a] w fun e' w' => e' = .returned (.int .i64 v) ∧ Below w.heap.size w w' := hv ▸ may_any base gb mb rv bad rs a w h ha
end Go.Proofs.Ytkjfagchololbaa
