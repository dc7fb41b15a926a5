/- The walk of the ledger's Apply (printed by wip/gen_lapply.py). -/
import Derived.Test.YtkjfagchololbaaLDo
import Derived.Deep.AppendLies
import Derived.Deep.RegionLaw
import Derived.KernelRfl
namespace Go.Proofs.Ytkjfagchololbaa
open Go.RowKit

def doR (r : Row) (a : Act') : Row := if a.kind = 1 then beginR r a else if a.kind = 2 then voteR r a else if a.kind = 3 then decideR r a else learnR r a
def putR (rs : List Row) (a : Act') : List Row := match placeOf rs a.t with | some k => rs.set k (doR (rs.getD k (freshR a.t)) a) | none => rs ++ [doR (freshR a.t) a]
def applyR (bad : Int) (rs : List Row) (a : Act') : List Row := if mayV bad rs a = 0 then putR rs a else rs

theorem infoRow : (Try.prog.info? 62).map (fun i => (i.zero, i.size, i.bytes)) = some (some (rowV (freshR (0, 0, 0))), 10, 32) := by kernel_rfl

theorem wrap8 (n : Int) : 0 ≤ IntKind.u8.wrap n ∧ IntKind.u8.wrap n ≤ 255 := by rw [IntKind.wrap_u8]; omega
theorem addB_bd (s k : Int) : 0 ≤ addB s k ∧ addB s k ≤ 255 := by
  unfold addB bits
  exact wrap8 _
theorem doR_t (r : Row) (a : Act') : (doR r a).t = r.t := by
  unfold doR
  split
  · rfl
  · split
    · rfl
    · split <;> rfl
theorem doR_ok {r : Row} {a : Act'} (h : RowOk r) (ha : 0 ≤ a.orgs ∧ a.orgs ≤ 255) : RowOk (doR r a) := by
  unfold doR
  split
  · exact ⟨h.t, ha, h.v, h.y, h.l⟩
  · split
    · refine ⟨h.t, h.o, addB_bd _ _, ?_, h.l⟩
      show 0 ≤ (if a.yes = true then addB r.yes a.org else r.yes) ∧ _
      unfold voteR
      dsimp only
      split
      · exact addB_bd _ _
      · exact h.y
    · split
      · exact ⟨h.t, h.o, h.v, h.y, h.l⟩
      · exact ⟨h.t, h.o, h.v, h.y, addB_bd _ _⟩
theorem freshR_ok {t : Txn} (h : wfT t) : RowOk (freshR t) := by
  refine ⟨h, ?_, ?_, ?_, ?_⟩ <;> exact ⟨by show (0 : Int) ≤ 0; omega, by show (0 : Int) ≤ 255; omega⟩
theorem freshR_t (t : Txn) : (freshR t).t = t := rfl

/-- What Apply leaves. -/
def ApPost (v : Int) (w : World) (base gb mb : Nat) (rv : Value) (bad : Int) (rs' : List Row) (e : Ending) (w' : World) : Prop :=
  e = .returned (.int .i64 v) ∧ (∃ rv', GAt w' base gb mb rv' bad rs') ∧ Only (fun j => j = gb ∨ j = mb ∨ rv.ownBlock = some j) w w'
/-- .. and the rows' block is the elder one, or new. -/
def ApOwn (v : Int) (w : World) (base gb mb : Nat) (rv : Value) (bad : Int) (rs' : List Row) (e : Ending) (w' : World) : Prop :=
  e = .returned (.int .i64 v) ∧ (∃ rv', GAt w' base gb mb rv' bad rs' ∧ ∀ k, rv'.ownBlock = some k → rv.ownBlock = some k ∨ w.heap.size ≤ k) ∧ Only (fun j => j = gb ∨ j = mb ∨ rv.ownBlock = some j) w w'

theorem map_set_t : ∀ (rs : List Row) (k : Nat) (r r' : Row), rs[k]? = some r → r'.t = r.t → (rs.set k r').map Row.t = rs.map Row.t
  | [], _, _, _, h, _ => by cases h
  | x :: rs, 0, r, r', h, ht => by cases h; simp [ht]
  | x :: rs, k + 1, r, r', h, ht => by
    rw [List.set_cons_succ, List.map_cons, List.map_cons, map_set_t rs k r r' (by simpa using h) ht]
theorem entries_t : ∀ (rs rs' : List Row) (i : Nat), rs.map Row.t = rs'.map Row.t → entriesFrom i rs = entriesFrom i rs'
  | [], [], _, _ => rfl
  | [], _ :: _, _, h => by simp at h
  | _ :: _, [], _, h => by simp at h
  | x :: rs, y :: rs', i, h => by
    simp only [List.map_cons, List.cons.injEq] at h
    simp only [entriesFrom]
    rw [h.1, entries_t rs rs' (i + 1) h.2]

/-- The block of a row is no map. -/
theorem map_row {w : World} {base e size : Nat} {rv : Value} {n : Nat} {xs : List Value} {mb : Nat} {es : Array MapEntry} {cl : Nat} (h : w.ownsRow base e size rv n xs) (hm : w.heap[mb]? = some (.map es cl)) : ∀ j, rv.ownBlock = some j → ¬ j = mb := by
  rintro j hj rfl
  rcases h.2 with ⟨rfl, _⟩ | ⟨g', cap', cur, rfl, _, hg, _⟩
  · simp [Value.ownBlock] at hj
  · simp [Value.ownBlock] at hj
    subst hj
    rw [hg] at hm
    cases hm
theorem put_at (w : World) (mb : Nat) (o : Obj) (h : mb < w.heap.size) : (ChangeMaps.setBlock w.drew mb o).heap[mb]? = some o := by
  simp only [ChangeMaps.setBlock]
  exact Array.getElem?_setIfInBounds_self_of_lt h
theorem put_only (w : World) (mb : Nat) (o : Obj) : Only (fun j => j = mb) w (ChangeMaps.setBlock w.drew mb o) := by
  refine ⟨rfl, rfl, rfl, ?_, fun j _ hj => ?_⟩
  · simp only [ChangeMaps.setBlock]; rw [Array.size_setIfInBounds]; exact Nat.le_refl _
  simp only [ChangeMaps.setBlock]
  rw [Array.getElem?_setIfInBounds_ne (fun e => hj e.symm)]
  rfl

/-- A ledger whose row k was put anew. -/
theorem GAt.set {w w' : World} {base gb mb : Nat} {rv : Value} {bad : Int} {rs : List Row} {g k : Nat} {r r' : Row} (h : GAt w base gb mb rv bad rs) (hr : rs[k]? = some r) (ht : r'.t = r.t) (hok : RowOk r') (hR : RowIn w' base rv (rs.set k r') g k r') (ho : Only (fun j => j = g) w w') :
    GAt w' base gb mb rv bad (rs.set k r') := by
  have hgo := hR.g
  have n1 : ¬ gb = g := Ne.symm (row_ne h.rows h.cells (by decide) g hgo)
  have n2 : ¬ mb = g := fun e => map_row h.rows h.map g hgo e.symm
  refine ⟨ho.obj h.cells n1, ?_, ?_, h.low, ?_, ?_, ?_⟩
  · have := hR.own
    rwa [List.length_set] at this ⊢
  · have := ho.obj h.map n2
    unfold TMap
    rw [List.length_set, entries_t _ _ 0 (map_set_t rs k r r' hr ht)]
    exact this
  · rw [map_set_t rs k r r' hr ht]; exact h.nodup
  · intro x hx
    rcases List.mem_or_eq_of_mem_set hx with hx | rfl
    · exact h.ok x hx
    · exact hok
  · rw [List.length_set]; exact h.few

theorem old_post {w : World} (W : World) {w' : World} {base gb mb : Nat} {bad : Int} {rs : List Row} {g k cap : Nat} {r r' : Row} {a : Act'} (hr : rs[k]? = some r) (ha : ActWf a) (hd : doR r a = r')
    (hG : GAt W base gb mb (.slice (some ⟨g, 0, none⟩) rs.length cap) bad rs) (oW : Only (fun _ => False) w W) (hR : RowIn w' base (.slice (some ⟨g, 0, none⟩) rs.length cap) (rs.set k r') g k r') (ho : Only (fun j => j = g) W w') :
    ApOwn 0 w base gb mb (.slice (some ⟨g, 0, none⟩) rs.length cap) bad (rs.set k r') (.returned (.int .i64 0)) w' := by
  subst hd
  exact ⟨rfl, ⟨_, hG.set hr (doR_t _ _) (doR_ok (hG.ok r (List.mem_of_getElem? hr)) ha.o) hR ho, fun _ e => .inl e⟩, (oW.shrink (fun _ _ e => e.elim)).trans (ho.shrink (fun j _ e => by subst e; exact .inr (.inr rfl)))⟩

theorem set_cells {w : World} {p o : Nat} {cs : Array Value} {t : TypeId} {v : Value} (h : w.heap[p]? = some (.cells cs t (0, 0))) : (w.setCell ⟨p, o, none⟩ v).heap[p]? = some (.cells (cs.setIfInBounds o v) t (0, 0)) := by
  obtain ⟨hlt, hk⟩ := Array.getElem?_eq_some_iff.1 h
  show (w.heap.modify p _)[p]? = _
  rw [Array.getElem?_eq_getElem (by rw [Array.size_modify]; exact hlt), Array.getElem_modify_self, hk]
  first | rfl | simp

/-- The ledger's block, and its rows, behind an append. -/
structure NewAt (w w' : World) (base gb mb : Nat) (av : Option Addr) (n cap : Nat) (bad : Int) (xs : List Value) : Prop where
  ex : ∃ g cap', w'.heap[gb]? = some (.cells #[.int .u8 bad, .slice (some ⟨g, 0, none⟩) (n + 1) cap', .map (some mb)] 92 (0, 0)) ∧ w'.ownsRow base 62 10 (.slice (some ⟨g, 0, none⟩) (n + 1) cap') (n + 1) xs ∧
    ((Value.slice av n cap).ownBlock = some g ∨ w.heap.size ≤ g)
  only : Only (fun j => j = gb ∨ (Value.slice av n cap).ownBlock = some j) w w'

theorem newAt_of {w w1 : World} {base gb mb g cap' : Nat} {av : Option Addr} {n cap : Nat} {bad : Int} {xs : List Value} (hG : w1.heap[gb]? = some (.cells #[.int .u8 bad, .slice av n cap, .map (some mb)] 92 (0, 0)))
    (hown : w1.ownsRow base 62 10 (.slice (some ⟨g, 0, none⟩) (n + 1) cap') (n + 1) xs) (hat : (Value.slice av n cap).ownBlock = some g ∨ g = w.heap.size + 1) (oP : Only (fun j => (Value.slice av n cap).ownBlock = some j) w w1) :
    NewAt w (w1.setCell ⟨gb, 1, none⟩ (.slice (some ⟨g, 0, none⟩) (n + 1) cap')) base gb mb av n cap bad xs := by
  refine ⟨⟨g, cap', (set_cells hG).trans (by simp), ?_, hat.imp id (fun e => by omega)⟩, (oP.shrink (T := fun j => j = gb ∨ (Value.slice av n cap).ownBlock = some j) (fun _ _ e => .inr e)).setCell (p := ⟨gb, 1, none⟩) (.inl rfl) _⟩
  exact ((Only.refl (fun j => j = gb) w1).setCell (p := ⟨gb, 1, none⟩) rfl _).owns hown (row_ne hown hG (by decide))

theorem Only.new {S : Nat → Prop} {a b c : World} {g : Nat} (h : Only S a b) (k : Only (fun j => j = g) b c) (hg : S g ∨ a.heap.size ≤ g) : Only S a c :=
  ⟨k.os.trans h.os, k.tape.trans h.tape, k.output.trans h.output, Nat.le_trans h.size k.size, fun i hi hs => (k.block i (Nat.lt_of_lt_of_le hi h.size) (fun e => by
    subst e
    rcases hg with hg | hg
    · exact hs hg
    · omega)).trans (h.block i hi hs)⟩

/-- A ledger with one row more. -/
theorem new_at {w W : World} {base gb mb g cap' : Nat} {rv : Value} {bad : Int} {rs : List Row} {r : Row} (h : GAt w base gb mb rv bad rs) (hroom : rs.length < 1000) (hr : RowOk r) (hp : placeOf rs r.t = none)
    (hc : W.heap[gb]? = some (.cells #[.int .u8 bad, .slice (some ⟨g, 0, none⟩) (rs.length + 1) cap', .map (some mb)] 92 (0, 0))) (ho : W.ownsRow base 62 10 (.slice (some ⟨g, 0, none⟩) (rs.length + 1) cap') (rs.length + 1) ((rs ++ [r]).flatMap rowCells)) (hm : TMap W mb (rs ++ [r])) :
    GAt W base gb mb (.slice (some ⟨g, 0, none⟩) (rs.length + 1) cap') bad (rs ++ [r]) := by
  refine ⟨hc, by rw [List.length_append]; exact ho, hm, h.low, ?_, ?_, by rw [List.length_append, List.length_singleton]; omega⟩
  · rw [List.map_append, List.nodup_append]
    refine ⟨h.nodup, by simp, ?_⟩
    intro x hx y hy e
    obtain ⟨z, hz, rfl⟩ := List.mem_map.1 hx
    simp at hy
    exact place_none hp z hz (e.trans hy)
  · intro x hx
    rcases List.mem_append.1 hx with hx | hx
    · exact h.ok x hx
    · rw [List.mem_singleton.1 hx]; exact hr

theorem set_last (rs : List Row) (x y : Row) : (rs ++ [x]).set rs.length y = rs ++ [y] := by
  rw [List.set_append_right _ _ (Nat.le_refl _)]
  simp

theorem new_post {w : World} (W : World) {w' : World} {base gb mb : Nat} {rv : Value} {bad : Int} {rs : List Row} {g cap : Nat} {r r' : Row} {a : Act'} (hr : RowOk r) (ha : ActWf a) (hd : doR r a = r')
    (hG : GAt W base gb mb (.slice (some ⟨g, 0, none⟩) (rs.length + 1) cap) bad (rs ++ [r])) (oW : Only (fun j => j = gb ∨ j = mb ∨ rv.ownBlock = some j) w W) (hg : rv.ownBlock = some g ∨ w.heap.size ≤ g)
    (hR : RowIn w' base (.slice (some ⟨g, 0, none⟩) (rs.length + 1) cap) ((rs ++ [r]).set rs.length r') g rs.length r') (ho : Only (fun j => j = g) W w') :
    ApOwn 0 w base gb mb rv bad (rs ++ [r']) (.returned (.int .i64 0)) w' := by
  subst hd
  have h1 := hG.set (k := rs.length) (r := r) (r' := doR r a) (by simp) (doR_t _ _) (doR_ok hr ha.o) hR ho
  rw [set_last] at h1
  exact ⟨rfl, ⟨_, h1, fun k e => by cases e; exact hg⟩, oW.new ho (hg.imp (fun e => .inr (.inr e)) id)⟩

set_option maxHeartbeats 2000000 in
theorem apply_no (base gb mb : Nat) (rv : Value) (bad : Int) (rs : List Row) (a : Act') (w : World) (h : GAt w base gb mb rv bad rs) (ha : ActWf a) (hv : ¬ mayV bad rs a = 0) :
    Calls Try.prog 36 #[.pointer (some ⟨gb, 0, none⟩), actV a] w (ApOwn (mayV bad rs a) w base gb mb rv bad rs) := by
  obtain ⟨v, hm⟩ : ∃ v, mayV bad rs a = v := ⟨_, rfl⟩
  rw [hm] at hv ⊢
  have HM := Lib.hid hm
  clear hm
  have hne : (v != 0) = true := by simpa using hv
  obtain ⟨kind, c, e, q, org, ayes, aorgs⟩ := a
  have oX := (Only.refl (fun _ : Nat => False) w).alloc (.cells #[.int .u8 kind, .int .i64 c, .int .i64 e, .int .i64 q, .int .i64 org, .bool ayes, .int .u8 aorgs] 33)
  have hX := h.kept oX id id (fun _ _ => id)
  unfold actV
  dsimp only
  clear hv
  go_enter Try.func36, Try.ntmps36
  go_wp2_with (go_at_call 42; refine (may_is v base gb mb rv bad rs ⟨kind, c, e, q, org, ayes, aorgs⟩ HM.out _ (by exact hX) ha).mono ?_; rintro r wM ⟨rfl, hBM⟩)
  go_ret
  have ho := oX.trans (Only.of_below hBM)
  exact ⟨rfl, ⟨rv, h.kept ho id id (fun _ _ => id), fun _ e => .inl e⟩, ho.shrink (fun _ _ e => e.elim)⟩

theorem field_1 (w : World) : (Instr.field 99 (.agg #[.bool true, .bool false, .bool false, .func (.func 47) #[] #[], .func (.func 48) #[] #[]]) 4).run Try.prog w = .ok (.func (.func 48) #[] #[]) w := by kernel_rfl
theorem field_2 (w : World) : (Instr.field 99 (.agg #[.bool false, .bool true, .bool true, .func (.func 49) #[] #[], .func (.func 50) #[] #[]]) 4).run Try.prog w = .ok (.func (.func 50) #[] #[]) w := by kernel_rfl
theorem field_3 (w : World) : (Instr.field 99 (.agg #[.bool false, .bool false, .bool true, .func (.func 51) #[] #[], .func (.func 52) #[] #[]]) 4).run Try.prog w = .ok (.func (.func 52) #[] #[]) w := by kernel_rfl
theorem field_4 (w : World) : (Instr.field 99 (.agg #[.bool false, .bool true, .bool true, .func (.func 53) #[] #[], .func (.func 54) #[] #[]]) 4).run Try.prog w = .ok (.func (.func 54) #[] #[]) w := by kernel_rfl

set_option maxRecDepth 100000 in
set_option maxHeartbeats 4000000 in
theorem apply_old_1 (base gb mb : Nat) (rv : Value) (bad : Int) (rs : List Row) (k : Nat) (r : Row) (c e q org : Int) (ayes : Bool) (aorgs : Int) (w : World) (h : GAt w base gb mb rv bad rs) (ha : ActWf ⟨1, c, e, q, org, ayes, aorgs⟩) (hv : mayV bad rs ⟨1, c, e, q, org, ayes, aorgs⟩ = 0) (hp : placeOf rs (c, e, q) = some k) (hr : rs[k]? = some r) :
    Calls Try.prog 36 #[.pointer (some ⟨gb, 0, none⟩), actV ⟨1, c, e, q, org, ayes, aorgs⟩] w (ApOwn 0 w base gb mb rv bad (rs.set k (beginR r ⟨1, c, e, q, org, ayes, aorgs⟩))) := by
  have HM := Lib.hid hv
  have HA := Lib.hid ha
  have HP := Lib.hid hp
  have HR := Lib.hid hr
  have hk : k < rs.length := (List.getElem?_eq_some_iff.1 hr).1
  have hfew := h.few
  clear hr
  have oX := (Only.refl (fun _ : Nat => False) w).alloc (.cells #[.int .u8 1, .int .i64 c, .int .i64 e, .int .i64 q, .int .i64 org, .bool ayes, .int .u8 aorgs] 33)
  have hX := h.kept oX id id (fun _ _ => id)
  have hA := heap_alloc_new w (.cells #[.int .u8 1, .int .i64 c, .int .i64 e, .int .i64 q, .int .i64 org, .bool ayes, .int .u8 aorgs] 33)
  unfold actV
  dsimp only
  clear hv hp ha
  go_enter Try.func36, Try.ntmps36
  go_upto_region 4 with (go_at_call 42; refine (may_is 0 base gb mb rv bad rs ⟨1, c, e, q, org, ayes, aorgs⟩ HM.out _ (by exact hX) HA.out).mono ?_; rintro r' wM ⟨rfl, hBM⟩)
  have oM := oX.trans (Only.of_below hBM)
  have hG := h.kept oM id id (fun _ _ => id)
  have hA2 := (Only.of_below hBM).obj hA id
  generalize hab : w.heap.size = ab at *
  clear hX oX hBM hA
  have z0 : wM.cell? ⟨ab, 0, none⟩ = some (.int .u8 1) := by simp [World.cell?, hA2]
  have z1 : wM.cell? ⟨ab, 1, none⟩ = some (.int .i64 c) := by simp [World.cell?, hA2]
  have z2 : wM.cell? ⟨ab, 2, none⟩ = some (.int .i64 e) := by simp [World.cell?, hA2]
  have z3 : wM.cell? ⟨ab, 3, none⟩ = some (.int .i64 q) := by simp [World.cell?, hA2]
  have z4 : wM.cell? ⟨ab, 4, none⟩ = some (.int .i64 org) := by simp [World.cell?, hA2]
  have z5 : wM.cell? ⟨ab, 5, none⟩ = some (.bool ayes) := by simp [World.cell?, hA2]
  have z6 : wM.cell? ⟨ab, 6, none⟩ = some (.int .u8 aorgs) := by simp [World.cell?, hA2]
  have hal : ab < wM.heap.size := (Array.getElem?_eq_some_iff.1 hA2).1
  obtain ⟨g0, g1, g2⟩ := hG.c
  have hgl := hG.lt
  have hl := fun n => look_map (w := wM.drewN n) hG.map hG.wf hG.nodup (c, e, q) HA.out.t
  rw [HP.out] at hl
  dsimp only [txnV] at hl
  obtain ⟨av, cap, rfl, hcc⟩ := owns_rows hG.rows
  obtain ⟨g, rfl, hgo, _, _⟩ := hcc (by omega)
  have hRI : RowIn wM base (.slice (some ⟨g, 0, none⟩) rs.length cap) rs g k r := ⟨hG.rows, HR.out, hgo⟩
  clear hcc
  go_quiet (fail)
  go_upto_region 9 with fail
  have hA3 : (wM.drewN nq).heap[ab]? = some (.cells #[.int .u8 1, .int .i64 c, .int .i64 e, .int .i64 q, .int .i64 org, .bool ayes, .int .u8 aorgs] 33 (0, 0)) := hA2
  have y7 : (wM.drewN nq).cell? ⟨gb, 1, none⟩ = some (.slice (some ⟨g, 0, none⟩) rs.length cap) := g1
  have hGW : GAt (wM.drewN nq) base gb mb (.slice (some ⟨g, 0, none⟩) rs.length cap) bad rs := hG.kept ((Only.refl (fun _ : Nat => False) wM).drewN nq) id id (fun _ _ => id)
  have oW := oM.drewN nq
  have hRW := hRI.drewN nq
  have hwl : ab < (wM.drewN nq).heap.size := hal
  have hwg : gb < (wM.drewN nq).heap.size := hgl
  have hn1 : ¬ ab = g := Ne.symm (row_ne hRW.own hA3 (by decide) g hgo)
  have hn2 : ¬ gb = g := Ne.symm (row_ne hRW.own hGW.cells (by decide) g hgo)
  clear hl z0 z1 z2 z3 z4 z5 z6 g0 g1 g2 hG oM hRI hal hgl hA2
  generalize wM.drewN nq = W at *
  have y0 : W.cell? ⟨ab, 0, none⟩ = some (.int .u8 1) := by simp [World.cell?, hA3]
  have y1 : W.cell? ⟨ab, 1, none⟩ = some (.int .i64 c) := by simp [World.cell?, hA3]
  have y2 : W.cell? ⟨ab, 2, none⟩ = some (.int .i64 e) := by simp [World.cell?, hA3]
  have y3 : W.cell? ⟨ab, 3, none⟩ = some (.int .i64 q) := by simp [World.cell?, hA3]
  have y4 : W.cell? ⟨ab, 4, none⟩ = some (.int .i64 org) := by simp [World.cell?, hA3]
  have y5 : W.cell? ⟨ab, 5, none⟩ = some (.bool ayes) := by simp [World.cell?, hA3]
  have y6 : W.cell? ⟨ab, 6, none⟩ = some (.int .u8 aorgs) := by simp [World.cell?, hA3]
  have l1 := look_kinds (W.alloc (.map kindsEs 4)).drew W.heap.size 1 false (heap_alloc_new W _)
  rw [if_neg (by decide), show kindV 1 = .agg #[.bool true, .bool false, .bool false, .func (.func 47) #[] #[], .func (.func 48) #[] #[]] from rfl] at l1
  have hfl := fun w => field_1 w
  have hRA := (hRW.alloc (.map kindsEs 4)).drewN 1
  have oA := ((Only.refl (fun _ : Nat => False) W).alloc (.map kindsEs 4)).drew
  obtain ⟨hgl', hkl'⟩ := hRW.lt
  go_region_held3 (fun w' => w'.cell? ⟨ab, 0, none⟩ = some (.int .u8 1) ∧ w'.cell? ⟨ab, 1, none⟩ = some (.int .i64 c) ∧ w'.cell? ⟨ab, 2, none⟩ = some (.int .i64 e) ∧ w'.cell? ⟨ab, 3, none⟩ = some (.int .i64 q) ∧ w'.cell? ⟨ab, 4, none⟩ = some (.int .i64 org) ∧ w'.cell? ⟨ab, 5, none⟩ = some (.bool ayes) ∧ w'.cell? ⟨ab, 6, none⟩ = some (.int .u8 aorgs) ∧ w'.cell? ⟨gb, 1, none⟩ = some (.slice (some ⟨g, 0, none⟩) rs.length cap))
    (first | exact ⟨y0, y1, y2, y3, y4, y5, y6, y7⟩ | exact ⟨oA.cell y0 id, oA.cell y1 id, oA.cell y2 id, oA.cell y3 id, oA.cell y4 id, oA.cell y5 id, oA.cell y6 id, oA.cell y7 id⟩ | exact ⟨oF.cell y0 hn1, oF.cell y1 hn1, oF.cell y2 hn1, oF.cell y3 hn1, oF.cell y4 hn1, oF.cell y5 hn1, oF.cell y6 hn1, oF.cell y7 hn2⟩)
    (first | (go_at_call 43; refine (kinds_any _).mono ?_; rintro r' wT ⟨rfl, rfl⟩) | (go_at_call 48; refine (begin_any _ base _ _ g _ _ ⟨1, c, e, q, org, ayes, aorgs⟩ _ (by exact hRA)).mono ?_; rintro r' wF ⟨⟨vF, rfl⟩, hRF, hoF⟩; have oF : Only (fun j => j = g) W wF := (oA.shrink (T := fun j => j = g) (fun _ _ e => e.elim)).trans ⟨hoF.os, hoF.tape, hoF.output, hoF.size, hoF.block⟩))
  all_goals go_wp2_with fail
  all_goals go_ret
  all_goals exact old_post W HR.out HA.out rfl hGW oW hRF oF

set_option maxRecDepth 100000 in
set_option maxHeartbeats 4000000 in
theorem apply_new_1 (base gb mb : Nat) (rv : Value) (bad : Int) (rs : List Row) (c e q org : Int) (ayes : Bool) (aorgs : Int) (w : World) (h : GAt w base gb mb rv bad rs) (hbase : base ≤ w.heap.size) (hroom : rs.length < 1000) (ha : ActWf ⟨1, c, e, q, org, ayes, aorgs⟩) (hv : mayV bad rs ⟨1, c, e, q, org, ayes, aorgs⟩ = 0) (hp : placeOf rs (c, e, q) = none) :
    Calls Try.prog 36 #[.pointer (some ⟨gb, 0, none⟩), actV ⟨1, c, e, q, org, ayes, aorgs⟩] w (ApOwn 0 w base gb mb rv bad (rs ++ [beginR (freshR (c, e, q)) ⟨1, c, e, q, org, ayes, aorgs⟩])) := by
  have HM := Lib.hid hv
  have HA := Lib.hid ha
  have HP := Lib.hid hp
  have oX := (Only.refl (fun _ : Nat => False) w).alloc (.cells #[.int .u8 1, .int .i64 c, .int .i64 e, .int .i64 q, .int .i64 org, .bool ayes, .int .u8 aorgs] 33)
  have hX := h.kept oX id id (fun _ _ => id)
  have hA := heap_alloc_new w (.cells #[.int .u8 1, .int .i64 c, .int .i64 e, .int .i64 q, .int .i64 org, .bool ayes, .int .u8 aorgs] 33)
  unfold actV
  dsimp only
  clear hv hp ha
  go_enter Try.func36, Try.ntmps36
  go_upto_region 4 with (go_at_call 42; refine (may_is 0 base gb mb rv bad rs ⟨1, c, e, q, org, ayes, aorgs⟩ HM.out _ (by exact hX) HA.out).mono ?_; rintro r' wM ⟨rfl, hBM⟩)
  have oM := oX.trans (Only.of_below hBM)
  have hG := h.kept oM id id (fun _ _ => id)
  have hA2 := (Only.of_below hBM).obj hA id
  generalize hab : w.heap.size = ab at *
  clear hX oX hBM hA
  have z0 : wM.cell? ⟨ab, 0, none⟩ = some (.int .u8 1) := by simp [World.cell?, hA2]
  have z1 : wM.cell? ⟨ab, 1, none⟩ = some (.int .i64 c) := by simp [World.cell?, hA2]
  have z2 : wM.cell? ⟨ab, 2, none⟩ = some (.int .i64 e) := by simp [World.cell?, hA2]
  have z3 : wM.cell? ⟨ab, 3, none⟩ = some (.int .i64 q) := by simp [World.cell?, hA2]
  have z4 : wM.cell? ⟨ab, 4, none⟩ = some (.int .i64 org) := by simp [World.cell?, hA2]
  have z5 : wM.cell? ⟨ab, 5, none⟩ = some (.bool ayes) := by simp [World.cell?, hA2]
  have z6 : wM.cell? ⟨ab, 6, none⟩ = some (.int .u8 aorgs) := by simp [World.cell?, hA2]
  have hal : ab < wM.heap.size := (Array.getElem?_eq_some_iff.1 hA2).1
  obtain ⟨g0, g1, g2⟩ := hG.c
  have hgl := hG.lt
  have hl := fun n => look_map (w := wM.drewN n) hG.map hG.wf hG.nodup (c, e, q) HA.out.t
  rw [HP.out] at hl
  dsimp only [txnV] at hl
  obtain ⟨av, cap, rfl, hcc⟩ := owns_rows hG.rows
  have HC := Lib.hid hcc
  clear hcc
  go_quiet (fail)
  go_upto_region 7 with fail
  have hA3 : (wM.drewN nq).heap[ab]? = some (.cells #[.int .u8 1, .int .i64 c, .int .i64 e, .int .i64 q, .int .i64 org, .bool ayes, .int .u8 aorgs] 33 (0, 0)) := hA2
  have g1' : (wM.drewN nq).cell? ⟨gb, 1, none⟩ = some (.slice av rs.length cap) := g1
  have g2' : (wM.drewN nq).cell? ⟨gb, 2, none⟩ = some (.map (some mb)) := g2
  have hGW : GAt (wM.drewN nq) base gb mb (.slice av rs.length cap) bad rs := hG.kept ((Only.refl (fun _ : Nat => False) wM).drewN nq) id id (fun _ _ => id)
  have oW := oM.drewN nq
  clear hl z0 z1 z2 z3 z4 z5 z6 g0 g1 g2 hG oM hal hgl hA2
  generalize wM.drewN nq = W at *
  have y0 : W.cell? ⟨ab, 0, none⟩ = some (.int .u8 1) := by simp [World.cell?, hA3]
  have y1 : W.cell? ⟨ab, 1, none⟩ = some (.int .i64 c) := by simp [World.cell?, hA3]
  have y2 : W.cell? ⟨ab, 2, none⟩ = some (.int .i64 e) := by simp [World.cell?, hA3]
  have y3 : W.cell? ⟨ab, 3, none⟩ = some (.int .i64 q) := by simp [World.cell?, hA3]
  have y4 : W.cell? ⟨ab, 4, none⟩ = some (.int .i64 org) := by simp [World.cell?, hA3]
  have y5 : W.cell? ⟨ab, 5, none⟩ = some (.bool ayes) := by simp [World.cell?, hA3]
  have y6 : W.cell? ⟨ab, 6, none⟩ = some (.int .u8 aorgs) := by simp [World.cell?, hA3]
  have hup := put_map (w := W.drew) hGW.map hGW.wf (freshR (c, e, q)) HA.out.t HP.out
  dsimp only [txnV, freshR, Row.t] at hup
  go_cut [6] (fun v6 wx => v6 = .int .i64 (rs.length : Int) ∧ TMap wx mb (rs ++ [freshR (c, e, q)]) ∧ Only (fun j => j = mb) W wx)
  case first =>
    go_region
    all_goals go_wp2_with fail
    all_goals go_meet
    all_goals (case rel => exact ⟨rfl, by unfold TMap; rw [List.length_append]; exact put_at _ _ _ hGW.ltm, put_only _ _ _⟩)
  case rest =>
    obtain ⟨rfl, hTM, oT⟩ := hcut
    obtain ⟨w7, rfl⟩ : ∃ w7 : World, w7 = wc := ⟨_, rfl⟩
    clear hup y0 y1 y2 y3 y4 y5 y6 g1' g2'
    have hne := hGW.ne
    have ham : ¬ ab = mb := fun e => by
      subst e
      have := hGW.map
      unfold TMap at this
      rw [hA3] at this
      cases this
    have hA4 := oT.obj hA3 ham
    have hG4 := oT.obj hGW.cells hne
    have hR4 := oT.owns hGW.rows (map_row hGW.rows hGW.map)
    have y0 : w7.cell? ⟨ab, 0, none⟩ = some (.int .u8 1) := by simp [World.cell?, hA4]
    have y1 : w7.cell? ⟨ab, 1, none⟩ = some (.int .i64 c) := by simp [World.cell?, hA4]
    have y2 : w7.cell? ⟨ab, 2, none⟩ = some (.int .i64 e) := by simp [World.cell?, hA4]
    have y3 : w7.cell? ⟨ab, 3, none⟩ = some (.int .i64 q) := by simp [World.cell?, hA4]
    have y4 : w7.cell? ⟨ab, 4, none⟩ = some (.int .i64 org) := by simp [World.cell?, hA4]
    have y5 : w7.cell? ⟨ab, 5, none⟩ = some (.bool ayes) := by simp [World.cell?, hA4]
    have y6 : w7.cell? ⟨ab, 6, none⟩ = some (.int .u8 aorgs) := by simp [World.cell?, hA4]
    have y7 : w7.cell? ⟨gb, 1, none⟩ = some (.slice av rs.length cap) := by simp [World.cell?, hG4]
    have f7 : w7.frozen? ⟨gb, 1, none⟩ = false := by simp [World.frozen?, hG4]
    have hla : ab < w7.heap.size := (Array.getElem?_eq_some_iff.1 hA4).1
    have hlg : gb < w7.heap.size := (Array.getElem?_eq_some_iff.1 hG4).1
    have hb7 : base ≤ w7.heap.size := Nat.le_trans (Nat.le_trans (by rw [hab] at *; exact hbase) oW.size) oT.size
    have hgr : ∀ j, (Value.slice av rs.length cap).ownBlock = some j → j ≠ gb := row_ne hR4 hG4 (by decide)
    have har : ∀ j, (Value.slice av rs.length cap).ownBlock = some j → j ≠ ab := row_ne hR4 hA4 (by decide)
    obtain ⟨i0, hi0, hz0, hz1, hz2⟩ := info_parts infoRow
    go_upto_region 8 with fail
    go_cut [6] (fun v6 wx => v6 = .int .i64 (rs.length : Int) ∧ NewAt w7 wx base gb mb av rs.length cap bad ((rs ++ [freshR (c, e, q)]).flatMap rowCells))
    case first =>
      go_region_law ((refine step_append_lies _ (by rfl) _ _ _ (by rfl) base 62 i0 _ 10 32 Try.underlying52 hi0 hz0 hz1 hz2 rfl (by omega) (.slice av rs.length cap) rs.length (rs.flatMap rowCells) (by rfl) ((hR4.alloc _).drew) ⟨w7.heap.size, 0, none⟩ 1 1 (rowCells (freshR (c, e, q))) (by rfl) (by rfl) (World.news_of_block (cs := (rowCells (freshR (c, e, q))).toArray) (t := 62) (fr := (0, 0)) (heap_alloc_new w7 _)) (by simp [rowCells, Value.oneCell']) (by omega) (by unfold maxLen; omega) (by omega) (by simp; omega) (w7.heap.size + 1) (by simp) ?_; intro gg cap1 w1 hown1 hgrow hat hlt; have oP : Only (fun j => (Value.slice av rs.length cap).ownBlock = some j) w7 w1 := (((Only.refl _ w7).alloc _).drew).grown hgrow (fun _ e => e); have hGw := oP.obj hG4 (fun e => hgr _ e rfl); have y8 : w1.cell? ⟨gb, 1, none⟩ = some (.slice av rs.length cap) := (by simp [World.cell?, hGw]); have f8 : w1.frozen? ⟨gb, 1, none⟩ = false := (by simp [World.frozen?, hGw])))
      all_goals go_wp2_with fail
      all_goals go_meet
      all_goals (case rel => exact ⟨rfl, newAt_of hGw (by rw [List.flatMap_append]; simpa using hown1) hat oP⟩)
    case rest =>
      obtain ⟨rfl, ⟨⟨g, cap2, hc2, ho2, hgat⟩, oN⟩⟩ := hcut
      obtain ⟨W8, rfl⟩ : ∃ W8 : World, W8 = wc := ⟨_, rfl⟩
      have n1 : ¬ (ab = gb ∨ (Value.slice av rs.length cap).ownBlock = some ab) := fun e => e.elim (fun e => by
        subst e
        rw [hA4] at hG4
        cases hG4) (fun e => har _ e rfl)
      have n2 : ¬ (mb = gb ∨ (Value.slice av rs.length cap).ownBlock = some mb) := fun e => e.elim (fun e => hne e.symm) (fun e => map_row hR4 hTM mb e rfl)
      have hA5 := oN.obj hA4 n1
      have hM5 : TMap W8 mb (rs ++ [freshR (c, e, q)]) := oN.obj hTM n2
      have hok := freshR_ok HA.out.t
      have hG8 := new_at (r := freshR (c, e, q)) hGW hroom hok HP.out hc2 ho2 hM5
      have oW8 : Only (fun j => j = gb ∨ j = mb ∨ (Value.slice av rs.length cap).ownBlock = some j) w W8 := ((oW.shrink (fun _ _ e => e.elim)).trans (oT.shrink (fun _ _ e => .inr (.inl e)))).trans (oN.shrink (fun _ _ e => e.imp id .inr))
      have hgat' : (Value.slice av rs.length cap).ownBlock = some g ∨ w.heap.size ≤ g := hgat.imp id (fun e => Nat.le_trans (Nat.le_trans oW.size oT.size) e)
      have hRW : RowIn W8 base (.slice (some ⟨g, 0, none⟩) (rs.length + 1) cap2) (rs ++ [freshR (c, e, q)]) g rs.length (freshR (c, e, q)) := ⟨hG8.rows, by simp, rfl⟩
      have hwl : ab < W8.heap.size := (Array.getElem?_eq_some_iff.1 hA5).1
      have hwg : gb < W8.heap.size := hG8.lt
      have y7' : W8.cell? ⟨gb, 1, none⟩ = some (.slice (some ⟨g, 0, none⟩) (rs.length + 1) cap2) := hG8.c.2.1
      have hn1 : ¬ ab = g := Ne.symm (row_ne hRW.own hA5 (by decide) g rfl)
      have hn2 : ¬ gb = g := Ne.symm (row_ne hRW.own hG8.cells (by decide) g rfl)
      clear y0 y1 y2 y3 y4 y5 y6 y7 f7 hG4 hA4 hR4 hgr har hla hlg hb7 hA3 hGW oW oT oN hTM hgat hc2 ho2 n1 n2 hM5 hi0 hz0 hz1 hz2
      obtain ⟨W, rfl⟩ : ∃ W : World, W = W8 := ⟨_, rfl⟩
      have y7 := y7'
      obtain ⟨nn, hnn⟩ : ∃ nn, rs.length + 1 = nn := ⟨_, rfl⟩
      rw [hnn] at y7 hRW
      have hix : rs.length < nn := by omega
      have HNN := Lib.hid hnn
      clear hnn
      clear y7'
      go_upto_region 9 with fail
      have y0 : W.cell? ⟨ab, 0, none⟩ = some (.int .u8 1) := by simp [World.cell?, hA5]
      have y1 : W.cell? ⟨ab, 1, none⟩ = some (.int .i64 c) := by simp [World.cell?, hA5]
      have y2 : W.cell? ⟨ab, 2, none⟩ = some (.int .i64 e) := by simp [World.cell?, hA5]
      have y3 : W.cell? ⟨ab, 3, none⟩ = some (.int .i64 q) := by simp [World.cell?, hA5]
      have y4 : W.cell? ⟨ab, 4, none⟩ = some (.int .i64 org) := by simp [World.cell?, hA5]
      have y5 : W.cell? ⟨ab, 5, none⟩ = some (.bool ayes) := by simp [World.cell?, hA5]
      have y6 : W.cell? ⟨ab, 6, none⟩ = some (.int .u8 aorgs) := by simp [World.cell?, hA5]
      have l1 := look_kinds (W.alloc (.map kindsEs 4)).drew W.heap.size 1 false (heap_alloc_new W _)
      rw [if_neg (by decide), show kindV 1 = .agg #[.bool true, .bool false, .bool false, .func (.func 47) #[] #[], .func (.func 48) #[] #[]] from rfl] at l1
      have hfl := fun w => field_1 w
      have hRA := (hRW.alloc (.map kindsEs 4)).drewN 1
      have oA := ((Only.refl (fun _ : Nat => False) W).alloc (.map kindsEs 4)).drew
      obtain ⟨hgl', hkl'⟩ := hRW.lt
      go_region_held3 (fun w' => w'.cell? ⟨ab, 0, none⟩ = some (.int .u8 1) ∧ w'.cell? ⟨ab, 1, none⟩ = some (.int .i64 c) ∧ w'.cell? ⟨ab, 2, none⟩ = some (.int .i64 e) ∧ w'.cell? ⟨ab, 3, none⟩ = some (.int .i64 q) ∧ w'.cell? ⟨ab, 4, none⟩ = some (.int .i64 org) ∧ w'.cell? ⟨ab, 5, none⟩ = some (.bool ayes) ∧ w'.cell? ⟨ab, 6, none⟩ = some (.int .u8 aorgs) ∧ w'.cell? ⟨gb, 1, none⟩ = some (.slice (some ⟨g, 0, none⟩) nn cap2))
        (first | exact ⟨y0, y1, y2, y3, y4, y5, y6, y7⟩ | exact ⟨oA.cell y0 id, oA.cell y1 id, oA.cell y2 id, oA.cell y3 id, oA.cell y4 id, oA.cell y5 id, oA.cell y6 id, oA.cell y7 id⟩ | exact ⟨oF.cell y0 hn1, oF.cell y1 hn1, oF.cell y2 hn1, oF.cell y3 hn1, oF.cell y4 hn1, oF.cell y5 hn1, oF.cell y6 hn1, oF.cell y7 hn2⟩)
        (first | (go_at_call 43; refine (kinds_any _).mono ?_; rintro r' wT ⟨rfl, rfl⟩) | (go_at_call 48; refine (begin_any _ base _ _ g _ _ ⟨1, c, e, q, org, ayes, aorgs⟩ _ (by exact hRA)).mono ?_; rintro r' wF ⟨⟨vF, rfl⟩, hRF, hoF⟩; have oF : Only (fun j => j = g) W wF := (oA.shrink (T := fun j => j = g) (fun _ _ e => e.elim)).trans ⟨hoF.os, hoF.tape, hoF.output, hoF.size, hoF.block⟩))
      all_goals go_wp2_with fail
      all_goals go_ret
      all_goals obtain rfl := HNN.out
      all_goals exact new_post W hok HA.out rfl hG8 oW8 hgat' hRF oF

set_option maxRecDepth 100000 in
set_option maxHeartbeats 4000000 in
theorem apply_old_2 (base gb mb : Nat) (rv : Value) (bad : Int) (rs : List Row) (k : Nat) (r : Row) (c e q org : Int) (ayes : Bool) (aorgs : Int) (w : World) (h : GAt w base gb mb rv bad rs) (ha : ActWf ⟨2, c, e, q, org, ayes, aorgs⟩) (hv : mayV bad rs ⟨2, c, e, q, org, ayes, aorgs⟩ = 0) (hp : placeOf rs (c, e, q) = some k) (hr : rs[k]? = some r) (o0 : 0 ≤ org) (o7 : org ≤ 7) :
    Calls Try.prog 36 #[.pointer (some ⟨gb, 0, none⟩), actV ⟨2, c, e, q, org, ayes, aorgs⟩] w (ApOwn 0 w base gb mb rv bad (rs.set k (voteR r ⟨2, c, e, q, org, ayes, aorgs⟩))) := by
  have HM := Lib.hid hv
  have HA := Lib.hid ha
  have HP := Lib.hid hp
  have HR := Lib.hid hr
  have hk : k < rs.length := (List.getElem?_eq_some_iff.1 hr).1
  have hfew := h.few
  clear hr
  have oX := (Only.refl (fun _ : Nat => False) w).alloc (.cells #[.int .u8 2, .int .i64 c, .int .i64 e, .int .i64 q, .int .i64 org, .bool ayes, .int .u8 aorgs] 33)
  have hX := h.kept oX id id (fun _ _ => id)
  have hA := heap_alloc_new w (.cells #[.int .u8 2, .int .i64 c, .int .i64 e, .int .i64 q, .int .i64 org, .bool ayes, .int .u8 aorgs] 33)
  unfold actV
  dsimp only
  clear hv hp ha
  go_enter Try.func36, Try.ntmps36
  go_upto_region 4 with (go_at_call 42; refine (may_is 0 base gb mb rv bad rs ⟨2, c, e, q, org, ayes, aorgs⟩ HM.out _ (by exact hX) HA.out).mono ?_; rintro r' wM ⟨rfl, hBM⟩)
  have oM := oX.trans (Only.of_below hBM)
  have hG := h.kept oM id id (fun _ _ => id)
  have hA2 := (Only.of_below hBM).obj hA id
  generalize hab : w.heap.size = ab at *
  clear hX oX hBM hA
  have z0 : wM.cell? ⟨ab, 0, none⟩ = some (.int .u8 2) := by simp [World.cell?, hA2]
  have z1 : wM.cell? ⟨ab, 1, none⟩ = some (.int .i64 c) := by simp [World.cell?, hA2]
  have z2 : wM.cell? ⟨ab, 2, none⟩ = some (.int .i64 e) := by simp [World.cell?, hA2]
  have z3 : wM.cell? ⟨ab, 3, none⟩ = some (.int .i64 q) := by simp [World.cell?, hA2]
  have z4 : wM.cell? ⟨ab, 4, none⟩ = some (.int .i64 org) := by simp [World.cell?, hA2]
  have z5 : wM.cell? ⟨ab, 5, none⟩ = some (.bool ayes) := by simp [World.cell?, hA2]
  have z6 : wM.cell? ⟨ab, 6, none⟩ = some (.int .u8 aorgs) := by simp [World.cell?, hA2]
  have hal : ab < wM.heap.size := (Array.getElem?_eq_some_iff.1 hA2).1
  obtain ⟨g0, g1, g2⟩ := hG.c
  have hgl := hG.lt
  have hl := fun n => look_map (w := wM.drewN n) hG.map hG.wf hG.nodup (c, e, q) HA.out.t
  rw [HP.out] at hl
  dsimp only [txnV] at hl
  obtain ⟨av, cap, rfl, hcc⟩ := owns_rows hG.rows
  obtain ⟨g, rfl, hgo, _, _⟩ := hcc (by omega)
  have hRI : RowIn wM base (.slice (some ⟨g, 0, none⟩) rs.length cap) rs g k r := ⟨hG.rows, HR.out, hgo⟩
  clear hcc
  go_quiet (fail)
  go_upto_region 9 with fail
  have hA3 : (wM.drewN nq).heap[ab]? = some (.cells #[.int .u8 2, .int .i64 c, .int .i64 e, .int .i64 q, .int .i64 org, .bool ayes, .int .u8 aorgs] 33 (0, 0)) := hA2
  have y7 : (wM.drewN nq).cell? ⟨gb, 1, none⟩ = some (.slice (some ⟨g, 0, none⟩) rs.length cap) := g1
  have hGW : GAt (wM.drewN nq) base gb mb (.slice (some ⟨g, 0, none⟩) rs.length cap) bad rs := hG.kept ((Only.refl (fun _ : Nat => False) wM).drewN nq) id id (fun _ _ => id)
  have oW := oM.drewN nq
  have hRW := hRI.drewN nq
  have hwl : ab < (wM.drewN nq).heap.size := hal
  have hwg : gb < (wM.drewN nq).heap.size := hgl
  have hn1 : ¬ ab = g := Ne.symm (row_ne hRW.own hA3 (by decide) g hgo)
  have hn2 : ¬ gb = g := Ne.symm (row_ne hRW.own hGW.cells (by decide) g hgo)
  clear hl z0 z1 z2 z3 z4 z5 z6 g0 g1 g2 hG oM hRI hal hgl hA2
  generalize wM.drewN nq = W at *
  have y0 : W.cell? ⟨ab, 0, none⟩ = some (.int .u8 2) := by simp [World.cell?, hA3]
  have y1 : W.cell? ⟨ab, 1, none⟩ = some (.int .i64 c) := by simp [World.cell?, hA3]
  have y2 : W.cell? ⟨ab, 2, none⟩ = some (.int .i64 e) := by simp [World.cell?, hA3]
  have y3 : W.cell? ⟨ab, 3, none⟩ = some (.int .i64 q) := by simp [World.cell?, hA3]
  have y4 : W.cell? ⟨ab, 4, none⟩ = some (.int .i64 org) := by simp [World.cell?, hA3]
  have y5 : W.cell? ⟨ab, 5, none⟩ = some (.bool ayes) := by simp [World.cell?, hA3]
  have y6 : W.cell? ⟨ab, 6, none⟩ = some (.int .u8 aorgs) := by simp [World.cell?, hA3]
  have l1 := look_kinds (W.alloc (.map kindsEs 4)).drew W.heap.size 2 false (heap_alloc_new W _)
  rw [if_neg (by decide), show kindV 2 = .agg #[.bool false, .bool true, .bool true, .func (.func 49) #[] #[], .func (.func 50) #[] #[]] from rfl] at l1
  have hfl := fun w => field_2 w
  have hRA := (hRW.alloc (.map kindsEs 4)).drewN 1
  have oA := ((Only.refl (fun _ : Nat => False) W).alloc (.map kindsEs 4)).drew
  obtain ⟨hgl', hkl'⟩ := hRW.lt
  go_region_held3 (fun w' => w'.cell? ⟨ab, 0, none⟩ = some (.int .u8 2) ∧ w'.cell? ⟨ab, 1, none⟩ = some (.int .i64 c) ∧ w'.cell? ⟨ab, 2, none⟩ = some (.int .i64 e) ∧ w'.cell? ⟨ab, 3, none⟩ = some (.int .i64 q) ∧ w'.cell? ⟨ab, 4, none⟩ = some (.int .i64 org) ∧ w'.cell? ⟨ab, 5, none⟩ = some (.bool ayes) ∧ w'.cell? ⟨ab, 6, none⟩ = some (.int .u8 aorgs) ∧ w'.cell? ⟨gb, 1, none⟩ = some (.slice (some ⟨g, 0, none⟩) rs.length cap))
    (first | exact ⟨y0, y1, y2, y3, y4, y5, y6, y7⟩ | exact ⟨oA.cell y0 id, oA.cell y1 id, oA.cell y2 id, oA.cell y3 id, oA.cell y4 id, oA.cell y5 id, oA.cell y6 id, oA.cell y7 id⟩ | exact ⟨oF.cell y0 hn1, oF.cell y1 hn1, oF.cell y2 hn1, oF.cell y3 hn1, oF.cell y4 hn1, oF.cell y5 hn1, oF.cell y6 hn1, oF.cell y7 hn2⟩)
    (first | (go_at_call 43; refine (kinds_any _).mono ?_; rintro r' wT ⟨rfl, rfl⟩) | (go_at_call 50; refine (vote_any _ base _ _ g _ _ ⟨2, c, e, q, org, ayes, aorgs⟩ _ (by exact hRA) o0 o7).mono ?_; rintro r' wF ⟨⟨vF, rfl⟩, hRF, hoF⟩; have oF : Only (fun j => j = g) W wF := (oA.shrink (T := fun j => j = g) (fun _ _ e => e.elim)).trans ⟨hoF.os, hoF.tape, hoF.output, hoF.size, hoF.block⟩))
  all_goals go_wp2_with fail
  all_goals go_ret
  all_goals exact old_post W HR.out HA.out rfl hGW oW hRF oF

set_option maxRecDepth 100000 in
set_option maxHeartbeats 4000000 in
theorem apply_new_2 (base gb mb : Nat) (rv : Value) (bad : Int) (rs : List Row) (c e q org : Int) (ayes : Bool) (aorgs : Int) (w : World) (h : GAt w base gb mb rv bad rs) (hbase : base ≤ w.heap.size) (hroom : rs.length < 1000) (ha : ActWf ⟨2, c, e, q, org, ayes, aorgs⟩) (hv : mayV bad rs ⟨2, c, e, q, org, ayes, aorgs⟩ = 0) (hp : placeOf rs (c, e, q) = none) (o0 : 0 ≤ org) (o7 : org ≤ 7) :
    Calls Try.prog 36 #[.pointer (some ⟨gb, 0, none⟩), actV ⟨2, c, e, q, org, ayes, aorgs⟩] w (ApOwn 0 w base gb mb rv bad (rs ++ [voteR (freshR (c, e, q)) ⟨2, c, e, q, org, ayes, aorgs⟩])) := by
  have HM := Lib.hid hv
  have HA := Lib.hid ha
  have HP := Lib.hid hp
  have oX := (Only.refl (fun _ : Nat => False) w).alloc (.cells #[.int .u8 2, .int .i64 c, .int .i64 e, .int .i64 q, .int .i64 org, .bool ayes, .int .u8 aorgs] 33)
  have hX := h.kept oX id id (fun _ _ => id)
  have hA := heap_alloc_new w (.cells #[.int .u8 2, .int .i64 c, .int .i64 e, .int .i64 q, .int .i64 org, .bool ayes, .int .u8 aorgs] 33)
  unfold actV
  dsimp only
  clear hv hp ha
  go_enter Try.func36, Try.ntmps36
  go_upto_region 4 with (go_at_call 42; refine (may_is 0 base gb mb rv bad rs ⟨2, c, e, q, org, ayes, aorgs⟩ HM.out _ (by exact hX) HA.out).mono ?_; rintro r' wM ⟨rfl, hBM⟩)
  have oM := oX.trans (Only.of_below hBM)
  have hG := h.kept oM id id (fun _ _ => id)
  have hA2 := (Only.of_below hBM).obj hA id
  generalize hab : w.heap.size = ab at *
  clear hX oX hBM hA
  have z0 : wM.cell? ⟨ab, 0, none⟩ = some (.int .u8 2) := by simp [World.cell?, hA2]
  have z1 : wM.cell? ⟨ab, 1, none⟩ = some (.int .i64 c) := by simp [World.cell?, hA2]
  have z2 : wM.cell? ⟨ab, 2, none⟩ = some (.int .i64 e) := by simp [World.cell?, hA2]
  have z3 : wM.cell? ⟨ab, 3, none⟩ = some (.int .i64 q) := by simp [World.cell?, hA2]
  have z4 : wM.cell? ⟨ab, 4, none⟩ = some (.int .i64 org) := by simp [World.cell?, hA2]
  have z5 : wM.cell? ⟨ab, 5, none⟩ = some (.bool ayes) := by simp [World.cell?, hA2]
  have z6 : wM.cell? ⟨ab, 6, none⟩ = some (.int .u8 aorgs) := by simp [World.cell?, hA2]
  have hal : ab < wM.heap.size := (Array.getElem?_eq_some_iff.1 hA2).1
  obtain ⟨g0, g1, g2⟩ := hG.c
  have hgl := hG.lt
  have hl := fun n => look_map (w := wM.drewN n) hG.map hG.wf hG.nodup (c, e, q) HA.out.t
  rw [HP.out] at hl
  dsimp only [txnV] at hl
  obtain ⟨av, cap, rfl, hcc⟩ := owns_rows hG.rows
  have HC := Lib.hid hcc
  clear hcc
  go_quiet (fail)
  go_upto_region 7 with fail
  have hA3 : (wM.drewN nq).heap[ab]? = some (.cells #[.int .u8 2, .int .i64 c, .int .i64 e, .int .i64 q, .int .i64 org, .bool ayes, .int .u8 aorgs] 33 (0, 0)) := hA2
  have g1' : (wM.drewN nq).cell? ⟨gb, 1, none⟩ = some (.slice av rs.length cap) := g1
  have g2' : (wM.drewN nq).cell? ⟨gb, 2, none⟩ = some (.map (some mb)) := g2
  have hGW : GAt (wM.drewN nq) base gb mb (.slice av rs.length cap) bad rs := hG.kept ((Only.refl (fun _ : Nat => False) wM).drewN nq) id id (fun _ _ => id)
  have oW := oM.drewN nq
  clear hl z0 z1 z2 z3 z4 z5 z6 g0 g1 g2 hG oM hal hgl hA2
  generalize wM.drewN nq = W at *
  have y0 : W.cell? ⟨ab, 0, none⟩ = some (.int .u8 2) := by simp [World.cell?, hA3]
  have y1 : W.cell? ⟨ab, 1, none⟩ = some (.int .i64 c) := by simp [World.cell?, hA3]
  have y2 : W.cell? ⟨ab, 2, none⟩ = some (.int .i64 e) := by simp [World.cell?, hA3]
  have y3 : W.cell? ⟨ab, 3, none⟩ = some (.int .i64 q) := by simp [World.cell?, hA3]
  have y4 : W.cell? ⟨ab, 4, none⟩ = some (.int .i64 org) := by simp [World.cell?, hA3]
  have y5 : W.cell? ⟨ab, 5, none⟩ = some (.bool ayes) := by simp [World.cell?, hA3]
  have y6 : W.cell? ⟨ab, 6, none⟩ = some (.int .u8 aorgs) := by simp [World.cell?, hA3]
  have hup := put_map (w := W.drew) hGW.map hGW.wf (freshR (c, e, q)) HA.out.t HP.out
  dsimp only [txnV, freshR, Row.t] at hup
  go_cut [6] (fun v6 wx => v6 = .int .i64 (rs.length : Int) ∧ TMap wx mb (rs ++ [freshR (c, e, q)]) ∧ Only (fun j => j = mb) W wx)
  case first =>
    go_region
    all_goals go_wp2_with fail
    all_goals go_meet
    all_goals (case rel => exact ⟨rfl, by unfold TMap; rw [List.length_append]; exact put_at _ _ _ hGW.ltm, put_only _ _ _⟩)
  case rest =>
    obtain ⟨rfl, hTM, oT⟩ := hcut
    obtain ⟨w7, rfl⟩ : ∃ w7 : World, w7 = wc := ⟨_, rfl⟩
    clear hup y0 y1 y2 y3 y4 y5 y6 g1' g2'
    have hne := hGW.ne
    have ham : ¬ ab = mb := fun e => by
      subst e
      have := hGW.map
      unfold TMap at this
      rw [hA3] at this
      cases this
    have hA4 := oT.obj hA3 ham
    have hG4 := oT.obj hGW.cells hne
    have hR4 := oT.owns hGW.rows (map_row hGW.rows hGW.map)
    have y0 : w7.cell? ⟨ab, 0, none⟩ = some (.int .u8 2) := by simp [World.cell?, hA4]
    have y1 : w7.cell? ⟨ab, 1, none⟩ = some (.int .i64 c) := by simp [World.cell?, hA4]
    have y2 : w7.cell? ⟨ab, 2, none⟩ = some (.int .i64 e) := by simp [World.cell?, hA4]
    have y3 : w7.cell? ⟨ab, 3, none⟩ = some (.int .i64 q) := by simp [World.cell?, hA4]
    have y4 : w7.cell? ⟨ab, 4, none⟩ = some (.int .i64 org) := by simp [World.cell?, hA4]
    have y5 : w7.cell? ⟨ab, 5, none⟩ = some (.bool ayes) := by simp [World.cell?, hA4]
    have y6 : w7.cell? ⟨ab, 6, none⟩ = some (.int .u8 aorgs) := by simp [World.cell?, hA4]
    have y7 : w7.cell? ⟨gb, 1, none⟩ = some (.slice av rs.length cap) := by simp [World.cell?, hG4]
    have f7 : w7.frozen? ⟨gb, 1, none⟩ = false := by simp [World.frozen?, hG4]
    have hla : ab < w7.heap.size := (Array.getElem?_eq_some_iff.1 hA4).1
    have hlg : gb < w7.heap.size := (Array.getElem?_eq_some_iff.1 hG4).1
    have hb7 : base ≤ w7.heap.size := Nat.le_trans (Nat.le_trans (by rw [hab] at *; exact hbase) oW.size) oT.size
    have hgr : ∀ j, (Value.slice av rs.length cap).ownBlock = some j → j ≠ gb := row_ne hR4 hG4 (by decide)
    have har : ∀ j, (Value.slice av rs.length cap).ownBlock = some j → j ≠ ab := row_ne hR4 hA4 (by decide)
    obtain ⟨i0, hi0, hz0, hz1, hz2⟩ := info_parts infoRow
    go_upto_region 8 with fail
    go_cut [6] (fun v6 wx => v6 = .int .i64 (rs.length : Int) ∧ NewAt w7 wx base gb mb av rs.length cap bad ((rs ++ [freshR (c, e, q)]).flatMap rowCells))
    case first =>
      go_region_law ((refine step_append_lies _ (by rfl) _ _ _ (by rfl) base 62 i0 _ 10 32 Try.underlying52 hi0 hz0 hz1 hz2 rfl (by omega) (.slice av rs.length cap) rs.length (rs.flatMap rowCells) (by rfl) ((hR4.alloc _).drew) ⟨w7.heap.size, 0, none⟩ 1 1 (rowCells (freshR (c, e, q))) (by rfl) (by rfl) (World.news_of_block (cs := (rowCells (freshR (c, e, q))).toArray) (t := 62) (fr := (0, 0)) (heap_alloc_new w7 _)) (by simp [rowCells, Value.oneCell']) (by omega) (by unfold maxLen; omega) (by omega) (by simp; omega) (w7.heap.size + 1) (by simp) ?_; intro gg cap1 w1 hown1 hgrow hat hlt; have oP : Only (fun j => (Value.slice av rs.length cap).ownBlock = some j) w7 w1 := (((Only.refl _ w7).alloc _).drew).grown hgrow (fun _ e => e); have hGw := oP.obj hG4 (fun e => hgr _ e rfl); have y8 : w1.cell? ⟨gb, 1, none⟩ = some (.slice av rs.length cap) := (by simp [World.cell?, hGw]); have f8 : w1.frozen? ⟨gb, 1, none⟩ = false := (by simp [World.frozen?, hGw])))
      all_goals go_wp2_with fail
      all_goals go_meet
      all_goals (case rel => exact ⟨rfl, newAt_of hGw (by rw [List.flatMap_append]; simpa using hown1) hat oP⟩)
    case rest =>
      obtain ⟨rfl, ⟨⟨g, cap2, hc2, ho2, hgat⟩, oN⟩⟩ := hcut
      obtain ⟨W8, rfl⟩ : ∃ W8 : World, W8 = wc := ⟨_, rfl⟩
      have n1 : ¬ (ab = gb ∨ (Value.slice av rs.length cap).ownBlock = some ab) := fun e => e.elim (fun e => by
        subst e
        rw [hA4] at hG4
        cases hG4) (fun e => har _ e rfl)
      have n2 : ¬ (mb = gb ∨ (Value.slice av rs.length cap).ownBlock = some mb) := fun e => e.elim (fun e => hne e.symm) (fun e => map_row hR4 hTM mb e rfl)
      have hA5 := oN.obj hA4 n1
      have hM5 : TMap W8 mb (rs ++ [freshR (c, e, q)]) := oN.obj hTM n2
      have hok := freshR_ok HA.out.t
      have hG8 := new_at (r := freshR (c, e, q)) hGW hroom hok HP.out hc2 ho2 hM5
      have oW8 : Only (fun j => j = gb ∨ j = mb ∨ (Value.slice av rs.length cap).ownBlock = some j) w W8 := ((oW.shrink (fun _ _ e => e.elim)).trans (oT.shrink (fun _ _ e => .inr (.inl e)))).trans (oN.shrink (fun _ _ e => e.imp id .inr))
      have hgat' : (Value.slice av rs.length cap).ownBlock = some g ∨ w.heap.size ≤ g := hgat.imp id (fun e => Nat.le_trans (Nat.le_trans oW.size oT.size) e)
      have hRW : RowIn W8 base (.slice (some ⟨g, 0, none⟩) (rs.length + 1) cap2) (rs ++ [freshR (c, e, q)]) g rs.length (freshR (c, e, q)) := ⟨hG8.rows, by simp, rfl⟩
      have hwl : ab < W8.heap.size := (Array.getElem?_eq_some_iff.1 hA5).1
      have hwg : gb < W8.heap.size := hG8.lt
      have y7' : W8.cell? ⟨gb, 1, none⟩ = some (.slice (some ⟨g, 0, none⟩) (rs.length + 1) cap2) := hG8.c.2.1
      have hn1 : ¬ ab = g := Ne.symm (row_ne hRW.own hA5 (by decide) g rfl)
      have hn2 : ¬ gb = g := Ne.symm (row_ne hRW.own hG8.cells (by decide) g rfl)
      clear y0 y1 y2 y3 y4 y5 y6 y7 f7 hG4 hA4 hR4 hgr har hla hlg hb7 hA3 hGW oW oT oN hTM hgat hc2 ho2 n1 n2 hM5 hi0 hz0 hz1 hz2
      obtain ⟨W, rfl⟩ : ∃ W : World, W = W8 := ⟨_, rfl⟩
      have y7 := y7'
      obtain ⟨nn, hnn⟩ : ∃ nn, rs.length + 1 = nn := ⟨_, rfl⟩
      rw [hnn] at y7 hRW
      have hix : rs.length < nn := by omega
      have HNN := Lib.hid hnn
      clear hnn
      clear y7'
      go_upto_region 9 with fail
      have y0 : W.cell? ⟨ab, 0, none⟩ = some (.int .u8 2) := by simp [World.cell?, hA5]
      have y1 : W.cell? ⟨ab, 1, none⟩ = some (.int .i64 c) := by simp [World.cell?, hA5]
      have y2 : W.cell? ⟨ab, 2, none⟩ = some (.int .i64 e) := by simp [World.cell?, hA5]
      have y3 : W.cell? ⟨ab, 3, none⟩ = some (.int .i64 q) := by simp [World.cell?, hA5]
      have y4 : W.cell? ⟨ab, 4, none⟩ = some (.int .i64 org) := by simp [World.cell?, hA5]
      have y5 : W.cell? ⟨ab, 5, none⟩ = some (.bool ayes) := by simp [World.cell?, hA5]
      have y6 : W.cell? ⟨ab, 6, none⟩ = some (.int .u8 aorgs) := by simp [World.cell?, hA5]
      have l1 := look_kinds (W.alloc (.map kindsEs 4)).drew W.heap.size 2 false (heap_alloc_new W _)
      rw [if_neg (by decide), show kindV 2 = .agg #[.bool false, .bool true, .bool true, .func (.func 49) #[] #[], .func (.func 50) #[] #[]] from rfl] at l1
      have hfl := fun w => field_2 w
      have hRA := (hRW.alloc (.map kindsEs 4)).drewN 1
      have oA := ((Only.refl (fun _ : Nat => False) W).alloc (.map kindsEs 4)).drew
      obtain ⟨hgl', hkl'⟩ := hRW.lt
      go_region_held3 (fun w' => w'.cell? ⟨ab, 0, none⟩ = some (.int .u8 2) ∧ w'.cell? ⟨ab, 1, none⟩ = some (.int .i64 c) ∧ w'.cell? ⟨ab, 2, none⟩ = some (.int .i64 e) ∧ w'.cell? ⟨ab, 3, none⟩ = some (.int .i64 q) ∧ w'.cell? ⟨ab, 4, none⟩ = some (.int .i64 org) ∧ w'.cell? ⟨ab, 5, none⟩ = some (.bool ayes) ∧ w'.cell? ⟨ab, 6, none⟩ = some (.int .u8 aorgs) ∧ w'.cell? ⟨gb, 1, none⟩ = some (.slice (some ⟨g, 0, none⟩) nn cap2))
        (first | exact ⟨y0, y1, y2, y3, y4, y5, y6, y7⟩ | exact ⟨oA.cell y0 id, oA.cell y1 id, oA.cell y2 id, oA.cell y3 id, oA.cell y4 id, oA.cell y5 id, oA.cell y6 id, oA.cell y7 id⟩ | exact ⟨oF.cell y0 hn1, oF.cell y1 hn1, oF.cell y2 hn1, oF.cell y3 hn1, oF.cell y4 hn1, oF.cell y5 hn1, oF.cell y6 hn1, oF.cell y7 hn2⟩)
        (first | (go_at_call 43; refine (kinds_any _).mono ?_; rintro r' wT ⟨rfl, rfl⟩) | (go_at_call 50; refine (vote_any _ base _ _ g _ _ ⟨2, c, e, q, org, ayes, aorgs⟩ _ (by exact hRA) o0 o7).mono ?_; rintro r' wF ⟨⟨vF, rfl⟩, hRF, hoF⟩; have oF : Only (fun j => j = g) W wF := (oA.shrink (T := fun j => j = g) (fun _ _ e => e.elim)).trans ⟨hoF.os, hoF.tape, hoF.output, hoF.size, hoF.block⟩))
      all_goals go_wp2_with fail
      all_goals go_ret
      all_goals obtain rfl := HNN.out
      all_goals exact new_post W hok HA.out rfl hG8 oW8 hgat' hRF oF

set_option maxRecDepth 100000 in
set_option maxHeartbeats 4000000 in
theorem apply_old_3 (base gb mb : Nat) (rv : Value) (bad : Int) (rs : List Row) (k : Nat) (r : Row) (c e q org : Int) (ayes : Bool) (aorgs : Int) (w : World) (h : GAt w base gb mb rv bad rs) (ha : ActWf ⟨3, c, e, q, org, ayes, aorgs⟩) (hv : mayV bad rs ⟨3, c, e, q, org, ayes, aorgs⟩ = 0) (hp : placeOf rs (c, e, q) = some k) (hr : rs[k]? = some r) :
    Calls Try.prog 36 #[.pointer (some ⟨gb, 0, none⟩), actV ⟨3, c, e, q, org, ayes, aorgs⟩] w (ApOwn 0 w base gb mb rv bad (rs.set k (decideR r ⟨3, c, e, q, org, ayes, aorgs⟩))) := by
  have HM := Lib.hid hv
  have HA := Lib.hid ha
  have HP := Lib.hid hp
  have HR := Lib.hid hr
  have hk : k < rs.length := (List.getElem?_eq_some_iff.1 hr).1
  have hfew := h.few
  clear hr
  have oX := (Only.refl (fun _ : Nat => False) w).alloc (.cells #[.int .u8 3, .int .i64 c, .int .i64 e, .int .i64 q, .int .i64 org, .bool ayes, .int .u8 aorgs] 33)
  have hX := h.kept oX id id (fun _ _ => id)
  have hA := heap_alloc_new w (.cells #[.int .u8 3, .int .i64 c, .int .i64 e, .int .i64 q, .int .i64 org, .bool ayes, .int .u8 aorgs] 33)
  unfold actV
  dsimp only
  clear hv hp ha
  go_enter Try.func36, Try.ntmps36
  go_upto_region 4 with (go_at_call 42; refine (may_is 0 base gb mb rv bad rs ⟨3, c, e, q, org, ayes, aorgs⟩ HM.out _ (by exact hX) HA.out).mono ?_; rintro r' wM ⟨rfl, hBM⟩)
  have oM := oX.trans (Only.of_below hBM)
  have hG := h.kept oM id id (fun _ _ => id)
  have hA2 := (Only.of_below hBM).obj hA id
  generalize hab : w.heap.size = ab at *
  clear hX oX hBM hA
  have z0 : wM.cell? ⟨ab, 0, none⟩ = some (.int .u8 3) := by simp [World.cell?, hA2]
  have z1 : wM.cell? ⟨ab, 1, none⟩ = some (.int .i64 c) := by simp [World.cell?, hA2]
  have z2 : wM.cell? ⟨ab, 2, none⟩ = some (.int .i64 e) := by simp [World.cell?, hA2]
  have z3 : wM.cell? ⟨ab, 3, none⟩ = some (.int .i64 q) := by simp [World.cell?, hA2]
  have z4 : wM.cell? ⟨ab, 4, none⟩ = some (.int .i64 org) := by simp [World.cell?, hA2]
  have z5 : wM.cell? ⟨ab, 5, none⟩ = some (.bool ayes) := by simp [World.cell?, hA2]
  have z6 : wM.cell? ⟨ab, 6, none⟩ = some (.int .u8 aorgs) := by simp [World.cell?, hA2]
  have hal : ab < wM.heap.size := (Array.getElem?_eq_some_iff.1 hA2).1
  obtain ⟨g0, g1, g2⟩ := hG.c
  have hgl := hG.lt
  have hl := fun n => look_map (w := wM.drewN n) hG.map hG.wf hG.nodup (c, e, q) HA.out.t
  rw [HP.out] at hl
  dsimp only [txnV] at hl
  obtain ⟨av, cap, rfl, hcc⟩ := owns_rows hG.rows
  obtain ⟨g, rfl, hgo, _, _⟩ := hcc (by omega)
  have hRI : RowIn wM base (.slice (some ⟨g, 0, none⟩) rs.length cap) rs g k r := ⟨hG.rows, HR.out, hgo⟩
  clear hcc
  go_quiet (fail)
  go_upto_region 9 with fail
  have hA3 : (wM.drewN nq).heap[ab]? = some (.cells #[.int .u8 3, .int .i64 c, .int .i64 e, .int .i64 q, .int .i64 org, .bool ayes, .int .u8 aorgs] 33 (0, 0)) := hA2
  have y7 : (wM.drewN nq).cell? ⟨gb, 1, none⟩ = some (.slice (some ⟨g, 0, none⟩) rs.length cap) := g1
  have hGW : GAt (wM.drewN nq) base gb mb (.slice (some ⟨g, 0, none⟩) rs.length cap) bad rs := hG.kept ((Only.refl (fun _ : Nat => False) wM).drewN nq) id id (fun _ _ => id)
  have oW := oM.drewN nq
  have hRW := hRI.drewN nq
  have hwl : ab < (wM.drewN nq).heap.size := hal
  have hwg : gb < (wM.drewN nq).heap.size := hgl
  have hn1 : ¬ ab = g := Ne.symm (row_ne hRW.own hA3 (by decide) g hgo)
  have hn2 : ¬ gb = g := Ne.symm (row_ne hRW.own hGW.cells (by decide) g hgo)
  clear hl z0 z1 z2 z3 z4 z5 z6 g0 g1 g2 hG oM hRI hal hgl hA2
  generalize wM.drewN nq = W at *
  have y0 : W.cell? ⟨ab, 0, none⟩ = some (.int .u8 3) := by simp [World.cell?, hA3]
  have y1 : W.cell? ⟨ab, 1, none⟩ = some (.int .i64 c) := by simp [World.cell?, hA3]
  have y2 : W.cell? ⟨ab, 2, none⟩ = some (.int .i64 e) := by simp [World.cell?, hA3]
  have y3 : W.cell? ⟨ab, 3, none⟩ = some (.int .i64 q) := by simp [World.cell?, hA3]
  have y4 : W.cell? ⟨ab, 4, none⟩ = some (.int .i64 org) := by simp [World.cell?, hA3]
  have y5 : W.cell? ⟨ab, 5, none⟩ = some (.bool ayes) := by simp [World.cell?, hA3]
  have y6 : W.cell? ⟨ab, 6, none⟩ = some (.int .u8 aorgs) := by simp [World.cell?, hA3]
  have l1 := look_kinds (W.alloc (.map kindsEs 4)).drew W.heap.size 3 false (heap_alloc_new W _)
  rw [if_neg (by decide), show kindV 3 = .agg #[.bool false, .bool false, .bool true, .func (.func 51) #[] #[], .func (.func 52) #[] #[]] from rfl] at l1
  have hfl := fun w => field_3 w
  have hRA := (hRW.alloc (.map kindsEs 4)).drewN 1
  have oA := ((Only.refl (fun _ : Nat => False) W).alloc (.map kindsEs 4)).drew
  obtain ⟨hgl', hkl'⟩ := hRW.lt
  go_region_held3 (fun w' => w'.cell? ⟨ab, 0, none⟩ = some (.int .u8 3) ∧ w'.cell? ⟨ab, 1, none⟩ = some (.int .i64 c) ∧ w'.cell? ⟨ab, 2, none⟩ = some (.int .i64 e) ∧ w'.cell? ⟨ab, 3, none⟩ = some (.int .i64 q) ∧ w'.cell? ⟨ab, 4, none⟩ = some (.int .i64 org) ∧ w'.cell? ⟨ab, 5, none⟩ = some (.bool ayes) ∧ w'.cell? ⟨ab, 6, none⟩ = some (.int .u8 aorgs) ∧ w'.cell? ⟨gb, 1, none⟩ = some (.slice (some ⟨g, 0, none⟩) rs.length cap))
    (first | exact ⟨y0, y1, y2, y3, y4, y5, y6, y7⟩ | exact ⟨oA.cell y0 id, oA.cell y1 id, oA.cell y2 id, oA.cell y3 id, oA.cell y4 id, oA.cell y5 id, oA.cell y6 id, oA.cell y7 id⟩ | exact ⟨oF.cell y0 hn1, oF.cell y1 hn1, oF.cell y2 hn1, oF.cell y3 hn1, oF.cell y4 hn1, oF.cell y5 hn1, oF.cell y6 hn1, oF.cell y7 hn2⟩)
    (first | (go_at_call 43; refine (kinds_any _).mono ?_; rintro r' wT ⟨rfl, rfl⟩) | (go_at_call 52; refine (decide_any _ base _ _ g _ _ ⟨3, c, e, q, org, ayes, aorgs⟩ _ (by exact hRA)).mono ?_; rintro r' wF ⟨⟨vF, rfl⟩, hRF, hoF⟩; have oF : Only (fun j => j = g) W wF := (oA.shrink (T := fun j => j = g) (fun _ _ e => e.elim)).trans ⟨hoF.os, hoF.tape, hoF.output, hoF.size, hoF.block⟩))
  all_goals go_wp2_with fail
  all_goals go_ret
  all_goals exact old_post W HR.out HA.out rfl hGW oW hRF oF

set_option maxRecDepth 100000 in
set_option maxHeartbeats 4000000 in
theorem apply_new_3 (base gb mb : Nat) (rv : Value) (bad : Int) (rs : List Row) (c e q org : Int) (ayes : Bool) (aorgs : Int) (w : World) (h : GAt w base gb mb rv bad rs) (hbase : base ≤ w.heap.size) (hroom : rs.length < 1000) (ha : ActWf ⟨3, c, e, q, org, ayes, aorgs⟩) (hv : mayV bad rs ⟨3, c, e, q, org, ayes, aorgs⟩ = 0) (hp : placeOf rs (c, e, q) = none) :
    Calls Try.prog 36 #[.pointer (some ⟨gb, 0, none⟩), actV ⟨3, c, e, q, org, ayes, aorgs⟩] w (ApOwn 0 w base gb mb rv bad (rs ++ [decideR (freshR (c, e, q)) ⟨3, c, e, q, org, ayes, aorgs⟩])) := by
  have HM := Lib.hid hv
  have HA := Lib.hid ha
  have HP := Lib.hid hp
  have oX := (Only.refl (fun _ : Nat => False) w).alloc (.cells #[.int .u8 3, .int .i64 c, .int .i64 e, .int .i64 q, .int .i64 org, .bool ayes, .int .u8 aorgs] 33)
  have hX := h.kept oX id id (fun _ _ => id)
  have hA := heap_alloc_new w (.cells #[.int .u8 3, .int .i64 c, .int .i64 e, .int .i64 q, .int .i64 org, .bool ayes, .int .u8 aorgs] 33)
  unfold actV
  dsimp only
  clear hv hp ha
  go_enter Try.func36, Try.ntmps36
  go_upto_region 4 with (go_at_call 42; refine (may_is 0 base gb mb rv bad rs ⟨3, c, e, q, org, ayes, aorgs⟩ HM.out _ (by exact hX) HA.out).mono ?_; rintro r' wM ⟨rfl, hBM⟩)
  have oM := oX.trans (Only.of_below hBM)
  have hG := h.kept oM id id (fun _ _ => id)
  have hA2 := (Only.of_below hBM).obj hA id
  generalize hab : w.heap.size = ab at *
  clear hX oX hBM hA
  have z0 : wM.cell? ⟨ab, 0, none⟩ = some (.int .u8 3) := by simp [World.cell?, hA2]
  have z1 : wM.cell? ⟨ab, 1, none⟩ = some (.int .i64 c) := by simp [World.cell?, hA2]
  have z2 : wM.cell? ⟨ab, 2, none⟩ = some (.int .i64 e) := by simp [World.cell?, hA2]
  have z3 : wM.cell? ⟨ab, 3, none⟩ = some (.int .i64 q) := by simp [World.cell?, hA2]
  have z4 : wM.cell? ⟨ab, 4, none⟩ = some (.int .i64 org) := by simp [World.cell?, hA2]
  have z5 : wM.cell? ⟨ab, 5, none⟩ = some (.bool ayes) := by simp [World.cell?, hA2]
  have z6 : wM.cell? ⟨ab, 6, none⟩ = some (.int .u8 aorgs) := by simp [World.cell?, hA2]
  have hal : ab < wM.heap.size := (Array.getElem?_eq_some_iff.1 hA2).1
  obtain ⟨g0, g1, g2⟩ := hG.c
  have hgl := hG.lt
  have hl := fun n => look_map (w := wM.drewN n) hG.map hG.wf hG.nodup (c, e, q) HA.out.t
  rw [HP.out] at hl
  dsimp only [txnV] at hl
  obtain ⟨av, cap, rfl, hcc⟩ := owns_rows hG.rows
  have HC := Lib.hid hcc
  clear hcc
  go_quiet (fail)
  go_upto_region 7 with fail
  have hA3 : (wM.drewN nq).heap[ab]? = some (.cells #[.int .u8 3, .int .i64 c, .int .i64 e, .int .i64 q, .int .i64 org, .bool ayes, .int .u8 aorgs] 33 (0, 0)) := hA2
  have g1' : (wM.drewN nq).cell? ⟨gb, 1, none⟩ = some (.slice av rs.length cap) := g1
  have g2' : (wM.drewN nq).cell? ⟨gb, 2, none⟩ = some (.map (some mb)) := g2
  have hGW : GAt (wM.drewN nq) base gb mb (.slice av rs.length cap) bad rs := hG.kept ((Only.refl (fun _ : Nat => False) wM).drewN nq) id id (fun _ _ => id)
  have oW := oM.drewN nq
  clear hl z0 z1 z2 z3 z4 z5 z6 g0 g1 g2 hG oM hal hgl hA2
  generalize wM.drewN nq = W at *
  have y0 : W.cell? ⟨ab, 0, none⟩ = some (.int .u8 3) := by simp [World.cell?, hA3]
  have y1 : W.cell? ⟨ab, 1, none⟩ = some (.int .i64 c) := by simp [World.cell?, hA3]
  have y2 : W.cell? ⟨ab, 2, none⟩ = some (.int .i64 e) := by simp [World.cell?, hA3]
  have y3 : W.cell? ⟨ab, 3, none⟩ = some (.int .i64 q) := by simp [World.cell?, hA3]
  have y4 : W.cell? ⟨ab, 4, none⟩ = some (.int .i64 org) := by simp [World.cell?, hA3]
  have y5 : W.cell? ⟨ab, 5, none⟩ = some (.bool ayes) := by simp [World.cell?, hA3]
  have y6 : W.cell? ⟨ab, 6, none⟩ = some (.int .u8 aorgs) := by simp [World.cell?, hA3]
  have hup := put_map (w := W.drew) hGW.map hGW.wf (freshR (c, e, q)) HA.out.t HP.out
  dsimp only [txnV, freshR, Row.t] at hup
  go_cut [6] (fun v6 wx => v6 = .int .i64 (rs.length : Int) ∧ TMap wx mb (rs ++ [freshR (c, e, q)]) ∧ Only (fun j => j = mb) W wx)
  case first =>
    go_region
    all_goals go_wp2_with fail
    all_goals go_meet
    all_goals (case rel => exact ⟨rfl, by unfold TMap; rw [List.length_append]; exact put_at _ _ _ hGW.ltm, put_only _ _ _⟩)
  case rest =>
    obtain ⟨rfl, hTM, oT⟩ := hcut
    obtain ⟨w7, rfl⟩ : ∃ w7 : World, w7 = wc := ⟨_, rfl⟩
    clear hup y0 y1 y2 y3 y4 y5 y6 g1' g2'
    have hne := hGW.ne
    have ham : ¬ ab = mb := fun e => by
      subst e
      have := hGW.map
      unfold TMap at this
      rw [hA3] at this
      cases this
    have hA4 := oT.obj hA3 ham
    have hG4 := oT.obj hGW.cells hne
    have hR4 := oT.owns hGW.rows (map_row hGW.rows hGW.map)
    have y0 : w7.cell? ⟨ab, 0, none⟩ = some (.int .u8 3) := by simp [World.cell?, hA4]
    have y1 : w7.cell? ⟨ab, 1, none⟩ = some (.int .i64 c) := by simp [World.cell?, hA4]
    have y2 : w7.cell? ⟨ab, 2, none⟩ = some (.int .i64 e) := by simp [World.cell?, hA4]
    have y3 : w7.cell? ⟨ab, 3, none⟩ = some (.int .i64 q) := by simp [World.cell?, hA4]
    have y4 : w7.cell? ⟨ab, 4, none⟩ = some (.int .i64 org) := by simp [World.cell?, hA4]
    have y5 : w7.cell? ⟨ab, 5, none⟩ = some (.bool ayes) := by simp [World.cell?, hA4]
    have y6 : w7.cell? ⟨ab, 6, none⟩ = some (.int .u8 aorgs) := by simp [World.cell?, hA4]
    have y7 : w7.cell? ⟨gb, 1, none⟩ = some (.slice av rs.length cap) := by simp [World.cell?, hG4]
    have f7 : w7.frozen? ⟨gb, 1, none⟩ = false := by simp [World.frozen?, hG4]
    have hla : ab < w7.heap.size := (Array.getElem?_eq_some_iff.1 hA4).1
    have hlg : gb < w7.heap.size := (Array.getElem?_eq_some_iff.1 hG4).1
    have hb7 : base ≤ w7.heap.size := Nat.le_trans (Nat.le_trans (by rw [hab] at *; exact hbase) oW.size) oT.size
    have hgr : ∀ j, (Value.slice av rs.length cap).ownBlock = some j → j ≠ gb := row_ne hR4 hG4 (by decide)
    have har : ∀ j, (Value.slice av rs.length cap).ownBlock = some j → j ≠ ab := row_ne hR4 hA4 (by decide)
    obtain ⟨i0, hi0, hz0, hz1, hz2⟩ := info_parts infoRow
    go_upto_region 8 with fail
    go_cut [6] (fun v6 wx => v6 = .int .i64 (rs.length : Int) ∧ NewAt w7 wx base gb mb av rs.length cap bad ((rs ++ [freshR (c, e, q)]).flatMap rowCells))
    case first =>
      go_region_law ((refine step_append_lies _ (by rfl) _ _ _ (by rfl) base 62 i0 _ 10 32 Try.underlying52 hi0 hz0 hz1 hz2 rfl (by omega) (.slice av rs.length cap) rs.length (rs.flatMap rowCells) (by rfl) ((hR4.alloc _).drew) ⟨w7.heap.size, 0, none⟩ 1 1 (rowCells (freshR (c, e, q))) (by rfl) (by rfl) (World.news_of_block (cs := (rowCells (freshR (c, e, q))).toArray) (t := 62) (fr := (0, 0)) (heap_alloc_new w7 _)) (by simp [rowCells, Value.oneCell']) (by omega) (by unfold maxLen; omega) (by omega) (by simp; omega) (w7.heap.size + 1) (by simp) ?_; intro gg cap1 w1 hown1 hgrow hat hlt; have oP : Only (fun j => (Value.slice av rs.length cap).ownBlock = some j) w7 w1 := (((Only.refl _ w7).alloc _).drew).grown hgrow (fun _ e => e); have hGw := oP.obj hG4 (fun e => hgr _ e rfl); have y8 : w1.cell? ⟨gb, 1, none⟩ = some (.slice av rs.length cap) := (by simp [World.cell?, hGw]); have f8 : w1.frozen? ⟨gb, 1, none⟩ = false := (by simp [World.frozen?, hGw])))
      all_goals go_wp2_with fail
      all_goals go_meet
      all_goals (case rel => exact ⟨rfl, newAt_of hGw (by rw [List.flatMap_append]; simpa using hown1) hat oP⟩)
    case rest =>
      obtain ⟨rfl, ⟨⟨g, cap2, hc2, ho2, hgat⟩, oN⟩⟩ := hcut
      obtain ⟨W8, rfl⟩ : ∃ W8 : World, W8 = wc := ⟨_, rfl⟩
      have n1 : ¬ (ab = gb ∨ (Value.slice av rs.length cap).ownBlock = some ab) := fun e => e.elim (fun e => by
        subst e
        rw [hA4] at hG4
        cases hG4) (fun e => har _ e rfl)
      have n2 : ¬ (mb = gb ∨ (Value.slice av rs.length cap).ownBlock = some mb) := fun e => e.elim (fun e => hne e.symm) (fun e => map_row hR4 hTM mb e rfl)
      have hA5 := oN.obj hA4 n1
      have hM5 : TMap W8 mb (rs ++ [freshR (c, e, q)]) := oN.obj hTM n2
      have hok := freshR_ok HA.out.t
      have hG8 := new_at (r := freshR (c, e, q)) hGW hroom hok HP.out hc2 ho2 hM5
      have oW8 : Only (fun j => j = gb ∨ j = mb ∨ (Value.slice av rs.length cap).ownBlock = some j) w W8 := ((oW.shrink (fun _ _ e => e.elim)).trans (oT.shrink (fun _ _ e => .inr (.inl e)))).trans (oN.shrink (fun _ _ e => e.imp id .inr))
      have hgat' : (Value.slice av rs.length cap).ownBlock = some g ∨ w.heap.size ≤ g := hgat.imp id (fun e => Nat.le_trans (Nat.le_trans oW.size oT.size) e)
      have hRW : RowIn W8 base (.slice (some ⟨g, 0, none⟩) (rs.length + 1) cap2) (rs ++ [freshR (c, e, q)]) g rs.length (freshR (c, e, q)) := ⟨hG8.rows, by simp, rfl⟩
      have hwl : ab < W8.heap.size := (Array.getElem?_eq_some_iff.1 hA5).1
      have hwg : gb < W8.heap.size := hG8.lt
      have y7' : W8.cell? ⟨gb, 1, none⟩ = some (.slice (some ⟨g, 0, none⟩) (rs.length + 1) cap2) := hG8.c.2.1
      have hn1 : ¬ ab = g := Ne.symm (row_ne hRW.own hA5 (by decide) g rfl)
      have hn2 : ¬ gb = g := Ne.symm (row_ne hRW.own hG8.cells (by decide) g rfl)
      clear y0 y1 y2 y3 y4 y5 y6 y7 f7 hG4 hA4 hR4 hgr har hla hlg hb7 hA3 hGW oW oT oN hTM hgat hc2 ho2 n1 n2 hM5 hi0 hz0 hz1 hz2
      obtain ⟨W, rfl⟩ : ∃ W : World, W = W8 := ⟨_, rfl⟩
      have y7 := y7'
      obtain ⟨nn, hnn⟩ : ∃ nn, rs.length + 1 = nn := ⟨_, rfl⟩
      rw [hnn] at y7 hRW
      have hix : rs.length < nn := by omega
      have HNN := Lib.hid hnn
      clear hnn
      clear y7'
      go_upto_region 9 with fail
      have y0 : W.cell? ⟨ab, 0, none⟩ = some (.int .u8 3) := by simp [World.cell?, hA5]
      have y1 : W.cell? ⟨ab, 1, none⟩ = some (.int .i64 c) := by simp [World.cell?, hA5]
      have y2 : W.cell? ⟨ab, 2, none⟩ = some (.int .i64 e) := by simp [World.cell?, hA5]
      have y3 : W.cell? ⟨ab, 3, none⟩ = some (.int .i64 q) := by simp [World.cell?, hA5]
      have y4 : W.cell? ⟨ab, 4, none⟩ = some (.int .i64 org) := by simp [World.cell?, hA5]
      have y5 : W.cell? ⟨ab, 5, none⟩ = some (.bool ayes) := by simp [World.cell?, hA5]
      have y6 : W.cell? ⟨ab, 6, none⟩ = some (.int .u8 aorgs) := by simp [World.cell?, hA5]
      have l1 := look_kinds (W.alloc (.map kindsEs 4)).drew W.heap.size 3 false (heap_alloc_new W _)
      rw [if_neg (by decide), show kindV 3 = .agg #[.bool false, .bool false, .bool true, .func (.func 51) #[] #[], .func (.func 52) #[] #[]] from rfl] at l1
      have hfl := fun w => field_3 w
      have hRA := (hRW.alloc (.map kindsEs 4)).drewN 1
      have oA := ((Only.refl (fun _ : Nat => False) W).alloc (.map kindsEs 4)).drew
      obtain ⟨hgl', hkl'⟩ := hRW.lt
      go_region_held3 (fun w' => w'.cell? ⟨ab, 0, none⟩ = some (.int .u8 3) ∧ w'.cell? ⟨ab, 1, none⟩ = some (.int .i64 c) ∧ w'.cell? ⟨ab, 2, none⟩ = some (.int .i64 e) ∧ w'.cell? ⟨ab, 3, none⟩ = some (.int .i64 q) ∧ w'.cell? ⟨ab, 4, none⟩ = some (.int .i64 org) ∧ w'.cell? ⟨ab, 5, none⟩ = some (.bool ayes) ∧ w'.cell? ⟨ab, 6, none⟩ = some (.int .u8 aorgs) ∧ w'.cell? ⟨gb, 1, none⟩ = some (.slice (some ⟨g, 0, none⟩) nn cap2))
        (first | exact ⟨y0, y1, y2, y3, y4, y5, y6, y7⟩ | exact ⟨oA.cell y0 id, oA.cell y1 id, oA.cell y2 id, oA.cell y3 id, oA.cell y4 id, oA.cell y5 id, oA.cell y6 id, oA.cell y7 id⟩ | exact ⟨oF.cell y0 hn1, oF.cell y1 hn1, oF.cell y2 hn1, oF.cell y3 hn1, oF.cell y4 hn1, oF.cell y5 hn1, oF.cell y6 hn1, oF.cell y7 hn2⟩)
        (first | (go_at_call 43; refine (kinds_any _).mono ?_; rintro r' wT ⟨rfl, rfl⟩) | (go_at_call 52; refine (decide_any _ base _ _ g _ _ ⟨3, c, e, q, org, ayes, aorgs⟩ _ (by exact hRA)).mono ?_; rintro r' wF ⟨⟨vF, rfl⟩, hRF, hoF⟩; have oF : Only (fun j => j = g) W wF := (oA.shrink (T := fun j => j = g) (fun _ _ e => e.elim)).trans ⟨hoF.os, hoF.tape, hoF.output, hoF.size, hoF.block⟩))
      all_goals go_wp2_with fail
      all_goals go_ret
      all_goals obtain rfl := HNN.out
      all_goals exact new_post W hok HA.out rfl hG8 oW8 hgat' hRF oF

set_option maxRecDepth 100000 in
set_option maxHeartbeats 4000000 in
theorem apply_old_4 (base gb mb : Nat) (rv : Value) (bad : Int) (rs : List Row) (k : Nat) (r : Row) (c e q org : Int) (ayes : Bool) (aorgs : Int) (w : World) (h : GAt w base gb mb rv bad rs) (ha : ActWf ⟨4, c, e, q, org, ayes, aorgs⟩) (hv : mayV bad rs ⟨4, c, e, q, org, ayes, aorgs⟩ = 0) (hp : placeOf rs (c, e, q) = some k) (hr : rs[k]? = some r) (o0 : 0 ≤ org) (o7 : org ≤ 7) :
    Calls Try.prog 36 #[.pointer (some ⟨gb, 0, none⟩), actV ⟨4, c, e, q, org, ayes, aorgs⟩] w (ApOwn 0 w base gb mb rv bad (rs.set k (learnR r ⟨4, c, e, q, org, ayes, aorgs⟩))) := by
  have HM := Lib.hid hv
  have HA := Lib.hid ha
  have HP := Lib.hid hp
  have HR := Lib.hid hr
  have hk : k < rs.length := (List.getElem?_eq_some_iff.1 hr).1
  have hfew := h.few
  clear hr
  have oX := (Only.refl (fun _ : Nat => False) w).alloc (.cells #[.int .u8 4, .int .i64 c, .int .i64 e, .int .i64 q, .int .i64 org, .bool ayes, .int .u8 aorgs] 33)
  have hX := h.kept oX id id (fun _ _ => id)
  have hA := heap_alloc_new w (.cells #[.int .u8 4, .int .i64 c, .int .i64 e, .int .i64 q, .int .i64 org, .bool ayes, .int .u8 aorgs] 33)
  unfold actV
  dsimp only
  clear hv hp ha
  go_enter Try.func36, Try.ntmps36
  go_upto_region 4 with (go_at_call 42; refine (may_is 0 base gb mb rv bad rs ⟨4, c, e, q, org, ayes, aorgs⟩ HM.out _ (by exact hX) HA.out).mono ?_; rintro r' wM ⟨rfl, hBM⟩)
  have oM := oX.trans (Only.of_below hBM)
  have hG := h.kept oM id id (fun _ _ => id)
  have hA2 := (Only.of_below hBM).obj hA id
  generalize hab : w.heap.size = ab at *
  clear hX oX hBM hA
  have z0 : wM.cell? ⟨ab, 0, none⟩ = some (.int .u8 4) := by simp [World.cell?, hA2]
  have z1 : wM.cell? ⟨ab, 1, none⟩ = some (.int .i64 c) := by simp [World.cell?, hA2]
  have z2 : wM.cell? ⟨ab, 2, none⟩ = some (.int .i64 e) := by simp [World.cell?, hA2]
  have z3 : wM.cell? ⟨ab, 3, none⟩ = some (.int .i64 q) := by simp [World.cell?, hA2]
  have z4 : wM.cell? ⟨ab, 4, none⟩ = some (.int .i64 org) := by simp [World.cell?, hA2]
  have z5 : wM.cell? ⟨ab, 5, none⟩ = some (.bool ayes) := by simp [World.cell?, hA2]
  have z6 : wM.cell? ⟨ab, 6, none⟩ = some (.int .u8 aorgs) := by simp [World.cell?, hA2]
  have hal : ab < wM.heap.size := (Array.getElem?_eq_some_iff.1 hA2).1
  obtain ⟨g0, g1, g2⟩ := hG.c
  have hgl := hG.lt
  have hl := fun n => look_map (w := wM.drewN n) hG.map hG.wf hG.nodup (c, e, q) HA.out.t
  rw [HP.out] at hl
  dsimp only [txnV] at hl
  obtain ⟨av, cap, rfl, hcc⟩ := owns_rows hG.rows
  obtain ⟨g, rfl, hgo, _, _⟩ := hcc (by omega)
  have hRI : RowIn wM base (.slice (some ⟨g, 0, none⟩) rs.length cap) rs g k r := ⟨hG.rows, HR.out, hgo⟩
  clear hcc
  go_quiet (fail)
  go_upto_region 9 with fail
  have hA3 : (wM.drewN nq).heap[ab]? = some (.cells #[.int .u8 4, .int .i64 c, .int .i64 e, .int .i64 q, .int .i64 org, .bool ayes, .int .u8 aorgs] 33 (0, 0)) := hA2
  have y7 : (wM.drewN nq).cell? ⟨gb, 1, none⟩ = some (.slice (some ⟨g, 0, none⟩) rs.length cap) := g1
  have hGW : GAt (wM.drewN nq) base gb mb (.slice (some ⟨g, 0, none⟩) rs.length cap) bad rs := hG.kept ((Only.refl (fun _ : Nat => False) wM).drewN nq) id id (fun _ _ => id)
  have oW := oM.drewN nq
  have hRW := hRI.drewN nq
  have hwl : ab < (wM.drewN nq).heap.size := hal
  have hwg : gb < (wM.drewN nq).heap.size := hgl
  have hn1 : ¬ ab = g := Ne.symm (row_ne hRW.own hA3 (by decide) g hgo)
  have hn2 : ¬ gb = g := Ne.symm (row_ne hRW.own hGW.cells (by decide) g hgo)
  clear hl z0 z1 z2 z3 z4 z5 z6 g0 g1 g2 hG oM hRI hal hgl hA2
  generalize wM.drewN nq = W at *
  have y0 : W.cell? ⟨ab, 0, none⟩ = some (.int .u8 4) := by simp [World.cell?, hA3]
  have y1 : W.cell? ⟨ab, 1, none⟩ = some (.int .i64 c) := by simp [World.cell?, hA3]
  have y2 : W.cell? ⟨ab, 2, none⟩ = some (.int .i64 e) := by simp [World.cell?, hA3]
  have y3 : W.cell? ⟨ab, 3, none⟩ = some (.int .i64 q) := by simp [World.cell?, hA3]
  have y4 : W.cell? ⟨ab, 4, none⟩ = some (.int .i64 org) := by simp [World.cell?, hA3]
  have y5 : W.cell? ⟨ab, 5, none⟩ = some (.bool ayes) := by simp [World.cell?, hA3]
  have y6 : W.cell? ⟨ab, 6, none⟩ = some (.int .u8 aorgs) := by simp [World.cell?, hA3]
  have l1 := look_kinds (W.alloc (.map kindsEs 4)).drew W.heap.size 4 false (heap_alloc_new W _)
  rw [if_neg (by decide), show kindV 4 = .agg #[.bool false, .bool true, .bool true, .func (.func 53) #[] #[], .func (.func 54) #[] #[]] from rfl] at l1
  have hfl := fun w => field_4 w
  have hRA := (hRW.alloc (.map kindsEs 4)).drewN 1
  have oA := ((Only.refl (fun _ : Nat => False) W).alloc (.map kindsEs 4)).drew
  obtain ⟨hgl', hkl'⟩ := hRW.lt
  go_region_held3 (fun w' => w'.cell? ⟨ab, 0, none⟩ = some (.int .u8 4) ∧ w'.cell? ⟨ab, 1, none⟩ = some (.int .i64 c) ∧ w'.cell? ⟨ab, 2, none⟩ = some (.int .i64 e) ∧ w'.cell? ⟨ab, 3, none⟩ = some (.int .i64 q) ∧ w'.cell? ⟨ab, 4, none⟩ = some (.int .i64 org) ∧ w'.cell? ⟨ab, 5, none⟩ = some (.bool ayes) ∧ w'.cell? ⟨ab, 6, none⟩ = some (.int .u8 aorgs) ∧ w'.cell? ⟨gb, 1, none⟩ = some (.slice (some ⟨g, 0, none⟩) rs.length cap))
    (first | exact ⟨y0, y1, y2, y3, y4, y5, y6, y7⟩ | exact ⟨oA.cell y0 id, oA.cell y1 id, oA.cell y2 id, oA.cell y3 id, oA.cell y4 id, oA.cell y5 id, oA.cell y6 id, oA.cell y7 id⟩ | exact ⟨oF.cell y0 hn1, oF.cell y1 hn1, oF.cell y2 hn1, oF.cell y3 hn1, oF.cell y4 hn1, oF.cell y5 hn1, oF.cell y6 hn1, oF.cell y7 hn2⟩)
    (first | (go_at_call 43; refine (kinds_any _).mono ?_; rintro r' wT ⟨rfl, rfl⟩) | (go_at_call 54; refine (learn_any _ base _ _ g _ _ ⟨4, c, e, q, org, ayes, aorgs⟩ _ (by exact hRA) o0 o7).mono ?_; rintro r' wF ⟨⟨vF, rfl⟩, hRF, hoF⟩; have oF : Only (fun j => j = g) W wF := (oA.shrink (T := fun j => j = g) (fun _ _ e => e.elim)).trans ⟨hoF.os, hoF.tape, hoF.output, hoF.size, hoF.block⟩))
  all_goals go_wp2_with fail
  all_goals go_ret
  all_goals exact old_post W HR.out HA.out rfl hGW oW hRF oF

set_option maxRecDepth 100000 in
set_option maxHeartbeats 4000000 in
theorem apply_new_4 (base gb mb : Nat) (rv : Value) (bad : Int) (rs : List Row) (c e q org : Int) (ayes : Bool) (aorgs : Int) (w : World) (h : GAt w base gb mb rv bad rs) (hbase : base ≤ w.heap.size) (hroom : rs.length < 1000) (ha : ActWf ⟨4, c, e, q, org, ayes, aorgs⟩) (hv : mayV bad rs ⟨4, c, e, q, org, ayes, aorgs⟩ = 0) (hp : placeOf rs (c, e, q) = none) (o0 : 0 ≤ org) (o7 : org ≤ 7) :
    Calls Try.prog 36 #[.pointer (some ⟨gb, 0, none⟩), actV ⟨4, c, e, q, org, ayes, aorgs⟩] w (ApOwn 0 w base gb mb rv bad (rs ++ [learnR (freshR (c, e, q)) ⟨4, c, e, q, org, ayes, aorgs⟩])) := by
  have HM := Lib.hid hv
  have HA := Lib.hid ha
  have HP := Lib.hid hp
  have oX := (Only.refl (fun _ : Nat => False) w).alloc (.cells #[.int .u8 4, .int .i64 c, .int .i64 e, .int .i64 q, .int .i64 org, .bool ayes, .int .u8 aorgs] 33)
  have hX := h.kept oX id id (fun _ _ => id)
  have hA := heap_alloc_new w (.cells #[.int .u8 4, .int .i64 c, .int .i64 e, .int .i64 q, .int .i64 org, .bool ayes, .int .u8 aorgs] 33)
  unfold actV
  dsimp only
  clear hv hp ha
  go_enter Try.func36, Try.ntmps36
  go_upto_region 4 with (go_at_call 42; refine (may_is 0 base gb mb rv bad rs ⟨4, c, e, q, org, ayes, aorgs⟩ HM.out _ (by exact hX) HA.out).mono ?_; rintro r' wM ⟨rfl, hBM⟩)
  have oM := oX.trans (Only.of_below hBM)
  have hG := h.kept oM id id (fun _ _ => id)
  have hA2 := (Only.of_below hBM).obj hA id
  generalize hab : w.heap.size = ab at *
  clear hX oX hBM hA
  have z0 : wM.cell? ⟨ab, 0, none⟩ = some (.int .u8 4) := by simp [World.cell?, hA2]
  have z1 : wM.cell? ⟨ab, 1, none⟩ = some (.int .i64 c) := by simp [World.cell?, hA2]
  have z2 : wM.cell? ⟨ab, 2, none⟩ = some (.int .i64 e) := by simp [World.cell?, hA2]
  have z3 : wM.cell? ⟨ab, 3, none⟩ = some (.int .i64 q) := by simp [World.cell?, hA2]
  have z4 : wM.cell? ⟨ab, 4, none⟩ = some (.int .i64 org) := by simp [World.cell?, hA2]
  have z5 : wM.cell? ⟨ab, 5, none⟩ = some (.bool ayes) := by simp [World.cell?, hA2]
  have z6 : wM.cell? ⟨ab, 6, none⟩ = some (.int .u8 aorgs) := by simp [World.cell?, hA2]
  have hal : ab < wM.heap.size := (Array.getElem?_eq_some_iff.1 hA2).1
  obtain ⟨g0, g1, g2⟩ := hG.c
  have hgl := hG.lt
  have hl := fun n => look_map (w := wM.drewN n) hG.map hG.wf hG.nodup (c, e, q) HA.out.t
  rw [HP.out] at hl
  dsimp only [txnV] at hl
  obtain ⟨av, cap, rfl, hcc⟩ := owns_rows hG.rows
  have HC := Lib.hid hcc
  clear hcc
  go_quiet (fail)
  go_upto_region 7 with fail
  have hA3 : (wM.drewN nq).heap[ab]? = some (.cells #[.int .u8 4, .int .i64 c, .int .i64 e, .int .i64 q, .int .i64 org, .bool ayes, .int .u8 aorgs] 33 (0, 0)) := hA2
  have g1' : (wM.drewN nq).cell? ⟨gb, 1, none⟩ = some (.slice av rs.length cap) := g1
  have g2' : (wM.drewN nq).cell? ⟨gb, 2, none⟩ = some (.map (some mb)) := g2
  have hGW : GAt (wM.drewN nq) base gb mb (.slice av rs.length cap) bad rs := hG.kept ((Only.refl (fun _ : Nat => False) wM).drewN nq) id id (fun _ _ => id)
  have oW := oM.drewN nq
  clear hl z0 z1 z2 z3 z4 z5 z6 g0 g1 g2 hG oM hal hgl hA2
  generalize wM.drewN nq = W at *
  have y0 : W.cell? ⟨ab, 0, none⟩ = some (.int .u8 4) := by simp [World.cell?, hA3]
  have y1 : W.cell? ⟨ab, 1, none⟩ = some (.int .i64 c) := by simp [World.cell?, hA3]
  have y2 : W.cell? ⟨ab, 2, none⟩ = some (.int .i64 e) := by simp [World.cell?, hA3]
  have y3 : W.cell? ⟨ab, 3, none⟩ = some (.int .i64 q) := by simp [World.cell?, hA3]
  have y4 : W.cell? ⟨ab, 4, none⟩ = some (.int .i64 org) := by simp [World.cell?, hA3]
  have y5 : W.cell? ⟨ab, 5, none⟩ = some (.bool ayes) := by simp [World.cell?, hA3]
  have y6 : W.cell? ⟨ab, 6, none⟩ = some (.int .u8 aorgs) := by simp [World.cell?, hA3]
  have hup := put_map (w := W.drew) hGW.map hGW.wf (freshR (c, e, q)) HA.out.t HP.out
  dsimp only [txnV, freshR, Row.t] at hup
  go_cut [6] (fun v6 wx => v6 = .int .i64 (rs.length : Int) ∧ TMap wx mb (rs ++ [freshR (c, e, q)]) ∧ Only (fun j => j = mb) W wx)
  case first =>
    go_region
    all_goals go_wp2_with fail
    all_goals go_meet
    all_goals (case rel => exact ⟨rfl, by unfold TMap; rw [List.length_append]; exact put_at _ _ _ hGW.ltm, put_only _ _ _⟩)
  case rest =>
    obtain ⟨rfl, hTM, oT⟩ := hcut
    obtain ⟨w7, rfl⟩ : ∃ w7 : World, w7 = wc := ⟨_, rfl⟩
    clear hup y0 y1 y2 y3 y4 y5 y6 g1' g2'
    have hne := hGW.ne
    have ham : ¬ ab = mb := fun e => by
      subst e
      have := hGW.map
      unfold TMap at this
      rw [hA3] at this
      cases this
    have hA4 := oT.obj hA3 ham
    have hG4 := oT.obj hGW.cells hne
    have hR4 := oT.owns hGW.rows (map_row hGW.rows hGW.map)
    have y0 : w7.cell? ⟨ab, 0, none⟩ = some (.int .u8 4) := by simp [World.cell?, hA4]
    have y1 : w7.cell? ⟨ab, 1, none⟩ = some (.int .i64 c) := by simp [World.cell?, hA4]
    have y2 : w7.cell? ⟨ab, 2, none⟩ = some (.int .i64 e) := by simp [World.cell?, hA4]
    have y3 : w7.cell? ⟨ab, 3, none⟩ = some (.int .i64 q) := by simp [World.cell?, hA4]
    have y4 : w7.cell? ⟨ab, 4, none⟩ = some (.int .i64 org) := by simp [World.cell?, hA4]
    have y5 : w7.cell? ⟨ab, 5, none⟩ = some (.bool ayes) := by simp [World.cell?, hA4]
    have y6 : w7.cell? ⟨ab, 6, none⟩ = some (.int .u8 aorgs) := by simp [World.cell?, hA4]
    have y7 : w7.cell? ⟨gb, 1, none⟩ = some (.slice av rs.length cap) := by simp [World.cell?, hG4]
    have f7 : w7.frozen? ⟨gb, 1, none⟩ = false := by simp [World.frozen?, hG4]
    have hla : ab < w7.heap.size := (Array.getElem?_eq_some_iff.1 hA4).1
    have hlg : gb < w7.heap.size := (Array.getElem?_eq_some_iff.1 hG4).1
    have hb7 : base ≤ w7.heap.size := Nat.le_trans (Nat.le_trans (by rw [hab] at *; exact hbase) oW.size) oT.size
    have hgr : ∀ j, (Value.slice av rs.length cap).ownBlock = some j → j ≠ gb := row_ne hR4 hG4 (by decide)
    have har : ∀ j, (Value.slice av rs.length cap).ownBlock = some j → j ≠ ab := row_ne hR4 hA4 (by decide)
    obtain ⟨i0, hi0, hz0, hz1, hz2⟩ := info_parts infoRow
    go_upto_region 8 with fail
    go_cut [6] (fun v6 wx => v6 = .int .i64 (rs.length : Int) ∧ NewAt w7 wx base gb mb av rs.length cap bad ((rs ++ [freshR (c, e, q)]).flatMap rowCells))
    case first =>
      go_region_law ((refine step_append_lies _ (by rfl) _ _ _ (by rfl) base 62 i0 _ 10 32 Try.underlying52 hi0 hz0 hz1 hz2 rfl (by omega) (.slice av rs.length cap) rs.length (rs.flatMap rowCells) (by rfl) ((hR4.alloc _).drew) ⟨w7.heap.size, 0, none⟩ 1 1 (rowCells (freshR (c, e, q))) (by rfl) (by rfl) (World.news_of_block (cs := (rowCells (freshR (c, e, q))).toArray) (t := 62) (fr := (0, 0)) (heap_alloc_new w7 _)) (by simp [rowCells, Value.oneCell']) (by omega) (by unfold maxLen; omega) (by omega) (by simp; omega) (w7.heap.size + 1) (by simp) ?_; intro gg cap1 w1 hown1 hgrow hat hlt; have oP : Only (fun j => (Value.slice av rs.length cap).ownBlock = some j) w7 w1 := (((Only.refl _ w7).alloc _).drew).grown hgrow (fun _ e => e); have hGw := oP.obj hG4 (fun e => hgr _ e rfl); have y8 : w1.cell? ⟨gb, 1, none⟩ = some (.slice av rs.length cap) := (by simp [World.cell?, hGw]); have f8 : w1.frozen? ⟨gb, 1, none⟩ = false := (by simp [World.frozen?, hGw])))
      all_goals go_wp2_with fail
      all_goals go_meet
      all_goals (case rel => exact ⟨rfl, newAt_of hGw (by rw [List.flatMap_append]; simpa using hown1) hat oP⟩)
    case rest =>
      obtain ⟨rfl, ⟨⟨g, cap2, hc2, ho2, hgat⟩, oN⟩⟩ := hcut
      obtain ⟨W8, rfl⟩ : ∃ W8 : World, W8 = wc := ⟨_, rfl⟩
      have n1 : ¬ (ab = gb ∨ (Value.slice av rs.length cap).ownBlock = some ab) := fun e => e.elim (fun e => by
        subst e
        rw [hA4] at hG4
        cases hG4) (fun e => har _ e rfl)
      have n2 : ¬ (mb = gb ∨ (Value.slice av rs.length cap).ownBlock = some mb) := fun e => e.elim (fun e => hne e.symm) (fun e => map_row hR4 hTM mb e rfl)
      have hA5 := oN.obj hA4 n1
      have hM5 : TMap W8 mb (rs ++ [freshR (c, e, q)]) := oN.obj hTM n2
      have hok := freshR_ok HA.out.t
      have hG8 := new_at (r := freshR (c, e, q)) hGW hroom hok HP.out hc2 ho2 hM5
      have oW8 : Only (fun j => j = gb ∨ j = mb ∨ (Value.slice av rs.length cap).ownBlock = some j) w W8 := ((oW.shrink (fun _ _ e => e.elim)).trans (oT.shrink (fun _ _ e => .inr (.inl e)))).trans (oN.shrink (fun _ _ e => e.imp id .inr))
      have hgat' : (Value.slice av rs.length cap).ownBlock = some g ∨ w.heap.size ≤ g := hgat.imp id (fun e => Nat.le_trans (Nat.le_trans oW.size oT.size) e)
      have hRW : RowIn W8 base (.slice (some ⟨g, 0, none⟩) (rs.length + 1) cap2) (rs ++ [freshR (c, e, q)]) g rs.length (freshR (c, e, q)) := ⟨hG8.rows, by simp, rfl⟩
      have hwl : ab < W8.heap.size := (Array.getElem?_eq_some_iff.1 hA5).1
      have hwg : gb < W8.heap.size := hG8.lt
      have y7' : W8.cell? ⟨gb, 1, none⟩ = some (.slice (some ⟨g, 0, none⟩) (rs.length + 1) cap2) := hG8.c.2.1
      have hn1 : ¬ ab = g := Ne.symm (row_ne hRW.own hA5 (by decide) g rfl)
      have hn2 : ¬ gb = g := Ne.symm (row_ne hRW.own hG8.cells (by decide) g rfl)
      clear y0 y1 y2 y3 y4 y5 y6 y7 f7 hG4 hA4 hR4 hgr har hla hlg hb7 hA3 hGW oW oT oN hTM hgat hc2 ho2 n1 n2 hM5 hi0 hz0 hz1 hz2
      obtain ⟨W, rfl⟩ : ∃ W : World, W = W8 := ⟨_, rfl⟩
      have y7 := y7'
      obtain ⟨nn, hnn⟩ : ∃ nn, rs.length + 1 = nn := ⟨_, rfl⟩
      rw [hnn] at y7 hRW
      have hix : rs.length < nn := by omega
      have HNN := Lib.hid hnn
      clear hnn
      clear y7'
      go_upto_region 9 with fail
      have y0 : W.cell? ⟨ab, 0, none⟩ = some (.int .u8 4) := by simp [World.cell?, hA5]
      have y1 : W.cell? ⟨ab, 1, none⟩ = some (.int .i64 c) := by simp [World.cell?, hA5]
      have y2 : W.cell? ⟨ab, 2, none⟩ = some (.int .i64 e) := by simp [World.cell?, hA5]
      have y3 : W.cell? ⟨ab, 3, none⟩ = some (.int .i64 q) := by simp [World.cell?, hA5]
      have y4 : W.cell? ⟨ab, 4, none⟩ = some (.int .i64 org) := by simp [World.cell?, hA5]
      have y5 : W.cell? ⟨ab, 5, none⟩ = some (.bool ayes) := by simp [World.cell?, hA5]
      have y6 : W.cell? ⟨ab, 6, none⟩ = some (.int .u8 aorgs) := by simp [World.cell?, hA5]
      have l1 := look_kinds (W.alloc (.map kindsEs 4)).drew W.heap.size 4 false (heap_alloc_new W _)
      rw [if_neg (by decide), show kindV 4 = .agg #[.bool false, .bool true, .bool true, .func (.func 53) #[] #[], .func (.func 54) #[] #[]] from rfl] at l1
      have hfl := fun w => field_4 w
      have hRA := (hRW.alloc (.map kindsEs 4)).drewN 1
      have oA := ((Only.refl (fun _ : Nat => False) W).alloc (.map kindsEs 4)).drew
      obtain ⟨hgl', hkl'⟩ := hRW.lt
      go_region_held3 (fun w' => w'.cell? ⟨ab, 0, none⟩ = some (.int .u8 4) ∧ w'.cell? ⟨ab, 1, none⟩ = some (.int .i64 c) ∧ w'.cell? ⟨ab, 2, none⟩ = some (.int .i64 e) ∧ w'.cell? ⟨ab, 3, none⟩ = some (.int .i64 q) ∧ w'.cell? ⟨ab, 4, none⟩ = some (.int .i64 org) ∧ w'.cell? ⟨ab, 5, none⟩ = some (.bool ayes) ∧ w'.cell? ⟨ab, 6, none⟩ = some (.int .u8 aorgs) ∧ w'.cell? ⟨gb, 1, none⟩ = some (.slice (some ⟨g, 0, none⟩) nn cap2))
        (first | exact ⟨y0, y1, y2, y3, y4, y5, y6, y7⟩ | exact ⟨oA.cell y0 id, oA.cell y1 id, oA.cell y2 id, oA.cell y3 id, oA.cell y4 id, oA.cell y5 id, oA.cell y6 id, oA.cell y7 id⟩ | exact ⟨oF.cell y0 hn1, oF.cell y1 hn1, oF.cell y2 hn1, oF.cell y3 hn1, oF.cell y4 hn1, oF.cell y5 hn1, oF.cell y6 hn1, oF.cell y7 hn2⟩)
        (first | (go_at_call 43; refine (kinds_any _).mono ?_; rintro r' wT ⟨rfl, rfl⟩) | (go_at_call 54; refine (learn_any _ base _ _ g _ _ ⟨4, c, e, q, org, ayes, aorgs⟩ _ (by exact hRA) o0 o7).mono ?_; rintro r' wF ⟨⟨vF, rfl⟩, hRF, hoF⟩; have oF : Only (fun j => j = g) W wF := (oA.shrink (T := fun j => j = g) (fun _ _ e => e.elim)).trans ⟨hoF.os, hoF.tape, hoF.output, hoF.size, hoF.block⟩))
      all_goals go_wp2_with fail
      all_goals go_ret
      all_goals obtain rfl := HNN.out
      all_goals exact new_post W hok HA.out rfl hG8 oW8 hgat' hRF oF

theorem mayV_arg {bad : Int} {rs : List Row} {a : Act'} (h : mayV bad rs a = 0) : argB bad a = true := by
  unfold mayV at h
  split at h
  · assumption
  · omega
theorem mayV_kind {bad : Int} {rs : List Row} {a : Act'} (h : mayV bad rs a = 0) : a.kind = 1 ∨ a.kind = 2 ∨ a.kind = 3 ∨ a.kind = 4 := by
  have := mayV_arg h
  unfold argB kindIs at this
  simp at this
  omega
theorem mayV_org {bad : Int} {rs : List Row} {a : Act'} (h : mayV bad rs a = 0) (hk : a.kind = 2 ∨ a.kind = 4) : 0 ≤ a.org ∧ a.org ≤ 7 := by
  have h1 := mayV_arg h
  unfold argB at h1
  rw [Bool.and_eq_true] at h1
  have h2 := h1.2
  rw [show krB a.kind = true by rcases hk with e | e <;> rw [e] <;> rfl] at h2
  exact mayBe_org h2

theorem apply_own (base gb mb : Nat) (rv : Value) (bad : Int) (rs : List Row) (a : Act') (w : World) (h : GAt w base gb mb rv bad rs) (hbase : base ≤ w.heap.size) (hroom : rs.length < 1000) (ha : ActWf a) :
    Calls Try.prog 36 #[.pointer (some ⟨gb, 0, none⟩), actV a] w (ApOwn (mayV bad rs a) w base gb mb rv bad (applyR bad rs a)) := by
  by_cases hv : mayV bad rs a = 0
  · rw [applyR, if_pos hv, hv]
    have hk := mayV_kind hv
    have hg := mayV_org hv
    obtain ⟨kind, c, e, q, org, ayes, aorgs⟩ := a
    unfold putR
    show Calls _ _ _ _ (ApOwn 0 w base gb mb rv bad (match placeOf rs (c, e, q) with | some k => rs.set k (doR (rs.getD k (freshR (c, e, q))) ⟨kind, c, e, q, org, ayes, aorgs⟩) | none => rs ++ [doR (freshR (c, e, q)) ⟨kind, c, e, q, org, ayes, aorgs⟩]))
    dsimp only at hk hg
    cases hp : placeOf rs (c, e, q) with
    | some k =>
      obtain ⟨r, hr, hrt⟩ := place_some hp
      have hgd : rs.getD k (freshR (c, e, q)) = r := by simp [List.getD_eq_getElem?_getD, hr]
      dsimp only
      rw [hgd]
      rcases hk with rfl | rfl | rfl | rfl
      · exact apply_old_1 base gb mb rv bad rs k r c e q org ayes aorgs w h ha hv hp hr
      · obtain ⟨o0, o7⟩ := hg (.inl rfl)
        exact apply_old_2 base gb mb rv bad rs k r c e q org ayes aorgs w h ha hv hp hr o0 o7
      · exact apply_old_3 base gb mb rv bad rs k r c e q org ayes aorgs w h ha hv hp hr
      · obtain ⟨o0, o7⟩ := hg (.inr rfl)
        exact apply_old_4 base gb mb rv bad rs k r c e q org ayes aorgs w h ha hv hp hr o0 o7
    | none =>
      dsimp only
      rcases hk with rfl | rfl | rfl | rfl
      · exact apply_new_1 base gb mb rv bad rs c e q org ayes aorgs w h hbase hroom ha hv hp
      · obtain ⟨o0, o7⟩ := hg (.inl rfl)
        exact apply_new_2 base gb mb rv bad rs c e q org ayes aorgs w h hbase hroom ha hv hp o0 o7
      · exact apply_new_3 base gb mb rv bad rs c e q org ayes aorgs w h hbase hroom ha hv hp
      · obtain ⟨o0, o7⟩ := hg (.inr rfl)
        exact apply_new_4 base gb mb rv bad rs c e q org ayes aorgs w h hbase hroom ha hv hp o0 o7
  · rw [applyR, if_neg hv]
    exact apply_no base gb mb rv bad rs a w h ha hv

theorem apply_any (base gb mb : Nat) (rv : Value) (bad : Int) (rs : List Row) (a : Act') (w : World) (h : GAt w base gb mb rv bad rs) (hbase : base ≤ w.heap.size) (hroom : rs.length < 1000) (ha : ActWf a) :
    Calls Try.prog 36 #[.pointer (some ⟨gb, 0, none⟩), actV a] w (ApPost (mayV bad rs a) w base gb mb rv bad (applyR bad rs a)) :=
  (apply_own base gb mb rv bad rs a w h hbase hroom ha).mono fun _ _ ⟨h1, ⟨rv', h2, _⟩, h3⟩ => ⟨h1, ⟨rv', h2⟩, h3⟩
end Go.Proofs.Ytkjfagchololbaa
