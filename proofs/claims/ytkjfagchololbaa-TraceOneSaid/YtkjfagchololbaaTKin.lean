/- The walks of the trace's kinds, and of what its map's functions make. -/
import Derived.Test.YtkjfagchololbaaTHst
import Derived.Maps.Own
import Derived.Laws.EntriesVeiled
namespace Go.Proofs.Ytkjfagchololbaa
open Go.RowKit

def kfV (p : Nat) : Value := .agg #[.func (.func 33) #[] #[.pointer (some ⟨p, 0, none⟩)]]

theorem own_any (k : Int) (w : World) : Calls Try.prog 32 #[.int .u8 k] w fun e w' => e = .returned (kfV w.heap.size) ∧ w'.heap[w.heap.size]? = some (.cells #[.int .u8 k] 5 (0, 0)) ∧ Only (fun _ => False) w w' := by
  go_enter Try.func32, Try.ntmps32
  go_wp2
  refine bodyPost_ret (v := kfV w.heap.size) (by simp [results, Try.results32, go_sem, kfV]) rfl ?_
  refine ⟨rfl, ?_, ?_⟩
  · rw [heap_alloc_old _ _ (by simp)]
    exact heap_at _ _ _ rfl
  · exact ((Only.refl _ w).alloc _).alloc _

/-- A block put anew. -/
def putO (w : World) (b : Nat) (o : Obj) : World := { w with heap := w.heap.setIfInBounds b o }
theorem putO_at {w : World} {b : Nat} {o o' : Obj} (h : w.heap[b]? = some o') : (putO w b o).heap[b]? = some o := by
  unfold putO
  exact Array.getElem?_setIfInBounds_self_of_lt (Array.getElem?_eq_some_iff.1 h).1
theorem putO_only (w : World) (b : Nat) (o : Obj) : Only (fun j => j = b) w (putO w b o) := by
  refine ⟨rfl, rfl, rfl, ?_, fun j _ hj => ?_⟩
  · unfold putO; dsimp only; rw [Array.size_setIfInBounds]; exact Nat.le_refl _
  · unfold putO
    dsimp only
    rw [Array.getElem?_setIfInBounds_ne (fun e => hj e.symm)]
theorem put_kmap {w : World} {b : Nat} {es : Array MapEntry} {c : Nat} (hb : w.heap[b]? = some (.map es c)) (k : Int) (v : Value) (h : Instr.findNow (.int .u8) (.int .u8 k) es.toList 0 = some none) :
    (Instr.mapUpdate 71 (.map (some b)) (.int .u8 k) v).run Try.prog w = .ok () (putO w b (.map (es.push ⟨.int .u8 k, v, c⟩) (c + 1))) := by
  have hk : MapKept.IsKey (.int .u8) (.int .u8 k) := rfl
  simp [Instr.mapUpdate, run_underlying Try.underlying71, MapKept.run_getObj_map hb, MapKept.run_checkKey Try.underlying5 hk, MapKept.run_findKey Try.underlying5 h, MapKept.run_setObj_map _ hb, Result.andThen]
  rfl

def kf3 : Value := .agg #[.func (.func 34) #[] #[]]
def kes (p1 p2 : Nat) : Array MapEntry := #[⟨.int .u8 2, kfV p1, 0⟩, ⟨.int .u8 4, kfV p2, 1⟩, ⟨.int .u8 3, kf3, 2⟩]
structure KinAt (w : World) (b p1 p2 : Nat) : Prop where
  m : w.heap[b]? = some (.map (kes p1 p2) 3)
  x : w.heap[p1]? = some (.cells #[.int .u8 2] 5 (0, 0))
  y : w.heap[p2]? = some (.cells #[.int .u8 4] 5 (0, 0))
theorem KinAt.kept {w w' : World} {b p1 p2 : Nat} (h : KinAt w b p1 p2) (o : Only (fun _ => False) w w') : KinAt w' b p1 p2 := ⟨o.obj h.m id, o.obj h.x id, o.obj h.y id⟩
def KinPost (w : World) (e : Ending) (w' : World) : Prop := ∃ b p1 p2, e = .returned (.map (some b)) ∧ KinAt w' b p1 p2 ∧ Only (fun _ => False) w w'

theorem cells_map_ne {w : World} {a b : Nat} {es : Array MapEntry} {c : Nat} {cs : Array Value} {t : TypeId} {fr : Nat × Nat} (h : w.heap[a]? = some (.map es c)) (h' : w.heap[b]? = some (.cells cs t fr)) : ¬ b = a := by
  rintro rfl
  rw [h] at h'
  cases h'

def OwnPost (k : Int) (w : World) (e : Ending) (w' : World) : Prop := ∃ p, e = .returned (kfV p) ∧ w'.heap[p]? = some (.cells #[.int .u8 k] 5 (0, 0)) ∧ Only (fun _ => False) w w'
theorem own_p (k : Int) (w : World) : Calls Try.prog 32 #[.int .u8 k] w (OwnPost k w) := (own_any k w).mono fun _ _ h => ⟨_, h.1, h.2.1, h.2.2⟩

set_option maxRecDepth 100000 in
set_option maxHeartbeats 2000000 in
theorem tkinds_any (w : World) : Calls Try.prog 23 #[] w (KinPost w) := by
  have hmm := @run_makeMap Try.prog
  go_enter Try.func23, Try.ntmps23
  go_wp2_with (first
    | (go_at_call 32; ((with_reducible refine (own_p 2 _).mono ?_)); rintro e w1 ⟨p1, rfl, hp1, o1⟩
       have M1 := Lib.hid (o1.obj (heap_alloc_new w _) id)
       have P1 := Lib.hid hp1
       have i1 := put_kmap M1.out 2 (kfV p1) rfl
       simp only [List.push_toArray, List.nil_append, List.cons_append, Nat.reduceAdd] at i1
       clear hp1)
    | (go_at_call 32; ((with_reducible refine (own_p 4 _).mono ?_)); rintro e w2 ⟨p2, rfl, hp2, o2⟩
       clear i1
       have M2 := Lib.hid (o2.obj (putO_at M1.out) id)
       have P2 := Lib.hid hp2
       have i2 := put_kmap M2.out 4 (kfV p2) rfl
       have M3 := Lib.hid (putO_at (o := (.map #[⟨.int .u8 2, kfV p1, 0⟩, ⟨.int .u8 4, kfV p2, 1⟩] 2)) M2.out)
       have i3 := put_kmap M3.out 3 kf3 rfl
       simp only [List.push_toArray, List.nil_append, List.cons_append, Nat.reduceAdd] at i2 i3
       unfold kf3 at i3
       clear hp2))
  go_ret
  have o3 := (putO_only w2 w.heap.size (.map #[⟨.int .u8 2, kfV p1, 0⟩, ⟨.int .u8 4, kfV p2, 1⟩] 2)).trans (putO_only _ w.heap.size (.map #[⟨.int .u8 2, kfV p1, 0⟩, ⟨.int .u8 4, kfV p2, 1⟩, ⟨.int .u8 3, kf3, 2⟩] 3))
  have o2' := (putO_only w1 w.heap.size (.map #[⟨.int .u8 2, kfV p1, 0⟩] 1)).trans (o2.shrink (fun _ _ h => h.elim))
  have n1 := cells_map_ne M1.out P1.out
  have P1b := o2'.obj P1.out n1
  have n2 := cells_map_ne M2.out P2.out
  refine ⟨w.heap.size, p1, p2, rfl, ⟨putO_at M3.out, o3.obj P1b n1, o3.obj P2.out n2⟩, ?_⟩
  exact (((((Only.refl (fun j => j = w.heap.size) w).alloc (.map #[] 0)).trans (o1.shrink (fun _ _ h => h.elim))).trans o2').trans o3).shrink (fun k hk e => absurd (e ▸ hk) (Nat.lt_irrefl _))
end Go.Proofs.Ytkjfagchololbaa
