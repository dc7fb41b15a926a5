/- The chapter's example: chirographlaw29.alive. -/
import Derived.Test.YtliakamlgjoabaaLRun
import Derived.KernelRfl
namespace Go.Proofs.Ytliakamlgjoabaa
open Go.RowKit

def alA : List Act' := [⟨1, 0, 1, 1, 0, false, 6⟩, ⟨2, 0, 1, 1, 1, true, 0⟩, ⟨2, 0, 1, 1, 2, true, 0⟩, ⟨3, 0, 1, 1, 0, true, 0⟩, ⟨4, 0, 1, 1, 1, true, 0⟩]
def alR : Row := ⟨0, 1, 1, true, 6, 6, 6, true, true, 2⟩
theorem al_run : runR 0 [] 0 alA = (some [alR], 5, 0) := by kernel_rfl
theorem al_row : rowE [alR] (0, 1, 1) = alR ∧ isB [alR] (0, 1, 1) = true := ⟨by kernel_rfl, by kernel_rfl⟩
theorem al_6 : mayV 0 [alR] ⟨3, 0, 1, 1, 0, false, 0⟩ = 290 ∧ applyR 0 [alR] ⟨3, 0, 1, 1, 0, false, 0⟩ = [alR] := ⟨by kernel_rfl, by kernel_rfl⟩
theorem al_7 : mayV 0 [alR] ⟨2, 0, 1, 1, 3, false, 0⟩ = 290 ∧ applyR 0 [alR] ⟨2, 0, 1, 1, 3, false, 0⟩ = [alR] := ⟨by kernel_rfl, by kernel_rfl⟩
theorem al_8 : mayV 0 [alR] ⟨2, 0, 1, 1, 0, false, 0⟩ = 2 ∧ applyR 0 [alR] ⟨2, 0, 1, 1, 0, false, 0⟩ = [alR] := ⟨by kernel_rfl, by kernel_rfl⟩
theorem al_t : wfT (0, 1, 1) := ⟨⟨by decide, by decide⟩, ⟨by decide, by decide⟩, ⟨by decide, by decide⟩⟩
theorem al_wf (k o : Int) (y : Bool) (s : Int) (hk : 0 ≤ k ∧ k ≤ 255) (ho : 0 ≤ o ∧ o ≤ 255) (hs : 0 ≤ s ∧ s ≤ 255) : ActWf ⟨k, 0, 1, 1, o, y, s⟩ :=
  ⟨hk, al_t, ⟨by show -9223372036854775808 ≤ o; omega, by show o ≤ 9223372036854775807; omega⟩, hs⟩

def alCs : Array Value := (alA.flatMap fun a => (actCells a).toList).toArray
theorem al_acts (w : World) (b B : Nat) (h : w.heap[b]? = some (.cells alCs 35 (0, 0))) (hb : b < B) : ActsAt w B (some ⟨b, 0, none⟩) alA := by
  refine ⟨fun _ => ⟨b, 0, rfl, hb, fun i a hi => ?_⟩, fun a ha => ?_⟩
  · match i, hi with
    | 0, hi => cases hi; simp [World.cell?, h, alCs, alA, actCells]
    | 1, hi => cases hi; simp [World.cell?, h, alCs, alA, actCells]
    | 2, hi => cases hi; simp [World.cell?, h, alCs, alA, actCells]
    | 3, hi => cases hi; simp [World.cell?, h, alCs, alA, actCells]
    | 4, hi => cases hi; simp [World.cell?, h, alCs, alA, actCells]
    | n + 5, hi => simp [alA] at hi
  · simp only [alA, List.mem_cons, List.not_mem_nil, or_false] at ha
    rcases ha with rfl | rfl | rfl | rfl | rfl <;> exact al_wf _ _ _ _ (by decide) (by decide) (by decide)

set_option maxRecDepth 100000 in
set_option maxHeartbeats 4000000 in
theorem aliveL_any (w : World) : Calls Try.prog 7 #[] w fun e w' => e = .returned (.bool true) ∧ Below w.heap.size w w' := by
  have r1 := Lib.hid al_row
  have e6 := Lib.hid al_6
  have e7 := Lib.hid al_7
  have e8 := Lib.hid al_8
  have er := Lib.hid al_run
  have oX := ((Only.refl (fun _ : Nat => False) w).alloc (.cells #[.int .i64 0, .int .i64 1, .int .i64 1] 33)).alloc (.cells alCs 35)
  have hA := al_acts ((w.alloc (.cells #[.int .i64 0, .int .i64 1, .int .i64 1] 33)).alloc (.cells alCs 35)) (w.heap.size + 1) ((w.alloc (.cells #[.int .i64 0, .int .i64 1, .int .i64 1] 33)).alloc (.cells alCs 35)).heap.size (heap_at _ _ _ (by simp)) (by simp)
  have hT : ((w.alloc (.cells #[.int .i64 0, .int .i64 1, .int .i64 1] 33)).alloc (.cells alCs 35)).heap[w.heap.size]? = some (.cells #[.int .i64 0, .int .i64 1, .int .i64 1] 33 (0, 0)) := (heap_alloc_old _ _ _ (by simp)).trans (heap_alloc_new _ _)
  have hB : Below w.heap.size w ((w.alloc (.cells #[.int .i64 0, .int .i64 1, .int .i64 1] 33)).alloc (.cells alCs 35)) := ((Below.refl _ w).alloc (Nat.le_refl _) _).alloc (by simp) _
  have hcs : alCs = #[.int .u8 1, .int .i64 0, .int .i64 1, .int .i64 1, .int .i64 0, .bool false, .int .u8 6, .int .u8 2, .int .i64 0, .int .i64 1, .int .i64 1, .int .i64 1, .bool true, .int .u8 0, .int .u8 2, .int .i64 0, .int .i64 1, .int .i64 1, .int .i64 2, .bool true, .int .u8 0, .int .u8 3, .int .i64 0, .int .i64 1, .int .i64 1, .int .i64 0, .bool true, .int .u8 0, .int .u8 4, .int .i64 0, .int .i64 1, .int .i64 1, .int .i64 1, .bool true, .int .u8 0] := by kernel_rfl
  rw [hcs] at hA hT hB oX
  clear hcs
  go_enter Try.func7, Try.ntmps7
  go_wp2_with fail
  generalize (w.alloc (.cells #[.int .i64 0, .int .i64 1, .int .i64 1] 33)).alloc _ = W at *
  generalize hwb : w.heap.size = tb at *
  refine (run_any 0 _ alA 5 _ (by exact hA) (by decide)).mono ?_
  rw [er.out]
  rintro e' w1 ⟨gv, rfl, hB1, gb, mb, rv, rfl, hG⟩
  have o1 := Only.of_below hB1
  have hT1 := o1.obj hT id
  have hbW : W.heap.size ≤ w1.heap.size := hB1.size
  have t0 : w1.cell? ⟨tb, 0, none⟩ = some (.int .i64 0) := by simp [World.cell?, hT1]
  have t1 : w1.cell? ⟨tb, 1, none⟩ = some (.int .i64 1) := by simp [World.cell?, hT1]
  have t2 : w1.cell? ⟨tb, 2, none⟩ = some (.int .i64 1) := by simp [World.cell?, hT1]
  have hB2 : Below tb w w1 := hB.trans (hB1.mono (by rw [← hwb]; exact hB.size))
  have htb : tb < W.heap.size := (Array.getElem?_eq_some_iff.1 hT).1
  clear hA hT oX o1 hB1
  go_upto_region 6 with (go_at_call 18; refine (rowL_any _ gb mb rv 0 [alR] (0, 1, 1) _ (by exact hG) al_t).mono ?_; rw [r1.out.1, r1.out.2]; rintro e' w2 ⟨rfl, hBR⟩; unfold rowV alR; dsimp only)
  have o2 := (Only.of_below hBR).alloc (.cells #[.int .i64 0, .int .i64 1, .int .i64 1, .bool true, .int .u8 6, .int .u8 6, .int .u8 6, .bool true, .bool true, .int .u8 2] 43)
  have hb2 : w1.heap.size ≤ w2.heap.size := hBR.size
  have hRb := heap_alloc_new w2 (.cells #[.int .i64 0, .int .i64 1, .int .i64 1, .bool true, .int .u8 6, .int .u8 6, .int .u8 6, .bool true, .bool true, .int .u8 2] 43)
  have hB3 : Below tb w (w2.alloc (.cells #[.int .i64 0, .int .i64 1, .int .i64 1, .bool true, .int .u8 6, .int .u8 6, .int .u8 6, .bool true, .bool true, .int .u8 2] 43)) := hB2.trans (o2.below (by rw [← hwb]; exact hB2.size) (fun _ e => e.elim))
  have hG3 := hG.kept o2 id id (fun _ _ => id)
  have u0 := o2.cell t0 id
  have u1 := o2.cell t1 id
  have u2 := o2.cell t2 id
  have hWz : W.heap.size ≤ (w2.alloc (.cells #[.int .i64 0, .int .i64 1, .int .i64 1, .bool true, .int .u8 6, .int .u8 6, .int .u8 6, .bool true, .bool true, .int .u8 2] 43)).heap.size := by simp; omega
  generalize (w2.alloc (.cells #[.int .i64 0, .int .i64 1, .int .i64 1, .bool true, .int .u8 6, .int .u8 6, .int .u8 6, .bool true, .bool true, .int .u8 2] 43)) = w3 at *
  generalize w2.heap.size = rb at *
  have v0 : w3.cell? ⟨rb, 0, none⟩ = some (.int .i64 0) := by simp [World.cell?, hRb]
  have v1 : w3.cell? ⟨rb, 1, none⟩ = some (.int .i64 1) := by simp [World.cell?, hRb]
  have v2 : w3.cell? ⟨rb, 2, none⟩ = some (.int .i64 1) := by simp [World.cell?, hRb]
  have v3 : w3.cell? ⟨rb, 3, none⟩ = some (.bool true) := by simp [World.cell?, hRb]
  have v4 : w3.cell? ⟨rb, 4, none⟩ = some (.int .u8 6) := by simp [World.cell?, hRb]
  have v5 : w3.cell? ⟨rb, 5, none⟩ = some (.int .u8 6) := by simp [World.cell?, hRb]
  have v6 : w3.cell? ⟨rb, 6, none⟩ = some (.int .u8 6) := by simp [World.cell?, hRb]
  have v7 : w3.cell? ⟨rb, 7, none⟩ = some (.bool true) := by simp [World.cell?, hRb]
  have v8 : w3.cell? ⟨rb, 8, none⟩ = some (.bool true) := by simp [World.cell?, hRb]
  have v9 : w3.cell? ⟨rb, 9, none⟩ = some (.int .u8 2) := by simp [World.cell?, hRb]
  clear t0 t1 t2 hG hBR hB2 o2 hRb hb2 hbW hB
  go_wp2_with fail
  refine (apply_is 290 W.heap.size gb mb rv 0 [alR] ⟨3, 0, 1, 1, 0, false, 0⟩ e6.out.1 _ (by exact hG3) (by exact hWz) (by decide) (al_wf _ _ _ _ (by decide) (by decide) (by decide))).mono ?_
  rintro e' w4 ⟨rfl, ⟨rv4, hG4⟩, ho4⟩
  rw [e6.out.2] at hG4
  have hbt : tb ≤ W.heap.size := Nat.le_of_lt htb
  have hB4 := hG3.below hB3 (Nat.le_trans hbt hWz) hbt ho4
  have n4 := hG3.out htb
  have p0 := ho4.cell u0 n4
  have p1 := ho4.cell u1 n4
  have p2 := ho4.cell u2 n4
  have hWz4 := Nat.le_trans hWz ho4.size
  clear u0 u1 u2 v0 v1 v2 v3 v4 v5 v6 v7 v8 v9 hG3 ho4 n4 hB3 hWz
  go_wp2_with fail
  refine (apply_is 290 W.heap.size gb mb rv4 0 [alR] ⟨2, 0, 1, 1, 3, false, 0⟩ e7.out.1 _ (by exact hG4) (by exact hWz4) (by decide) (al_wf _ _ _ _ (by decide) (by decide) (by decide))).mono ?_
  rintro e' w5 ⟨rfl, ⟨rv5, hG5⟩, ho5⟩
  rw [e7.out.2] at hG5
  have hB5 := hG4.below hB4 (Nat.le_trans hbt hWz4) hbt ho5
  have n5 := hG4.out htb
  have q0 := ho5.cell p0 n5
  have q1 := ho5.cell p1 n5
  have q2 := ho5.cell p2 n5
  have hWz5 := Nat.le_trans hWz4 ho5.size
  clear p0 p1 p2 hG4 ho5 n5 hB4 hWz4
  go_wp2_with fail
  refine (apply_is 2 W.heap.size gb mb rv5 0 [alR] ⟨2, 0, 1, 1, 0, false, 0⟩ e8.out.1 _ (by exact hG5) (by exact hWz5) (by decide) (al_wf _ _ _ _ (by decide) (by decide) (by decide))).mono ?_
  rintro e' w6 ⟨rfl, _, ho6⟩
  have hB6 := hG5.below hB5 (Nat.le_trans hbt hWz5) hbt ho6
  clear q0 q1 q2
  go_wp2_with fail
  go_ret
  exact ⟨rfl, by rw [hwb]; exact hB6⟩
end Go.Proofs.Ytliakamlgjoabaa
