/- The walks of a peer's Stamp and Own; the chapter's example. -/
import Derived.Test.YtmmaankgoinijaaPeerT
import Derived.KernelRfl
namespace Go.Proofs.Ytmmaankgoinijaa
open Go.RowKit

set_option maxHeartbeats 1000000 in
/-- Stamp, where there is room. -/
theorem stamp_yes (p bw : Nat) (s : PS) (w : World) (hP : PeerAt w p bw s) (hS : PBd s) (hr : s.sent < 65535) :
    Calls Try.prog 11 #[.pointer (some ⟨p, 0, none⟩)] w fun e w' => e = .returned (.tuple #[.int .i64 s.own, .int .i64 s.known, .int .i64 (s.sent + 1), .int .i64 0]) ∧ PeerAt w' p bw { s with sent := s.sent + 1 } ∧ Only (fun k => k = p) w w' := by
  obtain ⟨c0, c1, c2, c3⟩ := hP.cells
  have f3 := hP.frozen 3
  have hne := hP.ne
  have s1 := hS.s1
  obtain ⟨own, known, sent, t, g⟩ := s
  dsimp only at c1 c2 c3 s1 hr
  have hn : (sent == 65535) = false := beq_eq_false_iff_ne.2 (by omega)
  go_enter Try.func11, Try.ntmps11
  go_wp2
  go_quiet (fail)
  go_wp2
  refine bodyPost_ret (v := .tuple #[.int .i64 own, .int .i64 known, .int .i64 (sent + 1), .int .i64 0]) (by simp [results, Try.results11, go_sem]) rfl ?_
  have ho := ((Only.refl (fun k => k = p) w).setCell (p := ⟨p, 3, none⟩) rfl (.int .i64 (sent + 1)))
  exact ⟨rfl, ⟨(set_cells hP.1).trans (by simp), ho.obj hP.2 (fun h => hne h.symm)⟩, ho.drewN _⟩

theorem stamp_no (p bw : Nat) (s : PS) (w : World) (hP : PeerAt w p bw s) (hr : s.sent = 65535) :
    Calls Try.prog 11 #[.pointer (some ⟨p, 0, none⟩)] w fun e w' => e = .returned (.tuple #[.int .i64 0, .int .i64 0, .int .i64 0, .int .i64 4]) ∧ w = w' := by
  obtain ⟨c0, c1, c2, c3⟩ := hP.cells
  obtain ⟨own, known, sent, t, g⟩ := s
  dsimp only at c3 hr
  subst hr
  go_enter Try.func11, Try.ntmps11
  go_wp2
  refine bodyPost_ret (v := .tuple #[.int .i64 0, .int .i64 0, .int .i64 0, .int .i64 4]) (by simp [results, Try.results11, go_sem]) rfl ?_
  exact ⟨rfl, rfl⟩

def pS : Nat → PS | 0 => ps0 2 | 1 => ⟨2, 1, 0, 1, 1⟩ | 2 => ⟨2, 1, 0, 1, 1⟩ | 3 => ⟨2, 1, 0, 1, 1⟩ | _ => ⟨2, 3, 0, 1, 1⟩
theorem pS0 : takeV (pS 0) 1 2 1 = 0 ∧ takeS (pS 0) 1 2 1 = pS 1 := ⟨by decide +kernel, by kernel_rfl⟩
theorem pS1 : takeV (pS 1) 1 2 1 = 9 ∧ takeS (pS 1) 1 2 1 = pS 2 := ⟨by decide +kernel, by kernel_rfl⟩
theorem pS2 : takeV (pS 2) 1 1 2 = 190 ∧ takeS (pS 2) 1 1 2 = pS 3 := ⟨by decide +kernel, by kernel_rfl⟩
theorem pS3 : takeV (pS 3) 3 2 1 = 0 ∧ takeS (pS 3) 3 2 1 = pS 4 := ⟨by decide +kernel, by kernel_rfl⟩
theorem pS4 : takeV (pS 4) 1 2 3 = 180 ∧ takeS (pS 4) 1 2 3 = pS 4 := ⟨by decide +kernel, by kernel_rfl⟩
theorem pS_bd : PBd (pS 0) ∧ PBd (pS 1) ∧ PBd (pS 2) ∧ PBd (pS 3) ∧ PBd (pS 4) := by
  refine ⟨?_, ?_, ?_, ?_, ?_⟩ <;> constructor <;> decide


set_option maxHeartbeats 2000000 in
theorem alive_any (w : World) : Calls Try.prog 6 #[] w fun e w' => e = .returned (.bool true) ∧ Below w.heap.size w w' := by
  obtain ⟨b0, b1, b2, b3, b4⟩ := pS_bd
  go_enter Try.func6, Try.ntmps6
  go_wp2_with (first | (go_at_call 7; refine (newPeer_yes 2 _ (by decide) (by decide)).mono ?_; rintro e w' ⟨rfl, hP, hB⟩))
  have hP0 : PeerAt w' (w.heap.size + 1 + 1) (w.heap.size + 1) (pS 0) := hP
  clear hP
  refine (takeP_any (w.heap.size + 1 + 1) (w.heap.size + 1) (pS 0) 1 2 1 _ (by exact hP0) b0 (by decide)).mono ?_
  rw [pS0.1, pS0.2]
  rintro e w1 ⟨rfl, bw1, hb1, hP1, ho1⟩
  go_wp2_with fail
  refine (takeP_any (w.heap.size + 1 + 1) bw1 (pS 1) 1 2 1 _ (by exact hP1) b1 (by decide)).mono ?_
  rw [pS1.1, pS1.2]
  rintro e w2 ⟨rfl, bw2, hb2, hP2, ho2⟩
  go_wp2_with fail
  refine (takeP_any (w.heap.size + 1 + 1) bw2 (pS 2) 1 1 2 _ (by exact hP2) b2 (by decide)).mono ?_
  rw [pS2.1, pS2.2]
  rintro e w3 ⟨rfl, bw3, hb3, hP3, ho3⟩
  go_wp2_with fail
  refine (takeP_any (w.heap.size + 1 + 1) bw3 (pS 3) 3 2 1 _ (by exact hP3) b3 (by decide)).mono ?_
  rw [pS3.1, pS3.2]
  rintro e w4 ⟨rfl, bw4, hb4, hP4, ho4⟩
  go_wp2_with fail
  refine (takeP_any (w.heap.size + 1 + 1) bw4 (pS 4) 1 2 3 _ (by exact hP4) b4 (by decide)).mono ?_
  rw [pS4.1, pS4.2]
  rintro e w5 ⟨rfl, bw5, hb5, hP5, ho5⟩
  go_wp2_with fail
  refine (stamp_yes (w.heap.size + 1 + 1) bw5 (pS 4) _ (by exact hP5) b4 (by decide)).mono ?_
  rintro e w6 ⟨rfl, hP6, ho6⟩
  have e1 : (pS 4).own = 2 := rfl
  have e2 : (pS 4).known = 3 := rfl
  have e3 : (pS 4).sent = 0 := rfl
  rw [e1, e2, e3]
  go_wp2_with fail
  go_ret
  have z := hB.size
  have y1 := ho1.size
  have y2 := ho2.size
  have y3 := ho3.size
  have y4 := ho4.size
  have q1 : w.heap.size ≤ bw1 := by rcases hb1 with h | h <;> omega
  have q2 : w.heap.size ≤ bw2 := by rcases hb2 with h | h <;> omega
  have q3 : w.heap.size ≤ bw3 := by rcases hb3 with h | h <;> omega
  have q4 : w.heap.size ≤ bw4 := by rcases hb4 with h | h <;> omega
  have g1 := ho1.below (B := w.heap.size) z (fun k h => by rcases h with h | h <;> omega)
  have g2 := ho2.below (B := w.heap.size) (by have := ho1.size; omega) (fun k h => by rcases h with h | h <;> omega)
  have g3 := ho3.below (B := w.heap.size) (by have := ho1.size; have := ho2.size; omega) (fun k h => by rcases h with h | h <;> omega)
  have g4 := ho4.below (B := w.heap.size) (by have := ho1.size; have := ho2.size; have := ho3.size; omega) (fun k h => by rcases h with h | h <;> omega)
  have g5 := ho5.below (B := w.heap.size) (by have := ho1.size; have := ho2.size; have := ho3.size; have := ho4.size; omega) (fun k h => by rcases h with h | h <;> omega)
  have g6 := ho6.below (B := w.heap.size) (by have := ho1.size; have := ho2.size; have := ho3.size; have := ho4.size; have := ho5.size; omega) (fun k h => by omega)
  exact ⟨rfl, ((((((hB.trans g1).trans g2).trans g3).trans g4).trans g5).trans g6)⟩
end Go.Proofs.Ytmmaankgoinijaa
