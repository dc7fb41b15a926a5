/- The walks of a peer's Own, Known, Taken, Copy; a window's Copy; what no peer answers. -/
import Derived.Test.YtmmaankgoinijaaRefT
import Derived.Test.YtmmaankgoinijaaPeerS
import Derived.Deep.RegionHeld3
namespace Go.Proofs.Ytmmaankgoinijaa
open Go.RowKit Go.Lib

theorem ownP_any (p bw : Nat) (s : PS) (w : World) (hP : PeerAt w p bw s) : Calls Try.prog 10 #[.pointer (some ⟨p, 0, none⟩)] w fun e w' => e = .returned (.int .i64 s.own) ∧ w = w' := by
  obtain ⟨c0, c1, c2, c3⟩ := hP.cells
  go_enter Try.func10, Try.ntmps10
  go_wp2
  go_ret
  exact ⟨rfl, rfl⟩
theorem knownP_any (p bw : Nat) (s : PS) (w : World) (hP : PeerAt w p bw s) : Calls Try.prog 18 #[.pointer (some ⟨p, 0, none⟩)] w fun e w' => e = .returned (.int .i64 s.known) ∧ w = w' := by
  obtain ⟨c0, c1, c2, c3⟩ := hP.cells
  go_enter Try.func18, Try.ntmps18
  go_wp2
  go_ret
  exact ⟨rfl, rfl⟩
theorem takenP_any (p bw : Nat) (s : PS) (w : World) (hP : PeerAt w p bw s) (hS : PBd s) : Calls Try.prog 20 #[.pointer (some ⟨p, 0, none⟩)] w fun e w' =>
    ∃ v, e = .returned v ∧ w'.ownsRow w.heap.size 3 1 v (winList s.t s.g).length ((winList s.t s.g).map (Value.int .i64)) ∧ Below w.heap.size w w' := by
  obtain ⟨c0, c1, c2, c3⟩ := hP.cells
  have hw := hP.2
  have t1 := hS.t1
  have t2 := hS.t2
  have tg := Lib.hid hS.tg
  go_enter Try.func20, Try.ntmps20
  go_wp2_with (go_at_call 32; refine (list_any bw s.t s.g t1 t2 tg.out _ (by exact hw)).mono ?_; rintro e w' ⟨v, rfl, ho, hB⟩)
  go_ret
  exact ⟨v, rfl, ho, hB⟩
theorem copyW_any (b : Nat) (t g : Int) (w : World) (hW : Win w b t g) : Calls Try.prog 31 #[.pointer (some ⟨b, 0, none⟩)] w fun e w' =>
    ∃ b', e = .returned (.pointer (some ⟨b', 0, none⟩)) ∧ Win w' b' t g ∧ w.heap.size ≤ b' ∧ Below w.heap.size w w' := by
  have h0 := hW.cell0
  have h1 := hW.cell1
  go_enter Try.func31, Try.ntmps31
  go_wp2
  go_ret
  exact ⟨_, rfl, heap_alloc_new w _, Nat.le_refl _, (Below.refl _ _).alloc (Nat.le_refl _) _⟩
def CopyPost (s : PS) (w : World) (e : Ending) (w' : World) : Prop := ∃ p bw, e = .returned (.pointer (some ⟨p, 0, none⟩)) ∧ PeerAt w' p bw s ∧ w.heap.size ≤ p ∧ w.heap.size ≤ bw ∧ Below w.heap.size w w'
theorem copyP_any (p bw : Nat) (s : PS) (w : World) (hP : PeerAt w p bw s) : Calls Try.prog 17 #[.pointer (some ⟨p, 0, none⟩)] w (CopyPost s w) := by
  obtain ⟨c0, c1, c2, c3⟩ := hP.cells
  have hw := hP.2
  obtain ⟨own, known, sent, t, g⟩ := s
  dsimp only at c1 c2 c3
  go_enter Try.func17, Try.ntmps17
  go_wp2_with fail
  go_region_held3 (fun w' => w'.cell? ⟨p, 0, none⟩ = some (.pointer (some ⟨bw, 0, none⟩)) ∧ w'.cell? ⟨p, 1, none⟩ = some (.int .i64 own) ∧ w'.cell? ⟨p, 2, none⟩ = some (.int .i64 known) ∧ w'.cell? ⟨p, 3, none⟩ = some (.int .i64 sent)) (first | exact ⟨c0, c1, c2, c3⟩ | exact ⟨hoA.cell c0 id, hoA.cell c1 id, hoA.cell c2 id, hoA.cell c3 id⟩ | exact ⟨(hoA.alloc _).cell c0 id, (hoA.alloc _).cell c1 id, (hoA.alloc _).cell c2 id, (hoA.alloc _).cell c3 id⟩)
    (first | (go_at_call 31; refine (copyW_any bw t g _ (by exact hw)).mono ?_; rintro e wA ⟨b', rfl, hwA, hbA, hBA⟩; have hoA := Only.of_below hBA))
  all_goals go_wp2_with fail
  all_goals go_ret
  have hB : Below w.heap.size w wA := ((Below.refl _ w).drewN 1).trans hBA
  all_goals exact ⟨_, b', rfl, ⟨heap_alloc_new _ _, (Only.refl (fun _ : Nat => False) wA |>.alloc _).obj hwA id⟩, hB.size, hbA, hB.alloc hB.size _⟩

theorem stamp_nil (w : World) : Calls Try.prog 11 #[.pointer none] w fun e w' => e = .returned (.tuple #[.int .i64 0, .int .i64 0, .int .i64 0, .int .i64 1]) ∧ w = w' := by
  go_enter Try.func11, Try.ntmps11
  go_wp2
  refine bodyPost_ret (v := .tuple #[.int .i64 0, .int .i64 0, .int .i64 0, .int .i64 1]) (by simp [results, Try.results11, go_sem]) rfl ?_
  exact ⟨rfl, rfl⟩
theorem take_nil (x y n : Int) (w : World) : Calls Try.prog 9 #[.pointer none, .int .i64 x, .int .i64 y, .int .i64 n] w fun e w' => e = .returned (.int .i64 1) ∧ Below w.heap.size w w' := by
  go_enter Try.func9, Try.ntmps9
  go_wp2
  go_ret
  exact ⟨rfl, (((Below.refl _ _).alloc (Nat.le_refl _) _).alloc (by simp) _)⟩
theorem hear_nil (x : Int) (w : World) : Calls Try.prog 8 #[.pointer none, .int .i64 x] w fun e w' => e = .returned (.int .i64 1) ∧ w = w' := by
  go_enter Try.func8, Try.ntmps8
  go_wp2
  go_ret
  exact ⟨rfl, rfl⟩
theorem own_nil (w : World) : Calls Try.prog 10 #[.pointer none] w fun e w' => e = .returned (.int .i64 0) ∧ w = w' := by
  go_enter Try.func10, Try.ntmps10
  go_wp2
  go_ret
  exact ⟨rfl, rfl⟩
theorem known_nil (w : World) : Calls Try.prog 18 #[.pointer none] w fun e w' => e = .returned (.int .i64 0) ∧ w = w' := by
  go_enter Try.func18, Try.ntmps18
  go_wp2
  go_ret
  exact ⟨rfl, rfl⟩
theorem taken_nil (w : World) : Calls Try.prog 20 #[.pointer none] w fun e w' => e = .returned (.slice none 0 0) ∧ w = w' := by
  go_enter Try.func20, Try.ntmps20
  go_wp2
  go_ret
  exact ⟨rfl, rfl⟩
theorem copy_nil (w : World) : Calls Try.prog 17 #[.pointer none] w fun e w' => e = .returned (.pointer none) ∧ w = w' := by
  go_enter Try.func17, Try.ntmps17
  go_wp2
  go_ret
  exact ⟨rfl, rfl⟩

theorem nothing_any (w : World) : Calls Try.prog 13 #[] w fun e w' => e = .returned (.bool true) ∧ Below w.heap.size w w' := by
  go_enter Try.func13, Try.ntmps13
  go_wp2_with (first | (go_at_call 11; refine (stamp_nil _).mono ?_; rintro e w' ⟨rfl, rfl⟩) | (go_at_call 9; refine (take_nil _ _ _ _).mono ?_; rintro e w' ⟨rfl, hB⟩) | (go_at_call 8; refine (hear_nil _ _).mono ?_; rintro e w' ⟨rfl, rfl⟩) | (go_at_call 10; refine (own_nil _).mono ?_; rintro e w' ⟨rfl, rfl⟩) | (go_at_call 18; refine (known_nil _).mono ?_; rintro e w' ⟨rfl, rfl⟩) | (go_at_call 20; refine (taken_nil _).mono ?_; rintro e w' ⟨rfl, rfl⟩) | (go_at_call 17; refine (copy_nil _).mono ?_; rintro e w' ⟨rfl, rfl⟩))
  go_ret
  exact ⟨rfl, hB⟩
end Go.Proofs.Ytmmaankgoinijaa
