/- PeerPlays: at every own epoch and every script, of whatever length, in whatever memory, the Go function chirographlaw19.PeerPlays returns true, and its arguments read afterwards as before. No condition. -/
import Derived.Test.YtmmaankgoinijaaRows
import Derived.WalkKit
import Derived.ProofKit
import Derived.OpenShut
import Derived.ShutString
import Derived.ChangeOld
import Derived.Below
import Derived.Test.YtmmaankgoinijaaPPlays
import Derived.Test.YtmmaankgoinijaaOpen
namespace Go.Proofs.Ytmmaankgoinijaa.peerPlays
open Go.ChangeShapes Go.WideShapes Go.ChangeAt Go.RowKit
open Go.ChangeMaps (open_string shut_string)
set_option linter.unusedVariables false

theorem own : ownKnob Try.prog.godebug = none := by kernel_rfl
theorem laidOut : laidOutB Try.prog = true := by kernel_rfl

set_option maxRecDepth 100000 in
theorem lifted (os : Os) (started : os.Started) (H : Type) (enc : TypeId × Value → H) :
    ReturnsInHanded {} Try.checked os 5 .any (Rows.peerPlaysSpec.pre6 enc Try.prog Try.f5 Rows.peerPlaysRow.domain false) (Rows.peerPlaysSpec.post enc Try.prog Try.f5 false true false false) := by
  refine returnsInHanded_of_change (C := Try.checked) own started (by kernel_rfl) Try.func5
    (ChangeSpec.witness6 (enc := enc) (C := Try.checked) false ⟨#[], #[.int .i64 0, .slice none 0 0], []⟩ 8 (by kernel_rfl) (by kernel_rfl) (by kernel_rfl) (by kernel_rfl)) ?_
  intro W base args ds gs before hval0 hW hcnd _
  have hval : ∀ (j : Nat) t v, Try.f5.params[j]? = some t → args[j]? = some v → Value.okWide Try.prog W .any base t v := hval0
  have hW' := hW
  obtain ⟨p, q, hA0, hV, rfl, hfz, hnd⟩ := hW
  have hA : DataW.TrodAll enc Try.prog W 0 (fun _ => true) true Try.f5.params.toList args.toList ds p := hA0
  rw [Try.params5] at hA hval
  obtain ⟨v0, vs0, d0, ds0, p0, q0, hargs, rfl, rfl, h0, r0⟩ := trodAll_cons hA
  obtain ⟨v1, vs1, d1, ds1, p1, q1, rfl, rfl, rfl, h1, r1⟩ := trodAll_cons r0
  obtain ⟨rfl, rfl, rfl⟩ := trodAll_nil r1
  obtain rfl : args = #[v0, v1] := by cases args; simp_all
  obtain ⟨rfl, rfl⟩ := trodVars_none hV
  obtain ⟨a0, rfl, rfl, rfl, w0⟩ := open_int Try.underlying3 (hval 0 3 v0 rfl rfl) h0
  have k1 := h1
  have lt1 : ∀ x ∈ p1, x.block < W.heap.size := by obtain ⟨m, hm⟩ := k1; exact DataW.trod_lt m _ _ _ hm
  obtain ⟨a1, len1, cap1, rfl⟩ := okWide_slice Try.underlying23 (hval 1 23 v1 rfl rfl)
  clear hA0 hval0
  have hwalk : Calls Try.prog 5 #[.int .i64 a0, .slice a1 len1 cap1] W fun e w' => e = .returned (.bool true) ∧ Below W.heap.size W w' := by
    have C0 : Try.prog.cellsOf 5 = 1 := by kernel_rfl
    have C1 : Try.prog.cellsOf 30 = 4 := by kernel_rfl
    have C2 : Try.prog.cellsOf 3 = 1 := by kernel_rfl
    obtain ⟨m1, r1⟩ := row_open Try.underlying23 (by rw [C1]; omega) (fun _ => rfl) h1
    rw [C1] at r1
    have hs : ∀ i, i < len1 → ∃ f : Int × Int × Int × Int, ((0 ≤ f.1 ∧ f.1 ≤ 255) ∧ (-9223372036854775808 ≤ f.2.2.2 ∧ f.2.2.2 ≤ 9223372036854775807)) ∧ ∀ b o, a1 = some ⟨b, o, none⟩ →
        W.cell? ⟨b, o + i * 4, none⟩ = some (.int .u8 f.1) ∧ W.cell? ⟨b, o + i * 4 + 1, none⟩ = some (.int .i64 f.2.1) ∧ W.cell? ⟨b, o + i * 4 + 2, none⟩ = some (.int .i64 f.2.2.1) ∧ W.cell? ⟨b, o + i * 4 + 3, none⟩ = some (.int .i64 f.2.2.2) := by
      intro i hi
      obtain ⟨b, o, rfl, hb, hc⟩ := r1 (by omega)
      obtain ⟨cs, n, y, ht, hl, hcs⟩ := hc i hi
      obtain ⟨z0, e0, w0⟩ := fld_int (i := 0) Try.underlying30 ht rfl C0 Try.underlying5
      obtain ⟨z1, e1, w1⟩ := fld_int (i := 1) Try.underlying30 ht rfl C2 Try.underlying3
      obtain ⟨z2, e2, w2⟩ := fld_int (i := 2) Try.underlying30 ht rfl C2 Try.underlying3
      obtain ⟨z3, e3, w3⟩ := fld_int (i := 3) Try.underlying30 ht rfl C2 Try.underlying3
      refine ⟨(z0, z1, z2, z3), ⟨bounds_u8 w0, bounds_i64 w3⟩, fun b' o' e => ?_⟩
      cases e
      exact ⟨(hcs 0 (by omega)).trans e0, (hcs 1 (by omega)).trans e1, (hcs 2 (by omega)).trans e2, (hcs 3 (by omega)).trans e3⟩
    obtain ⟨st, hst⟩ := choose_fn hs
    refine pplays_any a0 a1 len1 cap1 (fun i => (st i).1) (fun i => (st i).2.1) (fun i => (st i).2.2.1) (fun i => (st i).2.2.2) W m1 ⟨fun h => ?_, fun i hi => (hst i hi).1⟩
    obtain ⟨b, o, e, hb, _⟩ := r1 h
    exact ⟨b, o, e, hb, fun i hi => (hst i hi).2 b o e⟩
  refine hwalk.mono fun e W' ⟨he, bel⟩ => ?_
  subst he
  exact ⟨_, rfl, _, _, _, [], _, [], hW', trodAll_mk1 (shut_bool Try.underlying4 _), (trodAll_cons_mk (shut_int Try.underlying3 w0) (trodAll_cons_mk (Below.trod laidOut (by kernel_rfl) (of_decide_eq_true (by kernel_rfl)) k1 bel lt1) trodAll_mk0)), rfl, bel.frame _, fun h => by cases h⟩

theorem over : Rows.peerPlaysRow.holds Try.pinned (OpenSpec.ofChange Rows.peerPlaysSpec) :=
  OpenClaim.holds_of_wide 5 Try.f5 rfl rfl rfl rfl rfl rfl rfl ⟨rfl, rfl, rfl, rfl, rfl⟩ rfl rfl rfl rfl rfl (by kernel_rfl) Try.func5 (by kernel_rfl)
    (of_decide_eq_true (by kernel_rfl)) (by unfold Func.isWrapper; first | (rw [if_pos (by decide +kernel)]; kernel_rfl) | (rw [if_neg (by decide +kernel)]; exact ⟨rfl, rfl⟩))
    (fun os started H enc _ => lifted os started H enc)
end Go.Proofs.Ytmmaankgoinijaa.peerPlays
namespace Go.Proofs.Ytmmaankgoinijaa
theorem peerPlays_holds : Rows.PeerPlaysSaid := peerPlays.over
#print axioms peerPlays_holds
end Go.Proofs.Ytmmaankgoinijaa
