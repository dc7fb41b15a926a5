/- PeerTalks: at any two numbers and any order, of whatever length, in whatever memory, the Go function chirographlaw19.PeerTalks returns true, and its arguments read afterwards as before. No condition. -/
import Derived.Test.YtmmaankgoinijaaRows
import Derived.WalkKit
import Derived.ProofKit
import Derived.OpenShut
import Derived.ShutString
import Derived.ChangeOld
import Derived.Below
import Derived.Test.YtmmaankgoinijaaTalk
import Derived.Test.YtmmaankgoinijaaOpen
namespace Go.Proofs.Ytmmaankgoinijaa.peerTalks
open Go.ChangeShapes Go.WideShapes Go.ChangeAt Go.RowKit
open Go.ChangeMaps (open_string shut_string)
set_option linter.unusedVariables false

theorem own : ownKnob Try.prog.godebug = none := by kernel_rfl
theorem laidOut : laidOutB Try.prog = true := by kernel_rfl

set_option maxRecDepth 100000 in
theorem lifted (os : Os) (started : os.Started) (H : Type) (enc : TypeId × Value → H) :
    ReturnsInHanded {} Try.checked os 4 .any (Rows.peerTalksSpec.pre6 enc Try.prog Try.f4 Rows.peerTalksRow.domain false) (Rows.peerTalksSpec.post enc Try.prog Try.f4 false true false false) := by
  refine returnsInHanded_of_change (C := Try.checked) own started (by kernel_rfl) Try.func4
    (ChangeSpec.witness6 (enc := enc) (C := Try.checked) false ⟨#[], #[.int .u8 0, .int .u8 0, .slice none 0 0], []⟩ 8 (by kernel_rfl) (by kernel_rfl) (by kernel_rfl) (by kernel_rfl)) ?_
  intro W base args ds gs before hval0 hW hcnd _
  have hval : ∀ (j : Nat) t v, Try.f4.params[j]? = some t → args[j]? = some v → Value.okWide Try.prog W .any base t v := hval0
  have hW' := hW
  obtain ⟨p, q, hA0, hV, rfl, hfz, hnd⟩ := hW
  have hA : DataW.TrodAll enc Try.prog W 0 (fun _ => true) true Try.f4.params.toList args.toList ds p := hA0
  rw [Try.params4] at hA hval
  obtain ⟨v0, vs0, d0, ds0, p0, q0, hargs, rfl, rfl, h0, r0⟩ := trodAll_cons hA
  obtain ⟨v1, vs1, d1, ds1, p1, q1, rfl, rfl, rfl, h1, r1⟩ := trodAll_cons r0
  obtain ⟨v2, vs2, d2, ds2, p2, q2, rfl, rfl, rfl, h2, r2⟩ := trodAll_cons r1
  obtain ⟨rfl, rfl, rfl⟩ := trodAll_nil r2
  obtain rfl : args = #[v0, v1, v2] := by cases args; simp_all
  obtain ⟨rfl, rfl⟩ := trodVars_none hV
  obtain ⟨a0, rfl, rfl, rfl, w0⟩ := open_int Try.underlying5 (hval 0 5 v0 rfl rfl) h0
  obtain ⟨a1, rfl, rfl, rfl, w1⟩ := open_int Try.underlying5 (hval 1 5 v1 rfl rfl) h1
  have k2 := h2
  have lt2 : ∀ x ∈ p2, x.block < W.heap.size := by obtain ⟨m, hm⟩ := k2; exact DataW.trod_lt m _ _ _ hm
  obtain ⟨a2, len2, cap2, rfl⟩ := okWide_slice Try.underlying22 (hval 2 22 v2 rfl rfl)
  clear hA0 hval0
  have hwalk : Calls Try.prog 4 #[.int .u8 a0, .int .u8 a1, .slice a2 len2 cap2] W fun e w' => e = .returned (.bool true) ∧ Below W.heap.size W w' := by
    have C0 : Try.prog.cellsOf 5 = 1 := by kernel_rfl
    obtain ⟨m2, r2⟩ := row_open Try.underlying22 (by rw [C0]; omega) (fun _ => rfl) h2
    rw [C0] at r2
    have hl : ∀ i, i < len2 → ∃ z : Int, (0 ≤ z ∧ z ≤ 255) ∧ ∀ b o, a2 = some ⟨b, o, none⟩ → W.cell? ⟨b, o + i, none⟩ = some (.int .u8 z) := by
      intro i hi
      obtain ⟨b, o, rfl, hb, hc⟩ := r2 (by omega)
      obtain ⟨cs, n, y, ht, hl, hcs⟩ := hc i hi
      obtain ⟨z, rfl, _, hw⟩ := DataW.trod_int Try.underlying5 ht
      refine ⟨z, bounds_u8 hw, fun b' o' e => ?_⟩
      cases e
      have := hcs 0 (by omega)
      simpa using this
    obtain ⟨lv, hlv⟩ := choose_fn hl
    refine talk_any a0 a1 a2 len2 cap2 lv W (bounds_u8 w0) (bounds_u8 w1) m2 (fun h => ?_) (fun i hi => (hlv i hi).1)
    obtain ⟨b, o, e, hb, _⟩ := r2 h
    exact ⟨b, o, e, hb, fun i hi => (hlv i hi).2 b o e⟩
  refine hwalk.mono fun e W' ⟨he, bel⟩ => ?_
  subst he
  exact ⟨_, rfl, _, _, _, [], _, [], hW', trodAll_mk1 (shut_bool Try.underlying4 _), (trodAll_cons_mk (shut_int Try.underlying5 w0) (trodAll_cons_mk (shut_int Try.underlying5 w1) (trodAll_cons_mk (Below.trod laidOut (by kernel_rfl) (of_decide_eq_true (by kernel_rfl)) k2 bel lt2) trodAll_mk0))), rfl, bel.frame _, fun h => by cases h⟩

theorem over : Rows.peerTalksRow.holds Try.pinned (OpenSpec.ofChange Rows.peerTalksSpec) :=
  OpenClaim.holds_of_wide 4 Try.f4 rfl rfl rfl rfl rfl rfl rfl ⟨rfl, rfl, rfl, rfl, rfl⟩ rfl rfl rfl rfl rfl (by kernel_rfl) Try.func4 (by kernel_rfl)
    (of_decide_eq_true (by kernel_rfl)) (by unfold Func.isWrapper; first | (rw [if_pos (by decide +kernel)]; kernel_rfl) | (rw [if_neg (by decide +kernel)]; exact ⟨rfl, rfl⟩))
    (fun os started H enc _ => lifted os started H enc)
end Go.Proofs.Ytmmaankgoinijaa.peerTalks
namespace Go.Proofs.Ytmmaankgoinijaa
theorem peerTalks_holds : Rows.PeerTalksSaid := peerTalks.over
#print axioms peerTalks_holds
end Go.Proofs.Ytmmaankgoinijaa
