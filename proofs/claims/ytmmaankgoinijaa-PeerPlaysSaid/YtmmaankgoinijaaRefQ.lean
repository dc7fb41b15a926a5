/- The walks of the document's peer: Hear, Stamp, New. -/
import Derived.Test.YtmmaankgoinijaaRefP
namespace Go.Proofs.Ytmmaankgoinijaa
open Go.RowKit Go.Lib

set_option maxHeartbeats 1000000 in
theorem rHear_any (base p bw : Nat) (v : Value) (s : PS) (L : List Int) (x : Int) (w : World) (h : RPeerAt w base p bw v s L) (hbase : base ≤ w.heap.size) :
    Calls Try.prog 15 #[.pointer (some ⟨p, 0, none⟩), .int .i64 x] w fun e w' => e = .returned (.int .i64 (hearV s x)) ∧ (∃ bw' v' L', RPeerAt w' base p bw' v' (hearT s x) L' ∧ L'.length ≤ L.length) ∧ Only (fun k => k = p) w w' := by
  by_cases h1 : okE x = true
  · by_cases h2 : x < s.known
    · have hv : hearV s x = 180 := by rw [hearV, if_neg (by simp [h1]), if_pos h2]
      have ht : hearT s x = s := by rw [hearT, if_neg (by omega)]
      have HV := Lib.hid hv
      have H1 := Lib.hid h1
      rw [ht]
      clear hv ht h1
      go_enter Try.func15, Try.ntmps15
      go_wp2_with (first | (go_at_call 28; refine (repoch_is x true _ H1.out).mono ?_; rintro e w' ⟨rfl, rfl⟩) | (go_at_call 29; refine (rlearn_lt base p bw v s L x _ (by exact h) h2).mono ?_; rintro e w' ⟨rfl, rfl⟩))
      go_ret
      exact ⟨by rw [HV.out]; rfl, ⟨bw, v, L, h, Nat.le_refl _⟩, Only.refl _ _⟩
    · have hv : hearV s x = 0 := by rw [hearV, if_neg (by simp [h1]), if_neg h2]
      have HV := Lib.hid hv
      have H1 := Lib.hid h1
      by_cases h3 : s.known < x
      · have ht : hearT s x = { s with known := x, t := 0, g := 0 } := by rw [hearT, if_pos hv, hearS, if_pos h3]
        rw [ht]
        clear hv ht h1
        go_enter Try.func15, Try.ntmps15
        go_wp2_with (first | (go_at_call 28; refine (repoch_is x true _ H1.out).mono ?_; rintro e w' ⟨rfl, rfl⟩) | (go_at_call 29; refine (rlearn_gt base p bw v s L x _ (by exact h) h3 hbase).mono ?_; rintro e w' ⟨rfl, hr, ho⟩))
        go_ret
        exact ⟨by rw [HV.out]; rfl, ⟨_, _, _, hr, by simp⟩, ho⟩
      · have ht : hearT s x = s := by rw [hearT, if_pos hv, hearS, if_neg h3]
        rw [ht]
        clear hv ht h1
        go_enter Try.func15, Try.ntmps15
        go_wp2_with (first | (go_at_call 28; refine (repoch_is x true _ H1.out).mono ?_; rintro e w' ⟨rfl, rfl⟩) | (go_at_call 29; refine (rlearn_eq base p bw v s L x _ (by exact h) (by omega)).mono ?_; rintro e w' ⟨rfl, rfl⟩))
        go_ret
        exact ⟨by rw [HV.out]; rfl, ⟨bw, v, L, h, Nat.le_refl _⟩, Only.refl _ _⟩
  · have h1' : okE x = false := by simpa using h1
    have hv : hearV s x = 2 := by rw [hearV, if_pos h1']
    have ht : hearT s x = s := by rw [hearT, if_neg (by omega)]
    have HV := Lib.hid hv
    have H1 := Lib.hid h1'
    rw [ht]
    clear hv ht h1 h1'
    go_enter Try.func15, Try.ntmps15
    go_wp2_with (first | (go_at_call 28; refine (repoch_is x false _ H1.out).mono ?_; rintro e w' ⟨rfl, rfl⟩))
    go_ret
    exact ⟨by rw [HV.out]; rfl, ⟨bw, v, L, h, Nat.le_refl _⟩, Only.refl _ _⟩

set_option maxHeartbeats 1000000 in
theorem rStamp_yes (base p bw : Nat) (v : Value) (s : PS) (L : List Int) (w : World) (h : RPeerAt w base p bw v s L) (h0 : 0 ≤ s.sent) (hr : s.sent < 65535) :
    Calls Try.prog 16 #[.pointer (some ⟨p, 0, none⟩)] w fun e w' => e = .returned (.tuple #[.int .i64 s.own, .int .i64 s.known, .int .i64 (s.sent + 1), .int .i64 0]) ∧ (∃ q, w' = (w.setCell ⟨p, 2, none⟩ (.int .i64 (s.sent + 1))).drewN q) := by
  obtain ⟨c0, c1, c2, c3⟩ := h.c
  have f2 := h.frozen 2
  obtain ⟨own, known, sent, t, g⟩ := s
  dsimp only at c0 c1 c2 c3 h0 hr
  go_enter Try.func16, Try.ntmps16
  go_wp2
  go_quiet (fail)
  go_wp2
  refine bodyPost_ret (v := .tuple #[.int .i64 own, .int .i64 known, .int .i64 (sent + 1), .int .i64 0]) (by simp [results, Try.results16, go_sem]) rfl ?_
  exact ⟨rfl, _, rfl⟩
theorem rStamp_no (base p bw : Nat) (v : Value) (s : PS) (L : List Int) (w : World) (h : RPeerAt w base p bw v s L) (hr : s.sent = 65535) :
    Calls Try.prog 16 #[.pointer (some ⟨p, 0, none⟩)] w fun e w' => e = .returned (.tuple #[.int .i64 0, .int .i64 0, .int .i64 0, .int .i64 4]) ∧ w = w' := by
  obtain ⟨c0, c1, c2, c3⟩ := h.c
  obtain ⟨own, known, sent, t, g⟩ := s
  dsimp only at c2 hr
  subst hr
  go_enter Try.func16, Try.ntmps16
  go_wp2
  refine bodyPost_ret (v := .tuple #[.int .i64 0, .int .i64 0, .int .i64 0, .int .i64 4]) (by simp [results, Try.results16, go_sem]) rfl ?_
  exact ⟨rfl, rfl⟩

theorem rNew_yes (own : Int) (w : World) (h : okE own = true) :
    Calls Try.prog 12 #[.int .i64 own] w fun e w' => ∃ p bw, e = .returned (.pointer (some ⟨p, 0, none⟩)) ∧ RPeerAt w' w.heap.size p bw (.slice none 0 0) (ps0 own) [] ∧ Below w.heap.size w w' := by
  have H := Lib.hid h
  clear h
  go_enter Try.func12, Try.ntmps12
  go_wp2_with (first | (go_at_call 28; refine (repoch_is own true _ H.out).mono ?_; rintro e w' ⟨rfl, rfl⟩))
  go_ret
  exact ⟨_, _, rfl, ⟨heap_at _ _ _ (by simp), ⟨(heap_alloc_old _ _ _ (by simp)).trans (heap_alloc_new _ _), World.ownsRow_nil _ _ _ _⟩, WInv.zero, by simp, by simp⟩, ((Below.refl _ _).alloc (Nat.le_refl _) _).alloc (by simp) _⟩
theorem rNew_no (own : Int) (w : World) (h : okE own = false) :
    Calls Try.prog 12 #[.int .i64 own] w fun e w' => e = .returned (.pointer none) ∧ w = w' := by
  have H := Lib.hid h
  clear h
  go_enter Try.func12, Try.ntmps12
  go_wp2_with (first | (go_at_call 28; refine (repoch_is own false _ H.out).mono ?_; rintro e w' ⟨rfl, rfl⟩))
  go_ret
  exact ⟨rfl, rfl⟩
end Go.Proofs.Ytmmaankgoinijaa
