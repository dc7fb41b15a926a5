/- The walk of the document's peer's Take. -/
import Derived.Test.YtmmaankgoinijaaRefQ
namespace Go.Proofs.Ytmmaankgoinijaa
open Go.RowKit Go.Lib

/-- What a Take behind it leaves: the ref's window has the nonce, if it was taken. -/
theorem win_next {t g n : Int} {L : List Int} (h : WInv t g L) : WInv (nxtT t g n) (nxtG t g n) (if mayV t g n = 0 then L ++ [n] else L) := by
  split
  · rename_i hm; exact h.add hm
  · rename_i hm; exact h.not hm
def RPost (base p : Nat) (s : PS) (L : List Int) (w w' : World) (S : Nat → Prop) : Prop :=
  (∃ bw' v' L', RPeerAt w' base p bw' v' s L' ∧ L'.length ≤ L.length + 1) ∧ Only S w w'

set_option maxHeartbeats 2000000 in
theorem rTakeP_any (base p bw : Nat) (v : Value) (s : PS) (L : List Int) (x to n : Int) (w : World) (h : RPeerAt w base p bw v s L) (hbase : base ≤ w.heap.size) (hl : L.length < 999) (hn : -9223372036854775808 ≤ n ∧ n ≤ 9223372036854775807) :
    Calls Try.prog 14 #[.pointer (some ⟨p, 0, none⟩), .int .i64 x, .int .i64 to, .int .i64 n] w fun e w' => e = .returned (.int .i64 (takeV s x to n)) ∧ RPost base p (takeS s x to n) L w w' (fun k => k = p ∨ k = bw ∨ v.ownBlock = some k) := by
  by_cases hbad : okE x = false ∨ okE to = false ∨ okN n = false
  · have hv : takeV s x to n = 2 := by rw [takeV, if_pos hbad]
    have ht : takeS s x to n = s := by rw [takeS, if_pos (by rcases hbad with h | h | h <;> simp [h])]
    have HV := Lib.hid hv
    rw [ht]
    have hend : RPost base p s L w w (fun k => k = p ∨ k = bw ∨ v.ownBlock = some k) := ⟨⟨bw, v, L, h, by omega⟩, Only.refl _ _⟩
    clear hv ht
    by_cases h1 : okE x = true
    · have H1 := Lib.hid h1
      by_cases h2 : okE to = true
      · have H2 := Lib.hid h2
        have h3 : okN n = false := by simpa [h1, h2] using hbad
        by_cases h4 : n < 1
        · clear hbad h1 h2 h3
          go_enter Try.func14, Try.ntmps14
          go_wp2_with (first | (go_at_call 28; ((with_reducible refine (repoch_is x true _ H1.out).mono ?_)); rintro e w' ⟨rfl, rfl⟩) | (go_at_call 28; ((with_reducible refine (repoch_is to true _ H2.out).mono ?_)); rintro e w' ⟨rfl, rfl⟩))
          go_ret
          exact ⟨by rw [HV.out]; rfl, hend⟩
        · have h5 : 65535 < n := by simp [okN] at h3; omega
          clear hbad h1 h2 h3
          go_enter Try.func14, Try.ntmps14
          go_wp2_with (first | (go_at_call 28; ((with_reducible refine (repoch_is x true _ H1.out).mono ?_)); rintro e w' ⟨rfl, rfl⟩) | (go_at_call 28; ((with_reducible refine (repoch_is to true _ H2.out).mono ?_)); rintro e w' ⟨rfl, rfl⟩))
          go_ret
          exact ⟨by rw [HV.out]; rfl, hend⟩
      · have H2 := Lib.hid (show okE to = false by simpa using h2)
        clear hbad h1 h2
        go_enter Try.func14, Try.ntmps14
        go_wp2_with (first | (go_at_call 28; ((with_reducible refine (repoch_is x true _ H1.out).mono ?_)); rintro e w' ⟨rfl, rfl⟩) | (go_at_call 28; ((with_reducible refine (repoch_is to false _ H2.out).mono ?_)); rintro e w' ⟨rfl, rfl⟩))
        go_ret
        exact ⟨by rw [HV.out]; rfl, hend⟩
    · have H1 := Lib.hid (show okE x = false by simpa using h1)
      clear hbad h1
      go_enter Try.func14, Try.ntmps14
      go_wp2_with (first | (go_at_call 28; ((with_reducible refine (repoch_is x false _ H1.out).mono ?_)); rintro e w' ⟨rfl, rfl⟩))
      go_ret
      exact ⟨by rw [HV.out]; rfl, hend⟩
  · have h1 : okE x = true := by cases e : okE x <;> simp_all
    have h2 : okE to = true := by cases e : okE to <;> simp_all
    have h3 : okN n = true := by cases e : okN n <;> simp_all
    have h4 : 1 ≤ n ∧ n ≤ 65535 := by simpa [okN] using h3
    obtain ⟨h4a, h4b⟩ := h4
    obtain ⟨c0, c1, c2, c3⟩ := h.c
    have H1 := Lib.hid h1
    have H2 := Lib.hid h2
    by_cases h5 : to = s.own
    · by_cases h6 : x < s.known
      · have HV := Lib.hid (show takeV s x to n = 180 by rw [takeV, if_neg hbad, if_neg (by simp [h5]), if_pos h6])
        have ht : takeS s x to n = s := by rw [takeS, if_pos (by simp [h6])]
        rw [ht]
        have hend : RPost base p s L w w (fun k => k = p ∨ k = bw ∨ v.ownBlock = some k) := ⟨⟨bw, v, L, h, by omega⟩, Only.refl _ _⟩
        clear hbad h1 h2 h3 ht
        rw [← h5] at c0
        clear h5
        go_enter Try.func14, Try.ntmps14
        go_wp2_with (first | (go_at_call 28; ((with_reducible refine (repoch_is x true _ H1.out).mono ?_)); rintro e w' ⟨rfl, rfl⟩) | (go_at_call 28; ((with_reducible refine (repoch_is to true _ H2.out).mono ?_)); rintro e w' ⟨rfl, rfl⟩) | (go_at_call 29; go_loud (refine (rlearn_lt base p bw v s L x _ (by exact h) h6).mono ?_); rintro e w' ⟨rfl, rfl⟩))
        go_ret
        exact ⟨by rw [HV.out]; rfl, hend⟩
      · have hv : takeV s x to n = mayV (hearS s x).t (hearS s x).g n := by rw [takeV, if_neg hbad, if_neg (by simp [h5]), if_neg h6]
        have ht : takeS s x to n = winS (hearS s x) n := by rw [takeS, if_neg (fun hh => by rcases hh with e | e | e | e | e <;> first | (rw [h1] at e; cases e) | (rw [h2] at e; cases e) | (rw [h3] at e; cases e) | exact e h5 | exact h6 e)]
        by_cases h7 : s.known < x
        · have hs : hearS s x = { s with known := x, t := 0, g := 0 } := by rw [hearS, if_pos h7]
          rw [hs] at hv ht
          have HV := Lib.hid hv
          rw [ht]
          clear hbad h1 h2 h3 ht hv hs
          rw [← h5] at c0
          clear h5
          go_enter Try.func14, Try.ntmps14
          go_wp2_with (first | (go_at_call 28; ((with_reducible refine (repoch_is x true _ H1.out).mono ?_)); rintro e w' ⟨rfl, rfl⟩) | (go_at_call 28; ((with_reducible refine (repoch_is to true _ H2.out).mono ?_)); rintro e w' ⟨rfl, rfl⟩) | (go_at_call 29; refine (rlearn_gt base p bw v s L x _ (by exact h) h7 hbase).mono ?_; rintro e w1 ⟨rfl, hr, ho⟩; obtain ⟨e0, e1, e2, e3⟩ := hr.c) | (go_at_call 30; refine (rTake_any base w.heap.size (.slice none 0 0) [] 0 0 n _ (by exact hr.win) (by simp) (by have := ho.size; omega) WInv.zero hn).mono ?_; rintro e w2 ⟨rfl, ⟨v', hw'⟩, ho2⟩))
          go_ret
          have hpl : p < w.heap.size := (Array.getElem?_eq_some_iff.1 h.cells).1
          have hno : ∀ k, (k = w.heap.size ∨ (Value.slice none 0 0).ownBlock = some k) → k = w.heap.size := fun k e => by rcases e with e | e; exact e; simp [Value.ownBlock] at e
          have ho3 : Only (fun k => k = w.heap.size) w1 w2 := ho2.shrink (fun k _ e => hno k e)
          refine ⟨by rw [HV.out]; rfl, ⟨⟨w.heap.size, v', _, ⟨ho3.obj hr.cells (by show ¬ p = w.heap.size; omega), hw', win_next WInv.zero, hr.low⟩, by split <;> simp⟩, (ho.shrink (fun k _ e => .inl e)).trans' ho3 (Nat.le_refl _)⟩⟩
        · have hs : hearS s x = s := by rw [hearS, if_neg h7]
          rw [hs] at hv ht
          have HV := Lib.hid hv
          rw [ht]
          have HXE := Lib.hid (show x = s.known by omega)
          clear hbad h1 h2 h3 ht hv hs
          rw [← h5] at c0
          clear h5
          go_enter Try.func14, Try.ntmps14
          go_wp2_with (first | (go_at_call 28; ((with_reducible refine (repoch_is x true _ H1.out).mono ?_)); rintro e w' ⟨rfl, rfl⟩) | (go_at_call 28; ((with_reducible refine (repoch_is to true _ H2.out).mono ?_)); rintro e w' ⟨rfl, rfl⟩) | (go_at_call 29; refine (rlearn_eq base p bw v s L x _ (by exact h) HXE.out).mono ?_; rintro e w1 ⟨rfl, rfl⟩) | (go_at_call 30; refine (rTake_any base bw v L s.t s.g n _ (by exact h.win) (by omega) hbase h.inv hn).mono ?_; rintro e w2 ⟨rfl, ⟨v', hw'⟩, ho2⟩))
          go_ret
          have hpb : ¬ p = bw := row_ne' h.win.1 h.cells (by decide)
          have hpv : ¬ v.ownBlock = some p := fun e => row_ne h.win.2 h.cells (by decide) _ e rfl
          exact ⟨by rw [HV.out]; rfl, ⟨⟨bw, v', _, ⟨ho2.obj h.cells (fun e => e.elim hpb hpv), hw', win_next h.inv, h.low⟩, by split <;> simp⟩, ho2.shrink (fun k _ e => .inr e)⟩⟩
    · have HV := Lib.hid (show takeV s x to n = 190 by rw [takeV, if_neg hbad, if_pos h5])
      have ht : takeS s x to n = s := by rw [takeS, if_pos (by simp [h5])]
      have h5' : (to != s.own) = true := by simpa using h5
      rw [ht]
      have hend : RPost base p s L w w (fun k => k = p ∨ k = bw ∨ v.ownBlock = some k) := ⟨⟨bw, v, L, h, by omega⟩, Only.refl _ _⟩
      clear hbad h1 h2 h3 ht h5
      go_enter Try.func14, Try.ntmps14
      go_wp2_with (first | (go_at_call 28; ((with_reducible refine (repoch_is x true _ H1.out).mono ?_)); rintro e w' ⟨rfl, rfl⟩) | (go_at_call 28; ((with_reducible refine (repoch_is to true _ H2.out).mono ?_)); rintro e w' ⟨rfl, rfl⟩))
      go_ret
      exact ⟨by rw [HV.out]; rfl, hend⟩
end Go.Proofs.Ytmmaankgoinijaa
