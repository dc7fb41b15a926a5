/- The walks of the document's Script and Skeleton. -/
import Derived.Test.YtflbbpmlcllamaaRefO
namespace Go.Proofs.Ytflbbpmlcllamaa
open Go.RowKit Go.Lib Go.Maps

theorem conv_rows {w : World} {cap : Nat} {a : Option Addr} {xs : List Int} (h : Runes w (.slice a xs.length cap) xs) :
    (convert 36 9 (.slice a xs.length cap)).run Try.prog w = .ok (.string (runesBytes xs)) w := by
  obtain ⟨a', cap', h1, _, h2⟩ := h
  injection h1 with h1 _ h3
  subst h1 h3
  by_cases h0 : 0 < xs.length
  · obtain ⟨b, rfl, hc⟩ := h2 h0
    have hc := run_convert_runes (P := Try.prog) w 36 9 21 ⟨b, 0, none⟩ xs.length cap xs (Nat.le_refl _) Try.underlying36 Try.underlying21 Try.underlying9 (fun j hj => by
      have e : (⟨b, 0, none⟩ : Addr).add j = ⟨b, j, none⟩ := by unfold Addr.add; split <;> simp_all
      rw [e]; exact hc j hj)
    rw [List.take_of_length_le (Nat.le_refl _)] at hc
    exact hc
  · obtain rfl := List.eq_nil_of_length_eq_zero (show xs.length = 0 by omega)
    cases a with
    | none => rw [show ([] : List Int).length = 0 from rfl, run_convert_runes_nil w _ _ 21 _ _ Try.underlying36 Try.underlying21 Try.underlying9]; rfl
    | some p =>
      have hc := run_convert_runes (P := Try.prog) w 36 9 21 p 0 cap [] (Nat.le_refl _) Try.underlying36 Try.underlying21 Try.underlying9 (fun j hj => by omega)
      exact hc

set_option maxHeartbeats 2000000 in
theorem rSkel_any (s x : ByteArray) (v : Int) (w : World) (hs : s.size ≤ 1024) (hx : skS s = x) (hv : checkV s = v) : Calls Try.prog 10 #[.string s] w fun e w' => e = .returned (.tuple #[.string x, .int .i64 v]) ∧ Below w.heap.size w w' := by
  have HC := Lib.hid hv
  by_cases hc : v = 0
  · subst hc
    have HS := Lib.hid (show x = runesBytes (lookL s) by rw [← hx, skS, if_pos hv])
    clear hx hv
    go_enter Try.func10, Try.ntmps10
    go_wp2_with (first | (go_at_call 12; refine (rcheck_is s 0 _ hs HC.out).mono ?_; rintro e w1 ⟨rfl, hB⟩) | (go_at_call 22; refine (rLooks_any s _ hs).mono ?_; rintro e w2 ⟨u, rfl, hrow, hB2⟩; obtain ⟨a, cap, rfl⟩ : ∃ x y, u = .slice x (lookL s).length y := (by obtain ⟨x, y, h, _⟩ := hrow; exact ⟨x, y, h⟩); have hconv := conv_rows hrow))
    go_ret2
    exact ⟨by rw [HS.out]; rfl, hB.trans (hB2.mono hB.size)⟩
  · have HS := Lib.hid (show x = ByteArray.empty by rw [← hx, skS, if_neg (by rw [hv]; exact hc)])
    have hc' : (v != 0) = true := by simpa using hc
    clear hc hx hv
    go_enter Try.func10, Try.ntmps10
    go_wp2_with (go_at_call 12; refine (rcheck_is s v _ hs HC.out).mono ?_; rintro e w1 ⟨rfl, hB⟩)
    go_ret2
    exact ⟨by rw [HS.out]; rfl, hB⟩

set_option maxHeartbeats 4000000 in
theorem rScript_any (s : ByteArray) (w : World) (hs : s.size ≤ 1024) : Calls Try.prog 14 #[.string s] w fun e w' => e = .returned (.int .u8 (scriptV s)) ∧ Below w.heap.size w w' := by
  obtain ⟨c, hc⟩ : ∃ c, checkV s = c := ⟨_, rfl⟩
  have HC := Lib.hid hc
  have hrl := runes_length s
  by_cases h0 : c = 0
  · subst h0
    have hsc := script_ok hc
    obtain ⟨P, hP⟩ : ∃ P, firstNZ (runes s) = P := ⟨_, rfl⟩
    rw [hsc, hP]
    have HP := Lib.hid hP
    clear hc hsc hP
    go_enter Try.func14, Try.ntmps14
    go_wp2_with fail
    refine (rRunes_any s _ hs).mono ?_
    rintro e w1 ⟨v, rfl, hrow, hB⟩
    obtain ⟨a, cap, rfl, _, hcc⟩ := Runes.of_owns hrow (by omega)
    clear hrow
    generalize runes s = xs at *
    go_wp2
    go_loopw [4] (fun o wr => ∃ k : Nat, k ≤ xs.length ∧ o = .int .i64 k ∧ firstNZ (xs.drop k) = P ∧ Only (fun _ => False) w1 wr ∧ Below w.heap.size w wr) (fun o _ => xs.length - (intOf o).toNat)
    case atStart => exact ⟨0, by omega, rfl, HP.out, Only.refl _ _, hB⟩
    case round =>
      clear hB
      obtain ⟨k, hk, rfl, hr, ho, hB⟩ := hrel
      by_cases hlt : k < xs.length
      · obtain ⟨b, rfl, hcd⟩ := hcc (by omega)
        have hck := ho.cell (hcd k hlt) id
        rw [drop_get xs k hlt, firstNZ] at hr
        clear hcc hcd
        generalize xs.getD k 0 = r at *
        obtain ⟨v, hv⟩ : ∃ v, ofV r = v := ⟨_, rfl⟩
        rw [hv] at hr
        have HV := Lib.hid hv
        clear hv
        by_cases hv0 : v = 0
        · subst hv0
          rw [if_pos rfl] at hr
          have HR := Lib.hid hr
          clear hr
          go_wp2_with (first | (go_at_call 12; refine (rcheck_is s 0 _ hs HC.out).mono ?_; rintro e w2 ⟨rfl, hB2⟩; have hck2 := (Only.of_below hB2).cell hck id; have ho2 := ho.trans (Only.of_below hB2); have hB3 := hB.trans (hB2.mono hB.size)) | (go_at_call 25; refine (rscript_is r 0 _ HV.out).mono ?_; rintro e w3 ⟨rfl, rfl⟩))
          exact ⟨⟨k + 1, by omega, by go_num, HR.out, ho2, hB3⟩, by simp [intOf]; omega⟩
        · rw [if_neg hv0] at hr
          have HR := Lib.hid hr
          have hvb : (v != 0) = true := by simpa using hv0
          clear hr hv0
          go_wp2_with (first | (go_at_call 12; refine (rcheck_is s 0 _ hs HC.out).mono ?_; rintro e w2 ⟨rfl, hB2⟩; have hck2 := (Only.of_below hB2).cell hck id; have hB3 := hB.trans (hB2.mono hB.size)) | (go_at_call 25; refine (rscript_is r v _ HV.out).mono ?_; rintro e w3 ⟨rfl, rfl⟩))
          go_ret
          exact ⟨by rw [← HR.out]; rfl, hB3⟩
      · have hp : P = 0 := by rw [← hr, List.drop_of_length_le (by omega)]; rfl
        have HQ := Lib.hid hp
        clear hp hr hcc
        go_wp2
        go_ret
        exact ⟨by rw [HQ.out]; rfl, hB⟩
  · have hsc := script_off (s := s) (by rw [hc]; exact h0)
    rw [hsc]
    have hcb : (c == 0) = false := by simpa using h0
    clear hc hsc h0
    go_enter Try.func14, Try.ntmps14
    go_wp2_with fail
    refine (rRunes_any s _ hs).mono ?_
    rintro e w1 ⟨v, rfl, hrow, hB⟩
    obtain ⟨a, cap, rfl⟩ := slice_of_owns hrow
    clear hrow
    generalize runes s = xs at *
    go_wp2
    go_loopw [4] (fun o wr => o = .int .i64 0 ∧ wr = w1) (fun o _ => 0)
    case atStart => exact ⟨rfl, rfl⟩
    case round =>
      obtain ⟨rfl, rfl⟩ := hrel
      by_cases hlt : 0 < xs.length
      · go_wp2_with (first | (go_at_call 12; refine (rcheck_is s c _ hs HC.out).mono ?_; rintro e w2 ⟨rfl, hB2⟩))
        go_ret
        exact ⟨rfl, hB.trans (hB2.mono hB.size)⟩
      · obtain h00 : xs.length = 0 := by omega
        rw [h00]
        go_wp2
        go_ret
        exact ⟨rfl, hB⟩
end Go.Proofs.Ytflbbpmlcllamaa
