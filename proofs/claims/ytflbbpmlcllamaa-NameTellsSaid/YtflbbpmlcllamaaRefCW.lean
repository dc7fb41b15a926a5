/- The walk of the document's Check and Script. -/
import Derived.Test.YtflbbpmlcllamaaRefC
import Derived.Deep.RegionHeld3
namespace Go.Proofs.Ytflbbpmlcllamaa
open Go.RowKit Go.Lib Go.Maps

theorem Runes.at {w : World} {v : Value} {xs : List Int} (h : Runes w v xs) (hp : 0 < xs.length) : ∃ b cap, v = .slice (some ⟨b, 0, none⟩) xs.length cap ∧ ∀ i, i < xs.length → w.cell? ⟨b, i, none⟩ = some (.int .i32 (xs.getD i 0)) := by
  obtain ⟨a, cap, rfl, _, h2⟩ := h
  obtain ⟨b, rfl, h3⟩ := h2 hp
  exact ⟨b, cap, rfl, h3⟩

theorem rscript_is (r v : Int) (w : World) (h : ofV r = v) : Calls Try.prog 25 #[.int .i32 r] w fun e w' => e = .returned (.int .u8 v) ∧ w = w' := h ▸ rscript_any r w

def mixP (xs : List Int) (i j : Nat) : Prop := ofV (xs.getD i 0) ≠ 0 ∧ ofV (xs.getD j 0) ≠ 0 ∧ ofV (xs.getD i 0) ≠ ofV (xs.getD j 0)
theorem getD_mem {xs : List Int} {i : Nat} (h : i < xs.length) : xs.getD i 0 ∈ xs := by rw [List.getD_eq_getElem?_getD, List.getElem?_eq_getElem h]; exact List.getElem_mem _
theorem mem_getD {xs : List Int} {x : Int} (h : x ∈ xs) : ∃ i, i < xs.length ∧ xs.getD i 0 = x := by
  obtain ⟨i, hi, rfl⟩ := List.mem_iff_getElem.1 h
  exact ⟨i, hi, by rw [List.getD_eq_getElem?_getD, List.getElem?_eq_getElem hi]; rfl⟩
theorem nomix_of {xs : List Int} (h : ∀ i, i < xs.length → ∀ j, j < i → ¬ mixP xs i j) : NoMix xs := by
  intro x hx y hy hx0 hy0
  obtain ⟨i, hi, rfl⟩ := mem_getD hx
  obtain ⟨j, hj, rfl⟩ := mem_getD hy
  rcases Nat.lt_trichotomy i j with e | e | e
  · by_cases hh : ofV (xs.getD i 0) = ofV (xs.getD j 0)
    · exact hh
    · exact absurd ⟨hy0, hx0, fun e => hh e.symm⟩ (h j hj i e)
  · rw [e]
  · by_cases hh : ofV (xs.getD i 0) = ofV (xs.getD j 0)
    · exact hh
    · exact absurd ⟨hx0, hy0, hh⟩ (h i hi j e)
theorem mix_no {xs : List Int} {i j : Nat} (hi : i < xs.length) (hj : j < xs.length) (h : mixP xs i j) : ¬ NoMix xs := fun hm => h.2.2 (hm _ (getD_mem hi) _ (getD_mem hj) h.1 h.2.1)

set_option maxRecDepth 100000 in
set_option maxHeartbeats 40000000 in
theorem rCheck_any (s : ByteArray) (w : World) (hs : s.size ≤ 1024) : Calls Try.prog 12 #[.string s] w fun e w' => e = .returned (.int .i64 (checkV s)) ∧ Below w.heap.size w w' := by
  by_cases hlong : 24 < (runes s).length
  · have HV := Lib.hid (check_long hlong)
    go_enter Try.func12, Try.ntmps12
    go_wp2_with (go_at_call 24; refine (rRunes_any s _ hs).mono ?_; rintro e w1 ⟨v, rfl, hrow, hB⟩; obtain ⟨a, cap, rfl⟩ := slice_of_owns hrow)
    go_ret
    exact ⟨by rw [HV.out]; rfl, hB⟩
  · have hl : (runes s).length ≤ 24 := by omega
    obtain ⟨xs, hxs⟩ : ∃ xs, runes s = xs := ⟨_, rfl⟩
    by_cases hd : dashL (runes s)
    · have HV := Lib.hid (check_dash hl hd)
      have HXS := Lib.hid hxs
      rw [hxs] at hd hl
      clear hxs hlong
      by_cases h0 : xs.length = 0
      · go_enter Try.func12, Try.ntmps12
        go_wp2_with (go_at_call 24; refine (rRunes_any s _ hs).mono ?_; rw [HXS.out, h0]; rintro e w1 ⟨v, rfl, hrow, hB⟩; obtain ⟨a, cap, rfl⟩ := slice_of_owns hrow)
        go_ret
        exact ⟨by rw [HV.out]; rfl, hB⟩
      · by_cases h45 : xs.getD 0 0 = 45
        · go_enter Try.func12, Try.ntmps12
          go_wp2_with fail
          refine (rRunes_any s _ hs).mono ?_
          rw [HXS.out]
          rintro e w1 ⟨v, rfl, hrow, hB⟩
          obtain ⟨b, cap, rfl, hc⟩ := (Runes.of_owns hrow (by omega)).at (by omega)
          have h1 := hc 0 (by omega)
          rw [h45] at h1
          clear hc
          go_wp2
          go_ret
          exact ⟨by rw [HV.out]; rfl, hB⟩
        · have hlast : xs.getD (xs.length - 1) 0 = 45 := by
            rcases hd with h | h | h
            · exact absurd h h0
            · exact absurd h h45
            · exact h
          go_enter Try.func12, Try.ntmps12
          go_wp2_with fail
          refine (rRunes_any s _ hs).mono ?_
          rw [HXS.out]
          rintro e w1 ⟨v, rfl, hrow, hB⟩
          obtain ⟨b, cap, rfl, hc⟩ := (Runes.of_owns hrow (by omega)).at (by omega)
          have h1 := hc 0 (by omega)
          have h2 := hc (xs.length - 1) (by omega)
          rw [hlast] at h2
          have h45' : (xs.getD 0 0 == 45) = false := by simpa using h45
          generalize xs.getD 0 0 = x at *
          clear hc h45 hlast hd
          obtain ⟨n, hn⟩ : ∃ n, xs.length = n + 1 := ⟨xs.length - 1, by omega⟩
          have hz : (((n : Int) + 1) == 0) = false := by simp; omega
          rw [show xs.length - 1 = n by omega] at h2
          rw [hn] at ⊢
          go_wp2
          go_ret
          exact ⟨by rw [HV.out]; rfl, hB⟩
    · obtain ⟨P, hP⟩ : ∃ P, checkV s = P := ⟨_, rfl⟩
      have hbad := check_bad hl hd
      have hmix := check_mix hl hd
      have hok := check_ok hl hd
      have HP := Lib.hid hP
      have HXS := Lib.hid hxs
      rw [hxs, hP] at hbad hmix hok
      rw [hxs] at hd hl
      rw [hP]
      clear hxs hP hlong
      have h0 : xs.length ≠ 0 := fun e => hd (.inl e)
      have h45 : (xs.getD 0 0 == 45) = false := by
        have : ¬ xs.getD 0 0 = 45 := fun e => hd (.inr (.inl e))
        simpa using this
      have hlast : (xs.getD (xs.length - 1) 0 == 45) = false := by
        have : ¬ xs.getD (xs.length - 1) 0 = 45 := fun e => hd (.inr (.inr e))
        simpa using this
      go_enter Try.func12, Try.ntmps12
      go_wp2_with fail
      refine (rRunes_any s _ hs).mono ?_
      rw [HXS.out]
      rintro e w1 ⟨v, rfl, hrow, hB⟩
      obtain ⟨b, cap, rfl, hc⟩ := (Runes.of_owns hrow (by omega)).at (by omega)
      have h1 := hc 0 (by omega)
      have h2 := hc (xs.length - 1) (by omega)
      obtain ⟨n, hn⟩ : ∃ n, xs.length = n + 1 := ⟨xs.length - 1, by omega⟩
      have hn1 : xs.length - 1 = n := by omega
      rw [hn1] at h2 hlast
      have HC := Lib.hid hc
      clear hc hd h0 hrow
      generalize hx0 : xs.getD 0 0 = x at h45 h1
      generalize hxn : xs.getD n 0 = y at hlast h2
      rw [hn]
      rw [hn] at hl
      have hz : (((n : Int) + 1) == 0) = false := by simp; omega
      go_wp2
      go_loopw [4] (fun i wr => ∃ k : Nat, k ≤ n + 1 ∧ i = .int .i64 k ∧ w1 = wr ∧ ∀ j, j < k → badR (xs.getD j 0) = false) (fun i _ => n + 1 - (intOf i).toNat)
      case atStart => exact ⟨0, by omega, rfl, rfl, by omega⟩
      case round =>
        obtain ⟨k, hk, rfl, rfl, hgood⟩ := hrel
        by_cases hlt : k < n + 1
        · have hck := HC.out k (by omega)
          have hmem : xs.getD k 0 ∈ xs := by rw [List.getD_eq_getElem?_getD, List.getElem?_eq_getElem (by omega)]; exact List.getElem_mem _
          have HG := Lib.hid hgood
          clear hgood
          generalize hr : xs.getD k 0 = r at hck hmem
          obtain ⟨v, hv⟩ : ∃ v, ofV r = v := ⟨_, rfl⟩
          have HVV := Lib.hid hv
          by_cases hv0 : v = 0
          · subst hv0
            by_cases hsg : signV r = true
            · have HSG := Lib.hid hsg
              have hb : badR r = false := by simp [badR, hv]; simp [signV] at hsg; omega
              have HBR := Lib.hid hb
              clear hv hsg hb hbad hmix hok
              go_wp2_with (first | (go_at_call 25; refine (rscript_is r 0 _ HVV.out).mono ?_; rintro e w2 ⟨rfl, rfl⟩) | (go_at_call 26; refine (rsign_any r _).mono ?_; rw [HSG.out]; rintro e w2 ⟨rfl, rfl⟩))
              exact ⟨⟨k + 1, by omega, by go_num, trivial, fun j hj => by
                by_cases e : j = k
                · rw [e, hr]; exact HBR.out
                · exact HG.out j (by omega)⟩, by simp [intOf]; omega⟩
            · have hsg' : signV r = false := by simpa using hsg
              have HSG := Lib.hid hsg'
              have hb : badR r = true := by simp [badR, hv]; simp [signV] at hsg; omega
              obtain rfl := hbad ⟨r, hmem, hb⟩
              clear hv hsg hb hbad hmix hok hsg'
              go_wp2_with (first | (go_at_call 25; refine (rscript_is r 0 _ HVV.out).mono ?_; rintro e w2 ⟨rfl, rfl⟩) | (go_at_call 26; refine (rsign_any r _).mono ?_; rw [HSG.out]; rintro e w2 ⟨rfl, rfl⟩))
              go_ret
              exact ⟨rfl, hB⟩
          · have hb : badR r = false := by simp [badR, hv, hv0]
            have HBR := Lib.hid hb
            have hv0' : (v == 0) = false := by simpa using hv0
            clear hv hb hbad hmix hok hv0
            go_wp2_with (first | (go_at_call 25; refine (rscript_is r v _ HVV.out).mono ?_; rintro e w2 ⟨rfl, rfl⟩))
            exact ⟨⟨k + 1, by omega, by go_num, trivial, fun j hj => by
              by_cases e : j = k
              · rw [e, hr]; exact HBR.out
              · exact HG.out j (by omega)⟩, by simp [intOf]; omega⟩
        · have hall : ∀ r ∈ xs, badR r = false := by
            intro r hr
            obtain ⟨i, hi, rfl⟩ := mem_getD hr
            exact hgood i (by omega)
          replace hmix := hmix hall
          replace hok := hok hall
          have HMX := Lib.hid hmix
          have HOK := Lib.hid hok
          have HN := Lib.hid hn
          clear hmix hok hbad hall hgood h1 h2 h45 hlast hz hx0 hxn hn1 HP HXS
          go_wp2
          go_loopw [5] (fun i wr => ∃ k : Nat, k ≤ n + 1 ∧ i = .int .i64 k ∧ (∃ t, wr = w1.drewN t) ∧ ∀ i, i < k → ∀ j, j < i → ¬ mixP xs i j) (fun i _ => n + 1 - (intOf i).toNat)
          case atStart => exact ⟨0, by omega, rfl, ⟨0, rfl⟩, by omega⟩
          case round =>
            obtain ⟨i, hi, rfl, ⟨t, rfl⟩, hno⟩ := hrel
            by_cases hlt' : i < n + 1
            · have HCI := Lib.hid (HC.out i (by omega))
              have HNO := Lib.hid hno
              clear hno
              go_wp2
              go_loopw [6] (fun o wr => ∃ k : Nat, k ≤ i ∧ o = .int .i64 k ∧ (∃ t, wr = w1.drewN t) ∧ ∀ j, j < k → ¬ mixP xs i j) (fun o _ => i - (intOf o).toNat)
              case atStart => exact ⟨0, by omega, rfl, ⟨_, rfl⟩, by omega⟩
              case round =>
                obtain ⟨j, hj, rfl, ⟨t, rfl⟩, hnj⟩ := hrel
                by_cases hjt : j < i
                · have hci := HCI.out
                  have hcj := HC.out j (by omega)
                  have HNJ := Lib.hid hnj
                  clear hnj
                  have hmx := mix_no (xs := xs) (i := i) (j := j) (by have := HN.out; omega) (by have := HN.out; omega)
                  have hm : mixP xs i j ↔ ofV (xs.getD i 0) ≠ 0 ∧ ofV (xs.getD j 0) ≠ 0 ∧ ofV (xs.getD i 0) ≠ ofV (xs.getD j 0) := Iff.rfl
                  generalize xs.getD i 0 = r at *
                  generalize xs.getD j 0 = q at *
                  obtain ⟨v, hv⟩ : ∃ v, ofV r = v := ⟨_, rfl⟩
                  obtain ⟨u, hu⟩ : ∃ v, ofV q = v := ⟨_, rfl⟩
                  rw [hv, hu] at hm
                  have HM := Lib.hid hm
                  have HV := Lib.hid hv
                  have HU := Lib.hid hu
                  have HMI := Lib.hid hmx
                  clear hv hu hm hmx
                  have hjn : j < n + 1 := by omega
                  have hjn' : (j : Int) < (n : Int) + 1 := by omega
                  have hin' : (i : Int) < (n : Int) + 1 := by omega
                  have hvc : v = 0 ∨ v = 1 ∨ v = 2 ∨ v = 3 := by have := ofV_bd r; have := HV.out; omega
                  have huc : u = 0 ∨ u = 1 ∨ u = 2 ∨ u = 3 := by have := ofV_bd q; have := HU.out; omega
                  rcases hvc with rfl | rfl | rfl | rfl
                  · clear huc
                    go_wp2_with (first | (go_at_call 25; ((with_reducible refine (rscript_is r 0 _ HV.out).mono ?_)); rintro e w2 ⟨rfl, rfl⟩) | (go_at_call 25; ((with_reducible refine (rscript_is q u _ HU.out).mono ?_)); rintro e w2 ⟨rfl, rfl⟩))
                    go_quiet (first | (with_reducible refine (rscript_is r 0 _ HV.out).mono fun _ _ h => ⟨h.1, _, h.2.symm⟩) | (with_reducible refine (rscript_is q u _ HU.out).mono fun _ _ h => ⟨h.1, _, h.2.symm⟩))
                    go_wp2
                    exact ⟨⟨j + 1, by omega, by go_num, ⟨_, rfl⟩, fun j' hj' => by
                      by_cases e : j' = j
                      · rw [e]; intro hh; have := HM.out.1 hh; omega
                      · exact HNJ.out j' (by omega)⟩, by simp [intOf]; omega⟩
                  · rcases huc with rfl | rfl | rfl | rfl
                    · go_wp2_with (first | (go_at_call 25; ((with_reducible refine (rscript_is r 1 _ HV.out).mono ?_)); rintro e w2 ⟨rfl, rfl⟩) | (go_at_call 25; ((with_reducible refine (rscript_is q 0 _ HU.out).mono ?_)); rintro e w2 ⟨rfl, rfl⟩))
                      go_quiet (first | (with_reducible refine (rscript_is r 1 _ HV.out).mono fun _ _ h => ⟨h.1, _, h.2.symm⟩) | (with_reducible refine (rscript_is q 0 _ HU.out).mono fun _ _ h => ⟨h.1, _, h.2.symm⟩))
                      go_wp2
                      exact ⟨⟨j + 1, by omega, by go_num, ⟨_, rfl⟩, fun j' hj' => by
                        by_cases e : j' = j
                        · rw [e]; intro hh; have := HM.out.1 hh; omega
                        · exact HNJ.out j' (by omega)⟩, by simp [intOf]; omega⟩
                    · go_wp2_with (first | (go_at_call 25; ((with_reducible refine (rscript_is r 1 _ HV.out).mono ?_)); rintro e w2 ⟨rfl, rfl⟩) | (go_at_call 25; ((with_reducible refine (rscript_is q 1 _ HU.out).mono ?_)); rintro e w2 ⟨rfl, rfl⟩))
                      go_quiet (first | (with_reducible refine (rscript_is r 1 _ HV.out).mono fun _ _ h => ⟨h.1, _, h.2.symm⟩) | (with_reducible refine (rscript_is q 1 _ HU.out).mono fun _ _ h => ⟨h.1, _, h.2.symm⟩))
                      go_wp2
                      exact ⟨⟨j + 1, by omega, by go_num, ⟨_, rfl⟩, fun j' hj' => by
                        by_cases e : j' = j
                        · rw [e]; intro hh; have := HM.out.1 hh; omega
                        · exact HNJ.out j' (by omega)⟩, by simp [intOf]; omega⟩
                    · obtain rfl := HMX.out (HMI.out (HM.out.2 ⟨by decide, by decide, by decide⟩))
                      go_wp2_with (first | (go_at_call 25; ((with_reducible refine (rscript_is r 1 _ HV.out).mono ?_)); rintro e w2 ⟨rfl, rfl⟩) | (go_at_call 25; ((with_reducible refine (rscript_is q 2 _ HU.out).mono ?_)); rintro e w2 ⟨rfl, rfl⟩))
                      go_quiet (first | (with_reducible refine (rscript_is r 1 _ HV.out).mono fun _ _ h => ⟨h.1, _, h.2.symm⟩) | (with_reducible refine (rscript_is q 2 _ HU.out).mono fun _ _ h => ⟨h.1, _, h.2.symm⟩))
                      go_wp2
                      go_ret
                      exact ⟨rfl, (hB.drewN _).drewN _⟩
                    · obtain rfl := HMX.out (HMI.out (HM.out.2 ⟨by decide, by decide, by decide⟩))
                      go_wp2_with (first | (go_at_call 25; ((with_reducible refine (rscript_is r 1 _ HV.out).mono ?_)); rintro e w2 ⟨rfl, rfl⟩) | (go_at_call 25; ((with_reducible refine (rscript_is q 3 _ HU.out).mono ?_)); rintro e w2 ⟨rfl, rfl⟩))
                      go_quiet (first | (with_reducible refine (rscript_is r 1 _ HV.out).mono fun _ _ h => ⟨h.1, _, h.2.symm⟩) | (with_reducible refine (rscript_is q 3 _ HU.out).mono fun _ _ h => ⟨h.1, _, h.2.symm⟩))
                      go_wp2
                      go_ret
                      exact ⟨rfl, (hB.drewN _).drewN _⟩
                  · rcases huc with rfl | rfl | rfl | rfl
                    · go_wp2_with (first | (go_at_call 25; ((with_reducible refine (rscript_is r 2 _ HV.out).mono ?_)); rintro e w2 ⟨rfl, rfl⟩) | (go_at_call 25; ((with_reducible refine (rscript_is q 0 _ HU.out).mono ?_)); rintro e w2 ⟨rfl, rfl⟩))
                      go_quiet (first | (with_reducible refine (rscript_is r 2 _ HV.out).mono fun _ _ h => ⟨h.1, _, h.2.symm⟩) | (with_reducible refine (rscript_is q 0 _ HU.out).mono fun _ _ h => ⟨h.1, _, h.2.symm⟩))
                      go_wp2
                      exact ⟨⟨j + 1, by omega, by go_num, ⟨_, rfl⟩, fun j' hj' => by
                        by_cases e : j' = j
                        · rw [e]; intro hh; have := HM.out.1 hh; omega
                        · exact HNJ.out j' (by omega)⟩, by simp [intOf]; omega⟩
                    · obtain rfl := HMX.out (HMI.out (HM.out.2 ⟨by decide, by decide, by decide⟩))
                      go_wp2_with (first | (go_at_call 25; ((with_reducible refine (rscript_is r 2 _ HV.out).mono ?_)); rintro e w2 ⟨rfl, rfl⟩) | (go_at_call 25; ((with_reducible refine (rscript_is q 1 _ HU.out).mono ?_)); rintro e w2 ⟨rfl, rfl⟩))
                      go_quiet (first | (with_reducible refine (rscript_is r 2 _ HV.out).mono fun _ _ h => ⟨h.1, _, h.2.symm⟩) | (with_reducible refine (rscript_is q 1 _ HU.out).mono fun _ _ h => ⟨h.1, _, h.2.symm⟩))
                      go_wp2
                      go_ret
                      exact ⟨rfl, (hB.drewN _).drewN _⟩
                    · go_wp2_with (first | (go_at_call 25; ((with_reducible refine (rscript_is r 2 _ HV.out).mono ?_)); rintro e w2 ⟨rfl, rfl⟩) | (go_at_call 25; ((with_reducible refine (rscript_is q 2 _ HU.out).mono ?_)); rintro e w2 ⟨rfl, rfl⟩))
                      go_quiet (first | (with_reducible refine (rscript_is r 2 _ HV.out).mono fun _ _ h => ⟨h.1, _, h.2.symm⟩) | (with_reducible refine (rscript_is q 2 _ HU.out).mono fun _ _ h => ⟨h.1, _, h.2.symm⟩))
                      go_wp2
                      exact ⟨⟨j + 1, by omega, by go_num, ⟨_, rfl⟩, fun j' hj' => by
                        by_cases e : j' = j
                        · rw [e]; intro hh; have := HM.out.1 hh; omega
                        · exact HNJ.out j' (by omega)⟩, by simp [intOf]; omega⟩
                    · obtain rfl := HMX.out (HMI.out (HM.out.2 ⟨by decide, by decide, by decide⟩))
                      go_wp2_with (first | (go_at_call 25; ((with_reducible refine (rscript_is r 2 _ HV.out).mono ?_)); rintro e w2 ⟨rfl, rfl⟩) | (go_at_call 25; ((with_reducible refine (rscript_is q 3 _ HU.out).mono ?_)); rintro e w2 ⟨rfl, rfl⟩))
                      go_quiet (first | (with_reducible refine (rscript_is r 2 _ HV.out).mono fun _ _ h => ⟨h.1, _, h.2.symm⟩) | (with_reducible refine (rscript_is q 3 _ HU.out).mono fun _ _ h => ⟨h.1, _, h.2.symm⟩))
                      go_wp2
                      go_ret
                      exact ⟨rfl, (hB.drewN _).drewN _⟩
                  · rcases huc with rfl | rfl | rfl | rfl
                    · go_wp2_with (first | (go_at_call 25; ((with_reducible refine (rscript_is r 3 _ HV.out).mono ?_)); rintro e w2 ⟨rfl, rfl⟩) | (go_at_call 25; ((with_reducible refine (rscript_is q 0 _ HU.out).mono ?_)); rintro e w2 ⟨rfl, rfl⟩))
                      go_quiet (first | (with_reducible refine (rscript_is r 3 _ HV.out).mono fun _ _ h => ⟨h.1, _, h.2.symm⟩) | (with_reducible refine (rscript_is q 0 _ HU.out).mono fun _ _ h => ⟨h.1, _, h.2.symm⟩))
                      go_wp2
                      exact ⟨⟨j + 1, by omega, by go_num, ⟨_, rfl⟩, fun j' hj' => by
                        by_cases e : j' = j
                        · rw [e]; intro hh; have := HM.out.1 hh; omega
                        · exact HNJ.out j' (by omega)⟩, by simp [intOf]; omega⟩
                    · obtain rfl := HMX.out (HMI.out (HM.out.2 ⟨by decide, by decide, by decide⟩))
                      go_wp2_with (first | (go_at_call 25; ((with_reducible refine (rscript_is r 3 _ HV.out).mono ?_)); rintro e w2 ⟨rfl, rfl⟩) | (go_at_call 25; ((with_reducible refine (rscript_is q 1 _ HU.out).mono ?_)); rintro e w2 ⟨rfl, rfl⟩))
                      go_quiet (first | (with_reducible refine (rscript_is r 3 _ HV.out).mono fun _ _ h => ⟨h.1, _, h.2.symm⟩) | (with_reducible refine (rscript_is q 1 _ HU.out).mono fun _ _ h => ⟨h.1, _, h.2.symm⟩))
                      go_wp2
                      go_ret
                      exact ⟨rfl, (hB.drewN _).drewN _⟩
                    · obtain rfl := HMX.out (HMI.out (HM.out.2 ⟨by decide, by decide, by decide⟩))
                      go_wp2_with (first | (go_at_call 25; ((with_reducible refine (rscript_is r 3 _ HV.out).mono ?_)); rintro e w2 ⟨rfl, rfl⟩) | (go_at_call 25; ((with_reducible refine (rscript_is q 2 _ HU.out).mono ?_)); rintro e w2 ⟨rfl, rfl⟩))
                      go_quiet (first | (with_reducible refine (rscript_is r 3 _ HV.out).mono fun _ _ h => ⟨h.1, _, h.2.symm⟩) | (with_reducible refine (rscript_is q 2 _ HU.out).mono fun _ _ h => ⟨h.1, _, h.2.symm⟩))
                      go_wp2
                      go_ret
                      exact ⟨rfl, (hB.drewN _).drewN _⟩
                    · go_wp2_with (first | (go_at_call 25; ((with_reducible refine (rscript_is r 3 _ HV.out).mono ?_)); rintro e w2 ⟨rfl, rfl⟩) | (go_at_call 25; ((with_reducible refine (rscript_is q 3 _ HU.out).mono ?_)); rintro e w2 ⟨rfl, rfl⟩))
                      go_quiet (first | (with_reducible refine (rscript_is r 3 _ HV.out).mono fun _ _ h => ⟨h.1, _, h.2.symm⟩) | (with_reducible refine (rscript_is q 3 _ HU.out).mono fun _ _ h => ⟨h.1, _, h.2.symm⟩))
                      go_wp2
                      exact ⟨⟨j + 1, by omega, by go_num, ⟨_, rfl⟩, fun j' hj' => by
                        by_cases e : j' = j
                        · rw [e]; intro hh; have := HM.out.1 hh; omega
                        · exact HNJ.out j' (by omega)⟩, by simp [intOf]; omega⟩
                · obtain rfl : j = i := by omega
                  have HNJ := Lib.hid hnj
                  clear hnj
                  go_wp2
                  exact ⟨⟨j + 1, by omega, by go_num, ⟨_, rfl⟩, fun i' hi' j' hj' => by
                    by_cases e : i' = j
                    · rw [e] at hj' ⊢; exact HNJ.out j' hj'
                    · exact HNO.out i' (by omega) j' hj'⟩, by simp [intOf]; omega⟩
            · obtain rfl := HOK.out (nomix_of (fun i' hi' => hno i' (by have := HN.out; omega)))
              clear hno
              go_wp2
              go_ret
              exact ⟨rfl, hB.drewN _⟩
end Go.Proofs.Ytflbbpmlcllamaa
