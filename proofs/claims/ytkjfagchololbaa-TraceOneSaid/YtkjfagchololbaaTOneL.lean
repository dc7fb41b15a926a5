/- The walk of TraceOne. -/
import Derived.Test.YtkjfagchololbaaTMath
import Derived.Test.YtkjfagchololbaaTChk
import Derived.Deep.CutBlock
import Derived.Test.YtkjfagchololbaaQNew
namespace Go.Proofs.Ytkjfagchololbaa
open Go.RowKit Go.Shelf

theorem actsTo_take (bad : Int) (l : List Ev) (k : Nat) (hk : k ≤ l.length) : ∀ j, j ≤ k → actsTo bad (l.take k) j = actsTo bad l j
  | 0, _ => rfl
  | j + 1, hj => by
    have ih := actsTo_take bad l k hk j (by omega)
    obtain ⟨x, hx⟩ : ∃ x, l[j]? = some x := ⟨_, List.getElem?_eq_getElem (by omega)⟩
    have hx' : (l.take k)[j]? = some x := by rw [List.getElem?_take, if_pos (by omega)]; exact hx
    cases ho : oneO bad x with
    | none => rw [actsTo_none _ _ _ _ hx ho, actsTo_none _ _ _ _ hx' ho, ih]
    | some a => rw [actsTo_some _ _ _ _ _ hx ho, actsTo_some _ _ _ _ _ hx' ho, ih]
theorem runT_parts (bad : Int) (l : List Ev) : ∀ n, n ≤ l.length → (∃ rs, runT bad [] (actsTo bad l n) = .inl rs) ∨ ∃ k v rs, k < n ∧ v ≠ 0 ∧ runT bad [] (actsTo bad l n) = .inr (k, v) ∧ runT bad [] (actsTo bad l k) = .inl rs
  | 0, _ => .inl ⟨[], rfl⟩
  | n + 1, hn => by
    obtain ⟨x, hx⟩ : ∃ x, l[n]? = some x := ⟨_, List.getElem?_eq_getElem (by omega)⟩
    have ih := runT_parts bad l n (by omega)
    cases ho : oneO bad x with
    | none =>
      rw [actsTo_none _ _ _ _ hx ho]
      rcases ih with h | ⟨k, v, rs, h1, h2, h3, h4⟩
      · exact .inl h
      · exact .inr ⟨k, v, rs, by omega, h2, h3, h4⟩
    | some a =>
      rw [actsTo_some _ _ _ _ _ hx ho, runT_append]
      rcases ih with ⟨rs, h⟩ | ⟨k, v, rs, h1, h2, h3, h4⟩
      · rw [h]
        simp only [runT]
        by_cases hv : mayV bad rs a = 0
        · rw [if_pos hv]; exact .inl ⟨_, rfl⟩
        · rw [if_neg hv]; exact .inr ⟨n, _, rs, by omega, hv, rfl, h⟩
      · rw [h3]; exact .inr ⟨k, v, rs, by omega, h2, rfl, h4⟩
theorem chk_parts (bad : Int) (l : List Ev) : ∃ at' e rs, chkV bad l = (at', e) ∧ at' ≤ l.length ∧ ((e == 0) = (decide (at' = l.length))) ∧ runT bad [] (actsTo bad l at') = .inl rs := by
  rcases runT_parts bad l l.length (Nat.le_refl _) with ⟨rs, h⟩ | ⟨k, v, rs, h1, h2, h3, h4⟩
  · exact ⟨l.length, 0, rs, by rw [chkV, h], Nat.le_refl _, by simp, h⟩
  · exact ⟨k, v, rs, by rw [chkV, h3], by omega, by rw [decide_eq_false (by omega)]; simpa using h2, h4⟩

theorem EvsAt.take {w : World} {B : Nat} {av : Option Addr} {l : List Ev} (h : EvsAt w B av l) (k : Nat) : EvsAt w B av (l.take k) :=
  ⟨fun h0 => by
    obtain ⟨b, o, h1, h2, h3⟩ := h.r (by rw [List.length_take] at h0; omega)
    exact ⟨b, o, h1, h2, fun i x hi => h3 i x (by rw [List.getElem?_take] at hi; split at hi; exact hi; cases hi)⟩, fun x hx => h.wf x (List.mem_of_mem_take hx), fun x hx => h.one x (List.mem_of_mem_take hx)⟩
theorem EvsAt.mono {w : World} {B B' : Nat} {av : Option Addr} {l : List Ev} (h : EvsAt w B av l) (hB : B ≤ B') : EvsAt w B' av l :=
  ⟨fun h0 => by
    obtain ⟨b, o, h1, h2, h3⟩ := h.r h0
    exact ⟨b, o, h1, by omega, h3⟩, fun x hx => ⟨(h.wf x hx).1, (h.wf x hx).2.mono hB⟩, h.one⟩

theorem ttxn_ne (a b c x y z : Int) (h : ¬ (a, b, c) = (x, y, z)) (w : World) : (binOp .neq 31 (.agg #[.int .i64 a, .int .i64 b, .int .i64 c]) (.agg #[.int .i64 x, .int .i64 y, .int .i64 z])).run Try.prog w = .ok (.bool true) w := by
  have h' : ¬ (a = x ∧ b = y ∧ c = z) := by simpa using h
  by_cases h1 : a = x
  · by_cases h2 : b = y
    · have h3 : ¬ c = z := fun h3 => h' ⟨h1, h2, h3⟩
      simp [go_sem, h1, h2, h3]
    · simp [go_sem, h1, h2]
  · simp [go_sem, h1]
theorem ttxn_eq (a b c : Int) (w : World) : (binOp .neq 31 (.agg #[.int .i64 a, .int .i64 b, .int .i64 c]) (.agg #[.int .i64 a, .int .i64 b, .int .i64 c])).run Try.prog w = .ok (.bool false) w := by
  simp [go_sem]

theorem decides_is (ak ac ae aq ag : Int) (ay : Bool) (ao : Int) (v : Bool) (h : decB3 ⟨ak, ac, ae, aq, ag, ay, ao⟩ = v) (w : World) : Calls Try.prog 12 #[.agg #[.int .u8 ak, .int .i64 ac, .int .i64 ae, .int .i64 aq, .int .i64 ag, .bool ay, .int .u8 ao]] w fun e w' => e = .returned (.bool v) ∧ Below w.heap.size w w' := by
  subst h
  exact decides_any ⟨ak, ac, ae, aq, ag, ay, ao⟩ w

def yesB (A : List Act') (a : Act') (k : Nat) : Bool := (A.take k).any fun y => (y.t == a.t) && ((y.kind == 2) && (y.org == a.org) && y.yes)
theorem yesB_succ (A : List Act') (a : Act') (k : Nat) (y : Act') (h : A[k]? = some y) : yesB A a (k + 1) = (yesB A a k || ((y.t == a.t) && ((y.kind == 2) && (y.org == a.org) && y.yes))) := by
  unfold yesB
  rw [List.take_add_one, List.any_append, h]
  simp

/-- The actions that the trace's prefix hands back, as the law meets them. -/
def ActsPost (A : List Act') (w : World) (e : Ending) (w' : World) : Prop := ∃ v1 v2, e = .returned (.tuple #[v1, v2]) ∧ ActsV w' v1 A ∧ Below w.heap.size w w'
theorem acts_of (bad : Int) (av : Option Addr) (l : List Ev) (cap n : Nat) (hn : l.length = n) (w : World) (hlen : l.length ≤ 900) (hev : EvsAt w w.heap.size av l) :
    Calls Try.prog 8 #[.int .u8 bad, .slice av n cap] w (ActsPost ((actsTo bad l l.length).map (·.2)) w) := by
  subst hn
  refine (acts_any bad av l cap w (by omega) hev).mono fun e w' h => ?_
  obtain ⟨v1, v2, h1, h2, _, h4⟩ := h
  refine ⟨v1, v2, h1, ActsV.of (base := w.heap.size) (e := 33) ?_ (by have := actsTo_len bad l l.length; simp; omega), h4⟩
  rw [List.length_map, List.flatMap_map]
  exact h2

def fitB (A : List Act') : Prop := AllNew A ∧ ∀ x ∈ A, Done x

set_option maxRecDepth 100000 in
set_option maxHeartbeats 8000000 in
theorem traceOne_any (bad : Int) (hbad : Byte bad) (av : Option Addr) (l : List Ev) (cap : Nat) (hcap : l.length ≤ cap) (w : World) (hev : EvsAt w w.heap.size av l) (hm : l.length ≤ maxLen)
    (hal : ∀ w, Calls Try.prog 7 #[] w fun e w' => e = .returned (.bool true) ∧ Below w.heap.size w w') :
    Calls Try.prog 4 #[.int .u8 bad, .slice av l.length cap] w fun e w' => e = .returned (.bool true) ∧ Below w.heap.size w w' := by
  have HAL := Lib.hid hal
  clear hal
  cases hlong : longB l
  case true =>
    have HL := Lib.hid hlong
    clear hlong
    go_enter Try.func4, Try.ntmps4
    go_wp2_with (first
      | (go_at_call 6; refine (long_is true av l cap HL.out _ hev hm).mono ?_; rintro e' wT ⟨rfl, rfl⟩)
      | (go_at_call 7; refine (HAL.out _).mono ?_; rintro e w' ⟨rfl, hB⟩))
    go_ret
    exact ⟨rfl, hB⟩
  case false =>
    have hlen : l.length ≤ 120 := by
      unfold longB at hlong
      simp at hlong
      exact hlong.1
    have HL := Lib.hid hlong
    clear hlong
    obtain ⟨at', e, rs, hc, hat, heq, hrun⟩ := chk_parts bad l
    have HC := Lib.hid hc
    have HR := Lib.hid hrun
    have HE := Lib.hid heq
    clear hc hrun heq
    have HN := Lib.hid (show AllNew ((actsTo bad (l.take at') (l.take at').length).map (·.2)) by
      have h1 : (l.take at').length = at' := by rw [List.length_take]; omega
      rw [h1, actsTo_take bad l at' hat at' (Nat.le_refl _)]
      have := run_new hbad (actsTo bad l at') [] [] rs (fun x hx => by
        unfold actsTo at hx
        obtain ⟨j, _, hj⟩ := List.mem_filterMap.1 hx
        cases hl : l[j]? with
        | none => rw [hl] at hj; cases hj
        | some y =>
          rw [hl] at hj
          obtain ⟨a, ha, rfl⟩ := Option.map_eq_some_iff.1 hj
          exact oneO_wf (hev.wf y (List.mem_of_getElem? hl)).1 ha) (TInv.nil bad) (fun i a hi => by simp at hi) HR.out
      simpa using this)
    have HA8 := Lib.hid (show ((actsTo bad (l.take at') (l.take at').length).map (·.2)).length ≤ 1000 by
      have h1 : (l.take at').length ≤ 120 := by rw [List.length_take]; omega
      have := actsTo_len bad (l.take at') (l.take at').length
      rw [List.length_map]
      omega)
    obtain ⟨A, hA⟩ : ∃ A, (actsTo bad (l.take at') (l.take at').length).map (·.2) = A := ⟨_, rfl⟩
    rw [hA] at HN HA8
    have HAe := Lib.hid hA
    clear hA
    go_enter Try.func4, Try.ntmps4
    have hq : ((e == 0) != ((at' : Int) == (l.length : Int))) = false := by
      have := HE.out
      rw [this]
      by_cases h : at' = l.length
      · simp [h]
      · simp [h]; omega
    have hq3 : (!(e == 0) == ((at' : Int) == (l.length : Int))) = false := by
      revert hq
      cases (e == 0) <;> cases ((at' : Int) == (l.length : Int)) <;> simp
    have hq2 : ¬ l.length < at' := by omega
    have hq4 : ¬ (at' : Int) < 0 := by omega
    go_wp2_with (first
        | (go_at_call 6; refine (long_is false av l cap HL.out _ hev hm).mono ?_; rintro e' wT ⟨rfl, rfl⟩)
        | (go_at_call 11; refine (check_is bad av l cap l.length at' e rfl HC.out _ (by omega) hev).mono ?_; rintro e' w1 ⟨rfl, hB1⟩)
        | (go_at_call 8; refine (acts_of bad av (l.take at') cap at' (by rw [List.length_take]; omega) _ (by rw [List.length_take]; omega) (((hev.take at').below hB1).mono hB1.size)).mono ?_; rintro e' w2 ⟨v1, v2, rfl, hV, hB2⟩
           rw [HAe.out] at hV
           have HV := Lib.hid hV
           clear hV))
    clear hq hq2 hq3 hq4
    obtain ⟨a1, c1, rfl, _, h7⟩ := HV.out
    have H7 := Lib.hid h7
    have hA8 := HA8.out
    clear h7
    go_loopw [9] (fun v9 wr => ∃ j : Nat, j ≤ A.length ∧ v9 = .int .i64 j ∧ Only (fun _ => False) w2 wr) (fun v9 _ => A.length - (intOf v9).toNat)
    case atStart => exact ⟨0, by omega, rfl, Only.refl _ _⟩
    case round =>
      obtain ⟨j, hj, rfl, oq⟩ := hrel
      obtain ⟨w3, rfl⟩ : ∃ w3 : World, w3 = wr := ⟨_, rfl⟩
      by_cases hjl : j < A.length
      · obtain ⟨g, rfl, hx⟩ := H7.out (by omega)
        obtain ⟨a, haj⟩ : ∃ x, A[j]? = some x := ⟨_, List.getElem?_eq_getElem hjl⟩
        have hN := HN.out j a haj
        have x0 := hx j a haj 0 (by omega)
        have x1 := hx j a haj 1 (by omega)
        have x2 := hx j a haj 2 (by omega)
        have x3 := hx j a haj 3 (by omega)
        have x4 := hx j a haj 4 (by omega)
        have x5 := hx j a haj 5 (by omega)
        have x6 := hx j a haj 6 (by omega)
        have HNA := Lib.hid hN
        have HX := Lib.hid hx
        have HJ := Lib.hid haj
        clear hx hN haj
        obtain ⟨ak, ac, ae, aq, ag, ay, ao⟩ := a
        simp only [actL, List.getElem?_cons_zero, List.getElem?_cons_succ, Nat.add_zero] at x0 x1 x2 x3 x4 x5 x6
        have HX0 := Lib.hid (And.intro x0 (And.intro x1 (And.intro x2 (And.intro x3 (And.intro x4 (And.intro x5 x6))))))
        clear x0 x1 x2 x3 x4 x5 x6
        go_wp2
        go_loopw [10, 11] (fun v10 v11 wq => ∃ k : Nat, k ≤ j ∧ v11 = .int .i64 k ∧ v10 = .bool (yesB A ⟨ak, ac, ae, aq, ag, ay, ao⟩ k) ∧ Only (fun _ => False) w2 wq) (fun _ v11 _ => j - (intOf v11).toNat)
        case atStart => exact ⟨0, by omega, rfl, rfl, oq⟩
        case round =>
          clear oq
          obtain ⟨k, hk, rfl, rfl, oq⟩ := hrel
          obtain ⟨w4, rfl⟩ : ∃ w4 : World, w4 = wr := ⟨_, rfl⟩
          by_cases hkj : k < j
          · obtain ⟨y, hyk⟩ : ∃ x, A[k]? = some x := ⟨_, List.getElem?_eq_getElem (by omega)⟩
            have HK := Lib.hid hyk
            have hmem : y ∈ A.take j := List.mem_of_getElem? (i := k) (by rw [List.getElem?_take, if_pos hkj]; exact hyk)
            have HM := Lib.hid hmem
            have y0 := oq.cell (HX.out k y hyk 0 (by omega)) id
            have y1 := HX.out k y hyk 1 (by omega)
            have y2 := HX.out k y hyk 2 (by omega)
            have y3 := HX.out k y hyk 3 (by omega)
            have y4 := HX.out k y hyk 4 (by omega)
            have y5 := HX.out k y hyk 5 (by omega)
            have y6 := HX.out k y hyk 6 (by omega)
            clear hyk hmem
            obtain ⟨yk, yc, ye, yq, yg, yy, yo⟩ := y
            simp only [actL, List.getElem?_cons_zero, List.getElem?_cons_succ, Nat.add_zero] at y0 y1 y2 y3 y4 y5 y6
            have HYC := Lib.hid (And.intro (HX.out k _ HK.out 0 (by omega)) (And.intro y4 y5))
            replace y1 := oq.cell y1 id
            replace y2 := oq.cell y2 id
            replace y3 := oq.cell y3 id
            replace y4 := oq.cell y4 id
            replace y5 := oq.cell y5 id
            replace y6 := oq.cell y6 id
            obtain ⟨x0, x1, x2, x3, x4, x5, x6⟩ := HX0.out
            replace x0 := oq.cell x0 id
            replace x1 := oq.cell x1 id
            replace x2 := oq.cell x2 id
            replace x3 := oq.cell x3 id
            replace x4 := oq.cell x4 id
            replace x5 := oq.cell x5 id
            replace x6 := oq.cell x6 id
            have HY := Lib.hid (yesB_succ A ⟨ak, ac, ae, aq, ag, ay, ao⟩ k _ HK.out)
            by_cases ht : (yc, ye, yq) = (ac, ae, aq)
            · cases ht
              have TE := ttxn_eq ac ae aq
              have HF1 := Lib.hid (HNA.out.one _ HM.out rfl)
              have HF2 := Lib.hid (HNA.out.dec _ HM.out rfl)
              go_upto_region 14 with (fail)
              go_quiet (fail)
              go_upto_region 15 with (fail)
              go_cut [118] (fun v118 wx => v118 = .bool false ∧ Only (fun _ => False) w2 wx)
              case first =>
                cases hdi : decB3 ⟨ak, ac, ae, aq, ag, ay, ao⟩
                · have HDI := Lib.hid hdi
                  clear hdi
                  cases hke : (ak == yk)
                  · have X0 := OW.cellN (n := nq) x0
                    have X1 := OW.cellN (n := nq) x1
                    have X2 := OW.cellN (n := nq) x2
                    have X3 := OW.cellN (n := nq) x3
                    have X4 := OW.cellN (n := nq) x4
                    have X5 := OW.cellN (n := nq) x5
                    have X6 := OW.cellN (n := nq) x6
                    have Y0 := OW.cellN (n := nq) y0
                    have Y1 := OW.cellN (n := nq) y1
                    have Y2 := OW.cellN (n := nq) y2
                    have Y3 := OW.cellN (n := nq) y3
                    have Y4 := OW.cellN (n := nq) y4
                    have Y5 := OW.cellN (n := nq) y5
                    have Y6 := OW.cellN (n := nq) y6
                    clear x0 x1 x2 x3 x4 x5 x6 y0 y1 y2 y3 y4 y5 y6
                    refine wp_region_ow (by kernel_rfl) (by kernel_rfl) ?_
                    repeat (go_big_quiet_step (((go_at_call 12; (with_reducible refine OW.call (decides_is ak ac ae aq ag ay ao false HDI.out _))))))
                    refine wpQuiet_nil ?_
                    intro iw
                    go_wp2_with fail
                    go_meet
                    case rel => exact ⟨rfl, (oq.drewN nq).trans iw.h⟩
                  · have hge : (ag == yg) = false := by
                      have e1 : ak = yk := by simpa using hke
                      cases hg : (ag == yg)
                      · rfl
                      · have e2 : ag = yg := by simpa using hg
                        exact absurd ⟨e1.symm, e2.symm⟩ HF1.out
                    have X0 := OW.cellN (n := nq) x0
                    have X1 := OW.cellN (n := nq) x1
                    have X2 := OW.cellN (n := nq) x2
                    have X3 := OW.cellN (n := nq) x3
                    have X4 := OW.cellN (n := nq) x4
                    have X5 := OW.cellN (n := nq) x5
                    have X6 := OW.cellN (n := nq) x6
                    have Y0 := OW.cellN (n := nq) y0
                    have Y1 := OW.cellN (n := nq) y1
                    have Y2 := OW.cellN (n := nq) y2
                    have Y3 := OW.cellN (n := nq) y3
                    have Y4 := OW.cellN (n := nq) y4
                    have Y5 := OW.cellN (n := nq) y5
                    have Y6 := OW.cellN (n := nq) y6
                    clear x0 x1 x2 x3 x4 x5 x6 y0 y1 y2 y3 y4 y5 y6
                    refine wp_region_ow (by kernel_rfl) (by kernel_rfl) ?_
                    repeat (go_big_quiet_step (((go_at_call 12; (with_reducible refine OW.call (decides_is ak ac ae aq ag ay ao false HDI.out _))))))
                    refine wpQuiet_nil ?_
                    intro iw
                    go_wp2_with fail
                    go_meet
                    case rel => exact ⟨rfl, (oq.drewN nq).trans iw.h⟩
                · have HDI := Lib.hid hdi
                  clear hdi
                  cases hdk : decB3 ⟨yk, ac, ae, aq, yg, yy, yo⟩
                  · have HDK := Lib.hid hdk
                    clear hdk
                    cases hke : (ak == yk)
                    · have X0 := OW.cellN (n := nq) x0
                      have X1 := OW.cellN (n := nq) x1
                      have X2 := OW.cellN (n := nq) x2
                      have X3 := OW.cellN (n := nq) x3
                      have X4 := OW.cellN (n := nq) x4
                      have X5 := OW.cellN (n := nq) x5
                      have X6 := OW.cellN (n := nq) x6
                      have Y0 := OW.cellN (n := nq) y0
                      have Y1 := OW.cellN (n := nq) y1
                      have Y2 := OW.cellN (n := nq) y2
                      have Y3 := OW.cellN (n := nq) y3
                      have Y4 := OW.cellN (n := nq) y4
                      have Y5 := OW.cellN (n := nq) y5
                      have Y6 := OW.cellN (n := nq) y6
                      clear x0 x1 x2 x3 x4 x5 x6 y0 y1 y2 y3 y4 y5 y6
                      refine wp_region_ow (by kernel_rfl) (by kernel_rfl) ?_
                      repeat (go_big_quiet_step ((first | (go_at_call 12; (with_reducible refine OW.call (decides_is ak ac ae aq ag ay ao true HDI.out _))) | (go_at_call 12; (with_reducible refine OW.call (decides_is yk ac ae aq yg yy yo false HDK.out _))))))
                      refine wpQuiet_nil ?_
                      intro iw
                      go_wp2_with fail
                      go_meet
                      case rel => exact ⟨rfl, (oq.drewN nq).trans iw.h⟩
                    · have hge : (ag == yg) = false := by
                        have e1 : ak = yk := by simpa using hke
                        cases hg : (ag == yg)
                        · rfl
                        · have e2 : ag = yg := by simpa using hg
                          exact absurd ⟨e1.symm, e2.symm⟩ HF1.out
                      have X0 := OW.cellN (n := nq) x0
                      have X1 := OW.cellN (n := nq) x1
                      have X2 := OW.cellN (n := nq) x2
                      have X3 := OW.cellN (n := nq) x3
                      have X4 := OW.cellN (n := nq) x4
                      have X5 := OW.cellN (n := nq) x5
                      have X6 := OW.cellN (n := nq) x6
                      have Y0 := OW.cellN (n := nq) y0
                      have Y1 := OW.cellN (n := nq) y1
                      have Y2 := OW.cellN (n := nq) y2
                      have Y3 := OW.cellN (n := nq) y3
                      have Y4 := OW.cellN (n := nq) y4
                      have Y5 := OW.cellN (n := nq) y5
                      have Y6 := OW.cellN (n := nq) y6
                      clear x0 x1 x2 x3 x4 x5 x6 y0 y1 y2 y3 y4 y5 y6
                      refine wp_region_ow (by kernel_rfl) (by kernel_rfl) ?_
                      repeat (go_big_quiet_step ((first | (go_at_call 12; (with_reducible refine OW.call (decides_is ak ac ae aq ag ay ao true HDI.out _))) | (go_at_call 12; (with_reducible refine OW.call (decides_is yk ac ae aq yg yy yo false HDK.out _))))))
                      refine wpQuiet_nil ?_
                      intro iw
                      go_wp2_with fail
                      go_meet
                      case rel => exact ⟨rfl, (oq.drewN nq).trans iw.h⟩
                  · have hyy : yy = ay := HF2.out hdk HDI.out
                    subst hyy
                    have HDK := Lib.hid hdk
                    clear hdk
                    cases hke : (ak == yk)
                    · have X0 := OW.cellN (n := nq) x0
                      have X1 := OW.cellN (n := nq) x1
                      have X2 := OW.cellN (n := nq) x2
                      have X3 := OW.cellN (n := nq) x3
                      have X4 := OW.cellN (n := nq) x4
                      have X5 := OW.cellN (n := nq) x5
                      have X6 := OW.cellN (n := nq) x6
                      have Y0 := OW.cellN (n := nq) y0
                      have Y1 := OW.cellN (n := nq) y1
                      have Y2 := OW.cellN (n := nq) y2
                      have Y3 := OW.cellN (n := nq) y3
                      have Y4 := OW.cellN (n := nq) y4
                      have Y5 := OW.cellN (n := nq) y5
                      have Y6 := OW.cellN (n := nq) y6
                      clear x0 x1 x2 x3 x4 x5 x6 y0 y1 y2 y3 y4 y5 y6
                      refine wp_region_ow (by kernel_rfl) (by kernel_rfl) ?_
                      repeat (go_big_quiet_step ((first | (go_at_call 12; (with_reducible refine OW.call (decides_is ak ac ae aq ag yy ao true HDI.out _))) | (go_at_call 12; (with_reducible refine OW.call (decides_is yk ac ae aq yg yy yo true HDK.out _))))))
                      refine wpQuiet_nil ?_
                      intro iw
                      go_wp2_with fail
                      go_meet
                      case rel => exact ⟨rfl, (oq.drewN nq).trans iw.h⟩
                    · have hge : (ag == yg) = false := by
                        have e1 : ak = yk := by simpa using hke
                        cases hg : (ag == yg)
                        · rfl
                        · have e2 : ag = yg := by simpa using hg
                          exact absurd ⟨e1.symm, e2.symm⟩ HF1.out
                      have X0 := OW.cellN (n := nq) x0
                      have X1 := OW.cellN (n := nq) x1
                      have X2 := OW.cellN (n := nq) x2
                      have X3 := OW.cellN (n := nq) x3
                      have X4 := OW.cellN (n := nq) x4
                      have X5 := OW.cellN (n := nq) x5
                      have X6 := OW.cellN (n := nq) x6
                      have Y0 := OW.cellN (n := nq) y0
                      have Y1 := OW.cellN (n := nq) y1
                      have Y2 := OW.cellN (n := nq) y2
                      have Y3 := OW.cellN (n := nq) y3
                      have Y4 := OW.cellN (n := nq) y4
                      have Y5 := OW.cellN (n := nq) y5
                      have Y6 := OW.cellN (n := nq) y6
                      clear x0 x1 x2 x3 x4 x5 x6 y0 y1 y2 y3 y4 y5 y6
                      refine wp_region_ow (by kernel_rfl) (by kernel_rfl) ?_
                      repeat (go_big_quiet_step ((first | (go_at_call 12; (with_reducible refine OW.call (decides_is ak ac ae aq ag yy ao true HDI.out _))) | (go_at_call 12; (with_reducible refine OW.call (decides_is yk ac ae aq yg yy yo true HDK.out _))))))
                      refine wpQuiet_nil ?_
                      intro iw
                      go_wp2_with fail
                      go_meet
                      case rel => exact ⟨rfl, (oq.drewN nq).trans iw.h⟩
              case rest =>
                obtain ⟨rfl, oc⟩ := hcut
                obtain ⟨w5, rfl⟩ : ∃ w5 : World, w5 = wc := ⟨_, rfl⟩
                clear x0 x1 x2 x3 x4 x5 x6 y0 y1 y2 y3 y4 y5 y6
                obtain ⟨y0, y4, y5⟩ := HYC.out
                simp only [actL, List.getElem?_cons_zero, Nat.add_zero] at y0
                obtain ⟨_, _, _, _, x4, _, _⟩ := HX0.out
                replace y0 := oc.cell y0 id
                replace y4 := oc.cell y4 id
                replace y5 := oc.cell y5 id
                replace x4 := oc.cell x4 id
                have hY := HY.out
                rw [show (Act'.t ⟨yk, ac, ae, aq, yg, yy, yo⟩ == Act'.t ⟨ak, ac, ae, aq, ag, ay, ao⟩) = true from beq_self_eq_true _] at hY
                dsimp only at hY
                have HYY := Lib.hid hY
                clear hY
                obtain ⟨yb, hyb⟩ : ∃ yb, yesB A ⟨ak, ac, ae, aq, ag, ay, ao⟩ k = yb := ⟨_, rfl⟩
                rw [hyb]
                have HYB := Lib.hid hyb
                clear hyb
                cases yb
                · cases h2 : (yk == 2)
                  · have HR2 := Lib.hid (show yesB A ⟨ak, ac, ae, aq, ag, ay, ao⟩ (k + 1) = false by rw [HYY.out, HYB.out, h2]; rfl)
                    go_upto_region 17 with (fail)
                    go_quiet (fail)
                    go_wp2
                    exact ⟨⟨k + 1, by omega, by go_num, by rw [HR2.out], oc.drewN _⟩, by simp [intOf]; omega⟩
                  · cases hgg : (yg == ag)
                    · have HR2 := Lib.hid (show yesB A ⟨ak, ac, ae, aq, ag, ay, ao⟩ (k + 1) = false by rw [HYY.out, HYB.out, h2, hgg]; rfl)
                      go_upto_region 17 with (fail)
                      go_quiet (fail)
                      go_wp2
                      exact ⟨⟨k + 1, by omega, by go_num, by rw [HR2.out], oc.drewN _⟩, by simp [intOf]; omega⟩
                    · have HR2 := Lib.hid (show yesB A ⟨ak, ac, ae, aq, ag, ay, ao⟩ (k + 1) = yy by rw [HYY.out, HYB.out, h2, hgg]; simp)
                      go_upto_region 17 with (fail)
                      go_quiet (fail)
                      go_wp2
                      exact ⟨⟨k + 1, by omega, by go_num, by rw [HR2.out], oc.drewN _⟩, by simp [intOf]; omega⟩
                · have HR2 := Lib.hid (show yesB A ⟨ak, ac, ae, aq, ag, ay, ao⟩ (k + 1) = true by rw [HYY.out, HYB.out]; rfl)
                  go_upto_region 17 with (fail)
                  go_quiet (fail)
                  go_wp2
                  exact ⟨⟨k + 1, by omega, by go_num, by rw [HR2.out], oc.drewN _⟩, by simp [intOf]; omega⟩
            · have TN := ttxn_ne yc ye yq ac ae aq ht
              have HE2 := Lib.hid (show yesB A ⟨ak, ac, ae, aq, ag, ay, ao⟩ (k + 1) = yesB A ⟨ak, ac, ae, aq, ag, ay, ao⟩ k by
                rw [HY.out, show (Act'.t ⟨yk, yc, ye, yq, yg, yy, yo⟩ == Act'.t ⟨ak, ac, ae, aq, ag, ay, ao⟩) = false from beq_eq_false_iff_ne.2 ht]
                simp)
              clear ht
              go_upto_region 14 with (fail)
              go_quiet (fail)
              go_wp2
              exact ⟨⟨k + 1, by omega, by go_num, by rw [HE2.out], oq.drewN _⟩, by simp [intOf]; omega⟩
          · obtain rfl : k = j := by omega
            obtain ⟨x0, x1, x2, x3, x4, x5, x6⟩ := HX0.out
            replace x0 := oq.cell x0 id
            replace x3 := oq.cell x5 id
            clear x1 x2 x4 x5 x6
            have hfin : ((ak == 4) && (ay && !(yesB A ⟨ak, ac, ae, aq, ag, ay, ao⟩ k))) = false := by
              cases h4 : (ak == 4)
              · rfl
              · cases hy : ay
                · rfl
                · have h4' : ak = 4 := by simpa using h4
                  obtain ⟨y, hy1, hy2, hy3, hy4, hy5⟩ := HNA.out.yes h4' hy
                  have : yesB A ⟨ak, ac, ae, aq, ag, ay, ao⟩ k = true := by
                    unfold yesB
                    rw [List.any_eq_true]
                    exact ⟨y, hy1, by simp [hy2, hy3, hy4, hy5]⟩
                  rw [hy] at this
                  rw [this]
                  rfl
            cases h4 : (ak == 4)
            · go_wp2
              exact ⟨⟨k + 1, by omega, by go_num, oq⟩, by simp [intOf]; omega⟩
            · rw [h4] at hfin
              cases ay
              · go_wp2
                exact ⟨⟨k + 1, by omega, by go_num, oq⟩, by simp [intOf]; omega⟩
              · have hyt : yesB A ⟨ak, ac, ae, aq, ag, true, ao⟩ k = true := by simpa using hfin
                rw [hyt]
                clear hyt hfin
                go_wp2
                exact ⟨⟨k + 1, by omega, by go_num, oq⟩, by simp [intOf]; omega⟩
      · go_wp2_with (go_at_call 7; refine (HAL.out _).mono ?_; rintro e w' ⟨rfl, hB⟩)
        go_ret
        exact ⟨rfl, ((hB1.trans (hB2.mono hB1.size)).trans (oq.below (by have := hB1.size; have := hB2.size; omega) (fun _ h => h.elim))).trans (hB.mono (by have := hB1.size; have := hB2.size; have := oq.size; omega))⟩
end Go.Proofs.Ytkjfagchololbaa
