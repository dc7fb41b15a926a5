/- The walk of LedgerOne. -/
import Derived.Test.YtliakamlgjoabaaLTxn
import Derived.Test.YtliakamlgjoabaaLAlive
import Derived.Test.YtliakamlgjoabaaQNew
import Derived.Deep.CutBlock
namespace Go.Proofs.Ytliakamlgjoabaa
open Go.RowKit

def actL (a : Act') : List Value := [.int .u8 a.kind, .int .i64 a.c, .int .i64 a.e, .int .i64 a.q, .int .i64 a.org, .bool a.yes, .int .u8 a.orgs]
theorem flat7 (rs : List Act') (j : Nat) {r : Act'} (h : rs[j]? = some r) (i : Nat) (hi : i < 7) : (rs.flatMap actL)[j * 7 + i]? = (actL r)[i]? := by
  induction rs generalizing j with
  | nil => cases h
  | cons q rs ih =>
    cases j with
    | zero =>
      cases h
      rw [List.flatMap_cons, List.getElem?_append_left (by simp [actL]; omega)]
      simp
    | succ j =>
      rw [List.flatMap_cons, List.getElem?_append_right (by simp [actL]; omega)]
      have := ih j (by simpa using h)
      rw [show (j + 1) * 7 + i - (actL q).length = j * 7 + i from by simp [actL]; omega, this]

theorem owns_acts {w : World} {base e : Nat} {rv : Value} {rs : List Act'} (h : w.ownsRow base e 7 rv rs.length (rs.flatMap actL)) :
    ∃ a cap, rv = .slice a rs.length cap ∧ (0 < rs.length → ∃ g, a = some ⟨g, 0, none⟩ ∧ ∀ j r, rs[j]? = some r → ∀ i, i < 7 → w.cell? ⟨g, j * 7 + i, none⟩ = (actL r)[i]?) := by
  rcases h.2 with ⟨h1, h2⟩ | ⟨g, cap', cur, h1, _, hg, _, _, _, ht⟩
  · exact ⟨none, 0, by rw [h1, h2], fun hp => by omega⟩
  · refine ⟨_, cap', h1, fun _ => ⟨g, rfl, fun j r hr i hi => ?_⟩⟩
    have hj : j < rs.length := (List.getElem?_eq_some_iff.1 hr).1
    rw [cell_of_row w g (j * 7 + i) cur e (0, 0) hg, ← flat7 rs j hr i hi, ← ht, List.getElem?_take, if_pos (by omega)]
    simp

/-- Rows of unlike elements lie in unlike blocks. -/
theorem owns_apart {w : World} {b1 b2 e1 e2 s1 s2 n1 n2 : Nat} {v1 v2 : Value} {x1 x2 : List Value} (h1 : w.ownsRow b1 e1 s1 v1 n1 x1) (h2 : w.ownsRow b2 e2 s2 v2 n2 x2) (he : e1 ≠ e2) : ∀ j, v1.ownBlock = some j → ¬ v2.ownBlock = some j := by
  intro j hj hj2
  rcases h2.2 with ⟨rfl, _⟩ | ⟨g, cap, cur, rfl, _, hg, _⟩
  · simp [Value.ownBlock] at hj2
  · simp [Value.ownBlock] at hj2
    subst hj2
    exact he (owns_type h1 hj hg).symm

theorem kind3 (m : Int) : m = 3 ∨ m = 4 ∨ (m == 3) = false ∧ (m == 4) = false := by
  by_cases h3 : m = 3
  · exact .inl h3
  · by_cases h4 : m = 4
    · exact .inr (.inl h4)
    · exact .inr (.inr ⟨by simpa using h3, by simpa using h4⟩)

theorem cells_new (w : World) (xs : List Value) (t : TypeId) : ∀ j u, xs[j]? = some u → (w.alloc (.cells xs.toArray t)).cell? ((⟨w.heap.size, 0, none⟩ : Addr).add j) = some u := by
  intro j u hj
  have e : (⟨w.heap.size, 0, none⟩ : Addr).add j = ⟨w.heap.size, j, none⟩ := by unfold Addr.add; split <;> simp_all
  rw [e, cell_of_row _ _ j _ _ _ (heap_alloc_new w _)]
  simpa using hj

theorem infoAct : (Try.prog.info? 35).map (fun i => (i.zero, i.size, i.bytes)) = some (some (.agg (actL ⟨0, 0, 0, 0, 0, false, 0⟩).toArray), 7, 48) := by kernel_rfl

set_option maxRecDepth 100000 in
set_option maxHeartbeats 32000000 in
theorem one_any (bad : Int) (hbad : Byte bad) (av : Option Addr) (l : List Act') (cap : Nat) (w : World) (hl : ActsAt w w.heap.size av l) (hm : l.length ≤ maxLen) :
    Calls Try.prog 4 #[.int .u8 bad, .slice av l.length cap] w fun e w' => e = .returned (.bool true) ∧ Below w.heap.size w w' := by
  unfold maxLen at hm
  obtain ⟨i0, hi0, hz0, hz1, hz2⟩ := info_parts infoAct
  by_cases hbig : 120 < l.length
  · go_enter Try.func4, Try.ntmps4
    go_wp2_with (go_at_call 7; refine (aliveL_any _).mono ?_; rintro e w' ⟨rfl, hB⟩)
    go_ret
    exact ⟨rfl, hB⟩
  · have hlen : l.length ≤ 120 := by omega
    clear hbig
    go_enter Try.func4, Try.ntmps4
    go_wp2_with (go_at_call 13; refine (newL_any bad _).mono ?_; rintro e w0 ⟨gb, mb, rfl, hG0, hB0⟩)
    go_loopw [6, 7] (fun v6 v7 wr => ∃ (k : Nat) (rv : Value) (rs : List Row) (D : List Act'), k ≤ l.length ∧ v7 = .int .i64 k ∧ GAt wr w.heap.size gb mb rv bad rs ∧ rs.length ≤ k ∧ D.length ≤ k ∧ LInv bad rs D ∧
        wr.ownsRow w.heap.size 35 7 v6 D.length (D.flatMap actL) ∧ Below w.heap.size w wr) (fun _ v7 _ => l.length - (intOf v7).toNat)
    case atStart => exact ⟨0, _, [], [], by omega, rfl, hG0, by simp, by simp, LInv.nil bad, World.ownsRow_nil _ _ _ _, hB0⟩
    case round =>
      clear hG0 hB0
      obtain ⟨k, rv, rs, D, hk, rfl, hG, hrl, hDl, hI, hD, hB⟩ := hrel
      by_cases hlt : k < l.length
      · obtain ⟨b, o, rfl, hbb, hc⟩ := hl.r (by omega)
        obtain ⟨a, ha⟩ : ∃ a, l[k]? = some a := ⟨_, List.getElem?_eq_getElem hlt⟩
        have haw := Lib.hid (hl.wf a (List.mem_of_getElem? ha))
        obtain ⟨x0, x1, x2, x3, x4, x5, x6⟩ := hc k a ha
        replace x0 := (hB.cell (p := ⟨b, o + k * 7, none⟩) hbb).trans x0
        replace x1 := (hB.cell (p := ⟨b, o + k * 7 + 1, none⟩) hbb).trans x1
        replace x2 := (hB.cell (p := ⟨b, o + k * 7 + 2, none⟩) hbb).trans x2
        replace x3 := (hB.cell (p := ⟨b, o + k * 7 + 3, none⟩) hbb).trans x3
        replace x4 := (hB.cell (p := ⟨b, o + k * 7 + 4, none⟩) hbb).trans x4
        replace x5 := (hB.cell (p := ⟨b, o + k * 7 + 5, none⟩) hbb).trans x5
        replace x6 := (hB.cell (p := ⟨b, o + k * 7 + 6, none⟩) hbb).trans x6
        clear hc ha
        obtain ⟨w1, rfl⟩ : ∃ w1 : World, w1 = wr := ⟨_, rfl⟩
        go_upto_region 11 with (go_at_call 11; refine (rows_any _ gb mb rv bad rs _ (by exact hG)).mono ?_; rintro e wW ⟨v8, rfl, hW8, hBW⟩)
        have oW := Only.of_below hBW
        have hsz := hB.size
        have hGW := hG.kept oW id id (fun _ _ => id)
        have hDW := oW.owns hD (fun _ _ => id)
        have hBw := hB.trans (hBW.mono hsz)
        have y0 := oW.cell x0 id
        have y1 := oW.cell x1 id
        have y2 := oW.cell x2 id
        have y3 := oW.cell x3 id
        have y4 := oW.cell x4 id
        have y5 := oW.cell x5 id
        have y6 := oW.cell x6 id
        have hbase : w.heap.size ≤ wW.heap.size := Nat.le_trans hsz hBW.size
        have hS : ∀ k, u6.ownBlock = some k → ¬ (k = gb ∨ k = mb ∨ rv.ownBlock = some k) := by
          rintro j hj (e1 | e1 | e1)
          · exact row_ne hDW hGW.cells (by decide) j hj e1
          · exact map_row hDW hGW.map j hj e1
          · exact owns_apart hDW hGW.rows (by decide) j hj e1
        have hS8 : ∀ k, v8.ownBlock = some k → ¬ (k = gb ∨ k = mb ∨ rv.ownBlock = some k) := by
          intro j hj
          have q0 := (hW8.lt j hj).1
          rintro (e1 | e1 | e1)
          · have := hG.lt; omega
          · have := hG.ltm; omega
          · have := (hG.rows.lt j e1).2; omega
        have hbb' := hGW.out hbb
        clear x0 x1 x2 x3 x4 x5 x6 hG hD hB oW
        obtain ⟨kind, c, e, q, org, ayes, aorgs⟩ := a
        dsimp only at y0 y1 y2 y3 y4 y5 y6
        obtain ⟨v, hv⟩ : ∃ v, mayV bad rs ⟨kind, c, e, q, org, ayes, aorgs⟩ = v := ⟨_, rfl⟩
        have HV := Lib.hid hv
        by_cases hz : v = 0
        · subst hz
          have hap : applyR bad rs ⟨kind, c, e, q, org, ayes, aorgs⟩ = putR rs ⟨kind, c, e, q, org, ayes, aorgs⟩ := by rw [applyR, if_pos hv]
          have HP := Lib.hid hap
          obtain ⟨hI', hm1, hm2, hm3⟩ := hI.step hbad haw.out hv
          have HM := Lib.hid hm1
          have HL := Lib.hid hm2
          have HD := Lib.hid hm3
          have HI := Lib.hid hI'
          have HF := Lib.hid (putR_len rs ⟨kind, c, e, q, org, ayes, aorgs⟩)
          clear hap hv hI hI' hm1 hm2 hm3
          go_upto_region 14 with (go_at_call 14; refine (apply_is 0 w.heap.size gb mb rv bad rs ⟨kind, c, e, q, org, ayes, aorgs⟩ HV.out _ (by exact hGW) (by exact hbase) (by omega) haw.out).mono ?_; rintro r' wA ⟨rfl, ⟨rv', hGA⟩, hoA⟩)
          rw [HP.out] at hGA
          have hDA := hoA.owns hDW hS
          have hWA := hoA.owns hW8 hS8
          have hBA := hGW.below hBw hbase (Nat.le_refl _) hoA
          have hfew := hGA.few
          have hbaseA : w.heap.size ≤ wA.heap.size := Nat.le_trans hbase hoA.size
          replace y0 := hoA.cell y0 hbb'
          replace y1 := hoA.cell y1 hbb'
          replace y2 := hoA.cell y2 hbb'
          replace y3 := hoA.cell y3 hbb'
          replace y4 := hoA.cell y4 hbb'
          replace y5 := hoA.cell y5 hbb'
          replace y6 := hoA.cell y6 hbb'
          obtain ⟨a6, cap6, rfl, h6⟩ := owns_acts hDA
          have H6 := Lib.hid h6
          clear hS hS8 hGW hDW hW8 hBw hoA hBW h6 hbb'
          go_wp2
          go_loopw [9] (fun v9 wq => ∃ j q', j ≤ D.length ∧ v9 = .int .i64 j ∧ wq = wA.drewN q') (fun v9 _ => D.length - (intOf v9).toNat)
          case atStart => exact ⟨0, 0, by omega, rfl, rfl⟩
          case round =>
            obtain ⟨j, q', hj, rfl, rfl⟩ := hrel
            by_cases hjl : j < D.length
            · obtain ⟨g, rfl, hx⟩ := H6.out (by omega)
              obtain ⟨x, hxj⟩ : ∃ x, D[j]? = some x := ⟨_, List.getElem?_eq_getElem hjl⟩
              have z0 := hx j x hxj 0 (by omega)
              have z1 := hx j x hxj 1 (by omega)
              have z2 := hx j x hxj 2 (by omega)
              have z3 := hx j x hxj 3 (by omega)
              have z5 := hx j x hxj 5 (by omega)
              have hd := HD.out x (List.mem_of_getElem? hxj)
              clear hx hxj
              obtain ⟨xk, xc, xe, xq, xorg, xyes, xorgs⟩ := x
              simp only [actL, List.getElem?_cons_zero, List.getElem?_cons_succ, Nat.add_zero] at z0 z1 z2 z3 z5
              rcases kind3 kind with rfl | rfl | ⟨n3, n4⟩ <;> rcases kind3 xk with rfl | rfl | ⟨m3, m4⟩
              case inl.inl | inl.inr.inl | inr.inl.inl | inr.inl.inr.inl =>
                have hd' := hd (by rfl) (by rfl)
                clear hd
                by_cases ht : (xc, xe, xq) = (c, e, q)
                · have hy := hd' ht
                  cases ht
                  dsimp only at hy
                  subst hy
                  go_upto_region 19 with (fail)
                  go_quiet (fail)
                  go_wp2
                  exact ⟨⟨j + 1, _, by omega, by go_num, rfl⟩, by simp [intOf]; omega⟩
                · have TN := txn_ne xc xe xq c e q ht
                  clear hd' ht
                  go_upto_region 19 with (fail)
                  go_quiet (fail)
                  go_wp2
                  exact ⟨⟨j + 1, _, by omega, by go_num, rfl⟩, by simp [intOf]; omega⟩
              all_goals
                clear hd
                go_upto_region 19 with (fail)
                go_quiet (fail)
                go_wp2
                exact ⟨⟨j + 1, _, by omega, by go_num, rfl⟩, by simp [intOf]; omega⟩
            · have hje : j = D.length := by omega
              subst hje
              go_upto_region 22 with (at_builtin; refine wpList_append_own _ rfl _ _ 22 rfl w.heap.size 35 i0 (.agg (actL ⟨0, 0, 0, 0, 0, false, 0⟩).toArray) 7 48 Try.underlying22 hi0 hz0 hz1 hz2 rfl (by decide) _ _ _ rfl ((hDA.drewN q').alloc _) ⟨wA.heap.size, 0, none⟩ 1 1 (actL ⟨kind, c, e, q, org, ayes, aorgs⟩) rfl rfl (cells_new _ _ _) (by simp [actL, Value.oneCell']) (by unfold maxLen; omega) (by omega) (by simp; omega) ?_; intro v' w1 hown' hgrow _)
              clear y0 y1 y2 y3 y4 y5 y6
              have o1 : Only (fun z => (Value.slice a6 D.length cap6).ownBlock = some z) wA w1 := (((Only.refl _ wA).drewN q').alloc _).grown hgrow (fun z e => e)
              have hG1 := hGA.kept o1 (fun e => row_ne hDA hGA.cells (by decide) _ e rfl) (fun e => map_row hDA hGA.map _ e rfl) (fun k hk e => owns_apart hDA hGA.rows (by decide) k e hk)
              have hW1 := o1.owns hWA (fun k hk e => owns_apart hDA hWA (by decide) k e hk)
              have hB1 := hBA.trans (o1.below hbaseA (fun z e => (hDA.lt z e).1))
              have hb1 := Nat.le_trans hbaseA o1.size
              replace hown' : w1.ownsRow w.heap.size 35 7 v' (D ++ [(⟨kind, c, e, q, org, ayes, aorgs⟩ : Act')]).length ((D ++ [(⟨kind, c, e, q, org, ayes, aorgs⟩ : Act')]).flatMap actL) := by simpa [List.flatMap_append] using hown'
              clear hDA hGA hWA o1 hBA hgrow HV HP HD H6
              generalize putR rs ⟨kind, c, e, q, org, ayes, aorgs⟩ = rs2 at *
              have hfew1 := Lib.hid (show rs.length ≤ 1000 by omega)
              go_upto_region 23 with (go_at_call 11; refine (rows_any _ gb mb rv' bad rs2 _ (by exact hG1)).mono ?_; rintro e w2 ⟨v12, rfl, hW2, hB2⟩)
              have hG2 := hG1.kept (Only.of_below hB2) id id (fun _ _ => id)
              have hD2 := (Only.of_below hB2).owns hown' (fun _ _ => id)
              have hV := (Only.of_below hB2).owns hW1 (fun _ _ => id)
              have hB3 := hB1.trans (hB2.mono hb1)
              have hb3 := Nat.le_trans hb1 hB2.size
              obtain ⟨a8, cap8, rfl, _, h8⟩ := RowsV.of hV hfew1.out
              obtain ⟨a12, cap12, rfl, _, h12⟩ := RowsV.of hW2 hfew
              have H8 := Lib.hid h8
              have H12 := Lib.hid h12
              have hl2 := HL.out
              have hl3 : decide (rs2.length < rs.length) = false := by simp; omega
              have hl4 : ¬ rs2.length < rs.length := by omega
              clear hG1 hown' hW1 hB1 hV hB2 hb1 h8 h12 hW2
              go_wp2
              go_loopw [13] (fun v13 wq => ∃ j : Nat, j ≤ rs2.length ∧ v13 = .int .i64 j ∧ Only (fun _ => False) w2 wq) (fun v13 _ => rs2.length - (intOf v13).toNat)
              case atStart => exact ⟨0, by omega, rfl, Only.refl _ _⟩
              case round =>
                obtain ⟨j, hj, rfl, oq⟩ := hrel
                obtain ⟨w5, rfl⟩ : ∃ w5 : World, w5 = wr := ⟨_, rfl⟩
                by_cases hjl : j < rs2.length
                · obtain ⟨g, rfl, hx⟩ := H12.out (by omega)
                  obtain ⟨r, hrj⟩ : ∃ x, rs2[j]? = some x := ⟨_, List.getElem?_eq_getElem hjl⟩
                  have n0 := hx j r hrj 0 (by omega)
                  have n1 := hx j r hrj 1 (by omega)
                  have n2 := hx j r hrj 2 (by omega)
                  have n3 := hx j r hrj 3 (by omega)
                  have n4 := hx j r hrj 4 (by omega)
                  have n5 := hx j r hrj 5 (by omega)
                  have n6 := hx j r hrj 6 (by omega)
                  have n7 := hx j r hrj 7 (by omega)
                  have n8 := hx j r hrj 8 (by omega)
                  have n9 := hx j r hrj 9 (by omega)
                  have hs := Lib.hid ((HI.out.rows r (List.mem_of_getElem? hrj)).sound hbad)
                  clear hx
                  by_cases hjr : j < rs.length
                  · have hdj : decide ((j : Int) < (rs.length : Int)) = true := by simp; omega
                    obtain ⟨g', rfl, hy⟩ := H8.out (by omega)
                    obtain ⟨s, hsj⟩ : ∃ x, rs[j]? = some x := ⟨_, List.getElem?_eq_getElem hjr⟩
                    have m0 := hy j s hsj 0 (by omega)
                    have m1 := hy j s hsj 1 (by omega)
                    have m2 := hy j s hsj 2 (by omega)
                    have m3 := hy j s hsj 3 (by omega)
                    have m4 := hy j s hsj 4 (by omega)
                    have m5 := hy j s hsj 5 (by omega)
                    have m6 := hy j s hsj 6 (by omega)
                    have m7 := hy j s hsj 7 (by omega)
                    have m8 := hy j s hsj 8 (by omega)
                    have m9 := hy j s hsj 9 (by omega)
                    have hmo := HM.out j s hsj
                    rw [hrj] at hmo
                    have hmr : moreB s r = true := by
                      obtain ⟨r', e1, e2⟩ := hmo
                      cases e1
                      exact e2
                    have hm := Lib.hid hmr
                    clear hy hsj hrj hmo hmr
                    obtain ⟨rc, re, rq, rb, ro, rvo, ry, rd, rcm, rl⟩ := r
                    obtain ⟨sc, se, sq, sb, so, svo, sy, sd, scm, sl⟩ := s
                    simp only [rowCells, List.getElem?_cons_zero, List.getElem?_cons_succ, Nat.add_zero] at n0 n1 n2 n3 n4 n5 n6 n7 n8 n9 m0 m1 m2 m3 m4 m5 m6 m7 m8 m9
                    have N0 := OW.cell (oq.cell n0 id)
                    have N1 := OW.cell (oq.cell n1 id)
                    have N2 := OW.cell (oq.cell n2 id)
                    have N3 := OW.cell (oq.cell n3 id)
                    have N4 := OW.cell (oq.cell n4 id)
                    have N5 := OW.cell (oq.cell n5 id)
                    have N6 := OW.cell (oq.cell n6 id)
                    have N7 := OW.cell (oq.cell n7 id)
                    have N8 := OW.cell (oq.cell n8 id)
                    have N9 := OW.cell (oq.cell n9 id)
                    have M0 := OW.cell (oq.cell m0 id)
                    have M1 := OW.cell (oq.cell m1 id)
                    have M2 := OW.cell (oq.cell m2 id)
                    have M3 := OW.cell (oq.cell m3 id)
                    have M4 := OW.cell (oq.cell m4 id)
                    have M5 := OW.cell (oq.cell m5 id)
                    have M6 := OW.cell (oq.cell m6 id)
                    have M7 := OW.cell (oq.cell m7 id)
                    have M8 := OW.cell (oq.cell m8 id)
                    have M9 := OW.cell (oq.cell m9 id)
                    clear n0 n1 n2 n3 n4 n5 n6 n7 n8 n9
                    clear m0 m1 m2 m3 m4 m5 m6 m7 m8 m9
                    have hmC := fun w => more_yes ⟨sc, se, sq, sb, so, svo, sy, sd, scm, sl⟩ ⟨rc, re, rq, rb, ro, rvo, ry, rd, rcm, rl⟩ w hm.out
                    have hsC := fun w => sound_yes ⟨rc, re, rq, rb, ro, rvo, ry, rd, rcm, rl⟩ bad w hs.out
                    unfold rowV at hmC hsC
                    dsimp only at hmC hsC
                    have HMC := Lib.hid hmC
                    have HSC := Lib.hid hsC
                    clear hmC hsC
                    go_wp2
                    refine wp_region_ow (by kernel_rfl) (by kernel_rfl) ?_
                    repeat (go_big_quiet_step ((first | (go_at_call 15; (with_reducible exact OW.call (HMC.out _))) | (go_at_call 16; (with_reducible exact OW.call (HSC.out _))))))
                    refine wpQuiet_nil ?_
                    intro iw
                    have hqy := iw.h
                    go_wp2
                    exact ⟨⟨j + 1, by omega, by go_num, oq.trans hqy⟩, by simp [intOf]; omega⟩
                  · have hdj : decide ((j : Int) < (rs.length : Int)) = false := by simp; omega
                    clear hrj
                    obtain ⟨rc, re, rq, rb, ro, rvo, ry, rd, rcm, rl⟩ := r
                    simp only [rowCells, List.getElem?_cons_zero, List.getElem?_cons_succ, Nat.add_zero] at n0 n1 n2 n3 n4 n5 n6 n7 n8 n9
                    have N0 := OW.cell (oq.cell n0 id)
                    have N1 := OW.cell (oq.cell n1 id)
                    have N2 := OW.cell (oq.cell n2 id)
                    have N3 := OW.cell (oq.cell n3 id)
                    have N4 := OW.cell (oq.cell n4 id)
                    have N5 := OW.cell (oq.cell n5 id)
                    have N6 := OW.cell (oq.cell n6 id)
                    have N7 := OW.cell (oq.cell n7 id)
                    have N8 := OW.cell (oq.cell n8 id)
                    have N9 := OW.cell (oq.cell n9 id)
                    clear n0 n1 n2 n3 n4 n5 n6 n7 n8 n9
                    have hsC := fun w => sound_yes ⟨rc, re, rq, rb, ro, rvo, ry, rd, rcm, rl⟩ bad w hs.out
                    unfold rowV at hsC
                    dsimp only at hsC
                    have HSC := Lib.hid hsC
                    clear hsC
                    go_wp2
                    refine wp_region_ow (by kernel_rfl) (by kernel_rfl) ?_
                    repeat (go_big_quiet_step ((go_at_call 16; (with_reducible exact OW.call (HSC.out _)))))
                    refine wpQuiet_nil ?_
                    intro iw
                    have hqy := iw.h
                    go_wp2
                    exact ⟨⟨j + 1, by omega, by go_num, oq.trans hqy⟩, by simp [intOf]; omega⟩
                · go_wp2
                  exact ⟨⟨k + 1, rv', rs2, D ++ [⟨kind, c, e, q, org, ayes, aorgs⟩], by omega, by go_num, hG2.kept oq id id (fun _ _ => id), by have := HF.out; omega, by simp; omega, HI.out, oq.owns hD2 (fun _ _ => id), hB3.trans (oq.below hb3 (fun _ e => e.elim))⟩, by simp [intOf]; omega⟩
        · have hne : (v != 0) = true := by simpa using hz
          have hap : applyR bad rs ⟨kind, c, e, q, org, ayes, aorgs⟩ = rs := by rw [applyR, if_neg (by rw [hv]; exact hz)]
          have HP := Lib.hid hap
          clear hz hv hap
          go_upto_region 12 with (go_at_call 14; refine (apply_is v w.heap.size gb mb rv bad rs ⟨kind, c, e, q, org, ayes, aorgs⟩ HV.out _ (by exact hGW) (by exact hbase) (by omega) haw.out).mono ?_; rintro r' wA ⟨rfl, ⟨rv', hGA⟩, hoA⟩)
          rw [HP.out] at hGA
          have hDA := hoA.owns hDW hS
          have hWA := hoA.owns hW8 hS8
          have hBA := hGW.below hBw hbase (Nat.le_refl _) hoA
          have hfew := hGA.few
          have hbaseA : w.heap.size ≤ wA.heap.size := Nat.le_trans hbase hoA.size
          clear hS hS8 hGW hDW hW8 hBw hoA hBW
          go_wp2_with (first
            | (go_at_call 11; refine (rows_any _ gb mb rv' bad rs _ (by exact hGA)).mono ?_; rintro e w2 ⟨u2, rfl, hW2, hB2⟩)
            | (go_at_call 10; refine (same_yes rs _ _ _ (by exact RowsV.of hW2 hfew) (by exact RowsV.of ((Only.of_below hB2).owns hWA (fun _ _ => id)) hfew)).mono ?_; rintro e w3 ⟨rfl, q3, rfl⟩))
          exact ⟨⟨k + 1, rv', rs, D, by omega, by go_num, (hGA.kept (Only.of_below hB2) id id (fun _ _ => id)).kept ((Only.refl (fun _ : Nat => False) _).drewN q3) id id (fun _ _ => id), by omega, by omega, hI, ((Only.of_below hB2).owns hDA (fun _ _ => id)).drewN q3, below_drewN (hBA.trans (hB2.mono hbaseA)) q3⟩, by simp [intOf]; omega⟩
      · go_wp2_with (go_at_call 7; refine (aliveL_any _).mono ?_; rintro e w' ⟨rfl, hBA⟩)
        go_ret
        exact ⟨rfl, hB.trans (hBA.mono hB.size)⟩
end Go.Proofs.Ytliakamlgjoabaa
