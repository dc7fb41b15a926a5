/- The walk of PeerPlays. -/
import Derived.Test.YtmmaankgoinijaaRefU
import Derived.Test.YtmmaankgoinijaaPeerMath
import Derived.Deep.CutRange
import Derived.Deep.DeepCutAuto
import Derived.Deep.CutBlock
namespace Go.Proofs.Ytmmaankgoinijaa
open Go.RowKit Go.Lib

structure InPlays (w : World) (B : Nat) (a1 : Option Addr) (n1 : Nat) (dd ff tt nn : Nat → Int) : Prop where
  r1 : 0 < n1 → ∃ b o, a1 = some ⟨b, o, none⟩ ∧ b < B ∧ ∀ i, i < n1 → w.cell? ⟨b, o + i * 4, none⟩ = some (.int .u8 (dd i)) ∧ w.cell? ⟨b, o + i * 4 + 1, none⟩ = some (.int .i64 (ff i)) ∧ w.cell? ⟨b, o + i * 4 + 2, none⟩ = some (.int .i64 (tt i)) ∧ w.cell? ⟨b, o + i * 4 + 3, none⟩ = some (.int .i64 (nn i))
  b1 : ∀ i, i < n1 → (0 ≤ dd i ∧ dd i ≤ 255) ∧ (-9223372036854775808 ≤ nn i ∧ nn i ≤ 9223372036854775807)

/-- The peer, and the document's, side by side. -/
structure Both (w : World) (B base pb bw rp rbw : Nat) (v : Value) (s : PS) (L : List Int) : Prop where
  p : PeerAt w pb bw s
  r : RPeerAt w base rp rbw v s L
  bd : PBd s
  lp : B ≤ pb
  lb : B ≤ bw
  lo : B ≤ base
  up : base ≤ w.heap.size

theorem Both.rp {w : World} {B base pb bw rp rbw : Nat} {v : Value} {s : PS} {L : List Int} (h : Both w B base pb bw rp rbw v s L) :
    (rp ≠ pb ∧ rp ≠ bw ∧ rbw ≠ pb ∧ rbw ≠ bw) ∧ (∀ k, v.ownBlock = some k → k ≠ pb ∧ k ≠ bw ∧ k ≠ rp ∧ k ≠ rbw) :=
  ⟨⟨block_ne h.r.cells h.p.1 (by decide), block_ne h.r.cells h.p.2 (by decide), block_ne h.r.win.1 h.p.1 (by decide), block_ne h.r.win.1 h.p.2 (by decide)⟩,
   fun k hk => ⟨row_ne h.r.win.2 h.p.1 (by decide) k hk, row_ne h.r.win.2 h.p.2 (by decide) k hk, row_ne h.r.win.2 h.r.cells (by decide) k hk, row_ne h.r.win.2 h.r.win.1 (by decide) k hk⟩⟩

theorem takeS_bd {s : PS} (h : PBd s) (x y n : Int) {L : List Int} (hI : WInv (takeS s x y n).t (takeS s x y n).g L) : PBd (takeS s x y n) := by
  have key : (1 ≤ (takeS s x y n).own ∧ (takeS s x y n).own ≤ 255) ∧ (1 ≤ (takeS s x y n).known ∧ (takeS s x y n).known ≤ 255) ∧ (0 ≤ (takeS s x y n).sent ∧ (takeS s x y n).sent ≤ 65535) := by
    clear hI
    unfold takeS
    split
    · exact ⟨⟨h.o1, h.o2⟩, ⟨h.k1, h.k2⟩, h.s1, h.s2⟩
    · rename_i hc
      have hx : okE x = true := by
        cases e : okE x
        · exact absurd (.inl e) hc
        · rfl
      have hb := hearS_bd h x hx
      exact ⟨⟨hb.o1, hb.o2⟩, ⟨hb.k1, hb.k2⟩, hb.s1, hb.s2⟩
  exact ⟨key.1.1, key.1.2, key.2.1.1, key.2.1.2, key.2.2.1, key.2.2.2, hI.t0, hI.t1, hI.zeroG⟩
theorem hearT_bd {s : PS} (h : PBd s) (x : Int) : PBd (hearT s x) := by
  unfold hearT
  split
  · rename_i hv
    have hx : okE x = true := by
      cases e : okE x
      · simp [hearV, e] at hv
      · rfl
    exact hearS_bd h x hx
  · exact h

theorem Both.set {w : World} {B base pb bw rp rbw : Nat} {v : Value} {s : PS} {L : List Int} (h : Both w B base pb bw rp rbw v s L) {w1 w2 : World} {bw' rbw' : Nat} {v' : Value} {s' : PS} {L' : List Int}
    (hbw : bw' = bw ∨ w.heap.size ≤ bw') (hp : PeerAt w1 pb bw' s') (ho1 : Only (fun k => k = pb ∨ k = bw) w w1)
    (hr : RPeerAt w2 base rp rbw' v' s' L') (ho2 : Only (fun k => k = rp ∨ k = rbw ∨ v.ownBlock = some k) w1 w2) (hbd : PBd s') : Both w2 B base pb bw' rp rbw' v' s' L' := by
  obtain ⟨⟨e1, e2, e3, e4⟩, e5⟩ := h.rp
  have hl : rp < w.heap.size := (Array.getElem?_eq_some_iff.1 h.r.cells).1
  have hl2 : rbw < w.heap.size := (Array.getElem?_eq_some_iff.1 h.r.win.1).1
  have hl3 : ∀ k, v.ownBlock = some k → k < w.heap.size := fun k hk => (h.r.win.2.lt k hk).2
  have n1 : ¬ (pb = rp ∨ pb = rbw ∨ v.ownBlock = some pb) := by
    rintro (e | e | e)
    · exact e1 e.symm
    · exact e3 e.symm
    · exact (e5 pb e).1 rfl
  have n2 : ¬ (bw' = rp ∨ bw' = rbw ∨ v.ownBlock = some bw') := by
    rcases hbw with rfl | hge
    · rintro (e | e | e)
      · exact e2 e.symm
      · exact e4 e.symm
      · exact (e5 _ e).2.1 rfl
    · rintro (e | e | e)
      · omega
      · omega
      · have := hl3 _ e; omega
  refine ⟨hp.kept ho2 n1 n2, hr, hbd, h.lp, ?_, h.lo, ?_⟩
  · have := h.lo; have := h.up; have := h.lb; rcases hbw with e | e <;> omega
  · have := h.up; have := ho1.size; have := ho2.size; omega

theorem Both.under {w w0 : World} {B base pb bw rp rbw : Nat} {v : Value} {s : PS} {L : List Int} (h : Both w B base pb bw rp rbw v s L) (hB : Below B w0 w) (hz : B ≤ w.heap.size) {w1 w2 : World}
    (ho1 : Only (fun k => k = pb ∨ k = bw) w w1) (ho2 : Only (fun k => k = rp ∨ k = rbw ∨ v.ownBlock = some k) w1 w2) : Below B w0 w2 := by
  have h1 := h.lp
  have h2 := h.lb
  have h3 := h.r.low.1
  have h4 := h.r.low.2
  have h5 := h.lo
  refine (hB.trans (ho1.below hz (fun k e => by rcases e with rfl | rfl <;> assumption))).trans (ho2.below (Nat.le_trans hz ho1.size) (fun k e => ?_))
  rcases e with rfl | rfl | e
  · omega
  · omega
  · have := (h.r.win.2.lt k e).1; omega

theorem Both.kept {w w' : World} {B base pb bw rp rbw : Nat} {v : Value} {s : PS} {L : List Int} (h : Both w B base pb bw rp rbw v s L) (ho : Only (fun _ => False) w w') : Both w' B base pb bw rp rbw v s L :=
  ⟨h.p.kept ho id id, h.r.kept ho id id (fun _ _ => id), h.bd, h.lp, h.lb, h.lo, Nat.le_trans h.up ho.size⟩

theorem rstamp_at {w : World} {base p bw : Nat} {v : Value} {s : PS} {L : List Int} (h : RPeerAt w base p bw v s L) (n : Int) : RPeerAt (w.setCell ⟨p, 2, none⟩ (.int .i64 n)) base p bw v { s with sent := n } L := by
  have ho := (Only.refl (fun k => k = p) w).setCell (p := ⟨p, 2, none⟩) rfl (.int .i64 n)
  exact ⟨(set_cells h.cells).trans (by simp), ⟨ho.obj h.win.1 (fun e => block_ne h.cells h.win.1 (by decide) e.symm), ho.owns h.win.2 (row_ne h.win.2 h.cells (by decide))⟩, h.inv, h.low⟩
theorem rStamp2 (base p bw : Nat) (v : Value) (s : PS) (L : List Int) (w : World) (h : RPeerAt w base p bw v s L) (h0 : 0 ≤ s.sent) (hr : s.sent < 65535) :
    Calls Try.prog 16 #[.pointer (some ⟨p, 0, none⟩)] w fun e w' => e = .returned (.tuple #[.int .i64 s.own, .int .i64 s.known, .int .i64 (s.sent + 1), .int .i64 0]) ∧ RPeerAt w' base p bw v { s with sent := s.sent + 1 } L ∧ Only (fun k => k = p) w w' := by
  refine (rStamp_yes base p bw v s L w h h0 hr).mono ?_
  rintro e w' ⟨rfl, q, rfl⟩
  refine ⟨rfl, ?_, ((Only.refl (fun k => k = p) w).setCell (p := ⟨p, 2, none⟩) rfl _).drewN q⟩
  have h2 := rstamp_at h (s.sent + 1)
  exact ⟨h2.cells, h2.win, h2.inv, h2.low⟩

theorem stampP_some (p bw : Nat) (s : PS) (w : World) (hP : PeerAt w p bw s) (hS : PBd s) :
    Calls Try.prog 11 #[.pointer (some ⟨p, 0, none⟩)] w fun e w' => ∃ v, e = .returned v ∧ Only (fun k => k = p) w w' := by
  by_cases hs : s.sent = 65535
  · refine (stamp_no p bw s w hP hs).mono ?_
    rintro e w' ⟨rfl, rfl⟩
    exact ⟨_, rfl, Only.refl _ _⟩
  · refine (stamp_yes p bw s w hP hS (by have := hS.s2; omega)).mono ?_
    rintro e w' ⟨rfl, _, ho⟩
    exact ⟨_, rfl, ho⟩

set_option maxHeartbeats 2000000 in
set_option maxRecDepth 100000 in
theorem pplays_any (own : Int) (a1 : Option Addr) (n1 c1 : Nat) (dd ff tt nn : Nat → Int) (w : World) (hm : n1 ≤ maxLen) (hin : InPlays w w.heap.size a1 n1 dd ff tt nn) :
    Calls Try.prog 5 #[.int .i64 own, .slice a1 n1 c1] w fun e w' => e = .returned (.bool true) ∧ Below w.heap.size w w' := by
  unfold maxLen at hm
  by_cases hl : 200 < n1
  · go_enter Try.func5, Try.ntmps5
    go_wp2_with (go_at_call 6; refine (alive_any _).mono ?_; rintro e w' ⟨rfl, hB⟩)
    go_ret
    exact ⟨rfl, hB⟩
  · have hl' : n1 ≤ 200 := by omega
    clear hl
    by_cases ho : okE own = true
    · obtain ⟨ho1, ho2⟩ : 1 ≤ own ∧ own ≤ 255 := by simpa [okE] using ho
      have HO := Lib.hid ho
      clear ho
      go_enter Try.func5, Try.ntmps5
      go_wp2_with (first | (go_at_call 7; refine (newPeer_yes own _ (by omega) (by omega)).mono ?_; rintro e w0 ⟨rfl, hP, hB⟩) | (go_at_call 12; refine (rNew_yes own _ HO.out).mono ?_; rintro e w1 ⟨rp, rbw, rfl, hR, hB1⟩))
      have hz := hB.size
      have hz1 := hB1.size
      have hB' := hB.trans (hB1.mono hz)
      have h0 : Both w1 w.heap.size w0.heap.size (w.heap.size + 1 + 1) (w.heap.size + 1) rp rbw (.slice none 0 0) (ps0 own) [] :=
        ⟨hP.kept (Only.of_below hB1) id id, hR, (PInv.start own ho1 ho2).bd, by omega, by omega, hz, hz1⟩
      clear hP hR hB hB1
      generalize w0.heap.size = base at *
      go_loopw [5, 8] (fun vp vi wr => ∃ (k pb bw rbw : Nat) (v : Value) (s : PS) (L : List Int), k ≤ n1 ∧ vi = .int .i64 k ∧ vp = .pointer (some ⟨pb, 0, none⟩) ∧ Both wr w.heap.size base pb bw rp rbw v s L ∧ L.length ≤ k ∧ Below w.heap.size w wr)
        (fun _ vi _ => n1 - (intOf vi).toNat)
      case atStart => exact ⟨0, _, _, rbw, _, _, [], by omega, rfl, rfl, h0, by simp, hB'⟩
      case round =>
        clear h0 hB' hz hz1
        obtain ⟨k, pb, bw, rbw, v, s, L, hk, rfl, rfl, hb, hL, hB⟩ := hrel
        by_cases hlt : k < n1
        · obtain ⟨b, o, rfl, hbb, hc⟩ := hin.r1 (by omega)
          obtain ⟨x0, x1, x2, x3⟩ := hc k hlt
          obtain ⟨⟨bd1, bd2⟩, bd3⟩ := hin.b1 k hlt
          replace x0 := (hB.cell (p := ⟨b, o + k * 4, none⟩) hbb).trans x0
          replace x1 := (hB.cell (p := ⟨b, o + k * 4 + 1, none⟩) hbb).trans x1
          replace x2 := (hB.cell (p := ⟨b, o + k * 4 + 2, none⟩) hbb).trans x2
          replace x3 := (hB.cell (p := ⟨b, o + k * 4 + 3, none⟩) hbb).trans x3
          clear hc
          generalize dd k = d at x0 bd1 bd2
          generalize ff k = x at x1
          generalize tt k = y at x2
          generalize nn k = n at x3 bd3
          have hz : w.heap.size ≤ wr.heap.size := hB.size
          have oX := (Only.refl (fun _ : Nat => False) wr).alloc (.cells #[.int .u8 d, .int .i64 x, .int .i64 y, .int .i64 n] 30)
          have hX := heap_alloc_new wr (.cells #[.int .u8 d, .int .i64 x, .int .i64 y, .int .i64 n] 30)
          go_upto_block 2 with fail
          replace hb := hb.kept oX
          replace hB := hB.alloc hz (.cells #[.int .u8 d, .int .i64 x, .int .i64 y, .int .i64 n] 30)
          clear x0 x1 x2 x3
          generalize (wr.alloc (.cells #[.int .u8 d, .int .i64 x, .int .i64 y, .int .i64 n] 30)) = W at *
          generalize wr.heap.size = xb at *
          have hX0 : W.cell? ⟨xb, 0, none⟩ = some (.int .u8 d) := by simp [World.cell?, hX]
          have hX1 : W.cell? ⟨xb, 1, none⟩ = some (.int .i64 x) := by simp [World.cell?, hX]
          have hX2 : W.cell? ⟨xb, 2, none⟩ = some (.int .i64 y) := by simp [World.cell?, hX]
          have hX3 : W.cell? ⟨xb, 3, none⟩ = some (.int .i64 n) := by simp [World.cell?, hX]
          clear oX
          replace hz := hB.size
          obtain ⟨⟨e1, e2, e3, e4⟩, e5⟩ := hb.rp
          have E5 := Lib.hid e5
          have e6 : xb ≠ pb := block_ne hX hb.p.1 (by decide)
          have e7 : xb ≠ bw := block_ne hX hb.p.2 (by decide)
          have hpe := hb.p
          have hbd := hb.bd
          have hll : L.length < 999 := by omega
          have e8 : xb ≠ rp := block_ne hX hb.r.cells (by decide)
          have e9 : xb ≠ rbw := block_ne hX hb.r.win.1 (by decide)
          have E10 := Lib.hid (row_ne hb.r.win.2 hX (by decide))
          have hup := hb.up
          have hre := hb.r
          clear e5 hX
          go_cut [5, 10, 11, 12, 13, 14, 15, 16, 17, 18] (fun vp _ _ _ _ _ _ _ _ _ wx => ∃ (pb bw rbw : Nat) (v : Value) (s : PS) (L : List Int), vp = .pointer (some ⟨pb, 0, none⟩) ∧ Both wx w.heap.size base pb bw rp rbw v s L ∧ L.length ≤ k + 1 ∧ Below w.heap.size w wx)
          case first =>
            by_cases hd0 : d = 0
            · subst hd0
              go_upto_region 21 with fail
              go_region_held3 (fun w' => w'.cell? ⟨xb, 1, none⟩ = some (.int .i64 x) ∧ w'.cell? ⟨xb, 2, none⟩ = some (.int .i64 y) ∧ w'.cell? ⟨xb, 3, none⟩ = some (.int .i64 n)) (first | exact ⟨hX1, hX2, hX3⟩ | exact ⟨hY1, hY2, hY3⟩ | exact ⟨hZ1, hZ2, hZ3⟩)
                (first | (go_at_call 9; refine (takeP_any pb bw s x y n _ (by exact hpe) hbd bd3).mono ?_; rintro e wA ⟨rfl, bw', hbw', hPA, hoA⟩; have hY1 := hoA.cell hX1 (fun e => e.elim e6 e7); have hY2 := hoA.cell hX2 (fun e => e.elim e6 e7); have hY3 := hoA.cell hX3 (fun e => e.elim e6 e7); have hoA' : Only (fun k => k = pb ∨ k = bw) W wA := ⟨hoA.os, hoA.tape, hoA.output, hoA.size, hoA.block⟩; have hRA := hre.kept hoA' (fun e => e.elim e1 e2) (fun e => e.elim e3 e4) (fun k hk e => e.elim (E5.out k hk).1 (E5.out k hk).2.1)) | (go_at_call 14; refine (rTakeP_any base rp rbw v s L x y n _ (by exact hRA) (Nat.le_trans hup hoA'.size) hll bd3).mono ?_; rintro e wB ⟨rfl, ⟨rbw', v', L', hRB, hLB⟩, hoB⟩; have hno := Lib.hid (show ¬ (xb = rp ∨ xb = rbw ∨ v.ownBlock = some xb) from fun e => e.elim e8 (fun e => e.elim e9 (fun e => E10.out xb e rfl))); have hZ1 := hoB.cell hY1 hno.out; have hZ2 := hoB.cell hY2 hno.out; have hZ3 := hoB.cell hY3 hno.out))
              all_goals go_wp2_with fail
              all_goals go_meet
              all_goals (case rel => exact ⟨pb, bw', rbw', v', takeS s x y n, L', rfl, hb.set hbw' hPA hoA' hRB hoB (takeS_bd hbd x y n hRB.inv), by omega, hb.under hB hz hoA' hoB⟩)
            · by_cases hd1 : d = 1
              · subst hd1
                go_upto_region 24 with fail
                go_region_held3 (fun w' => w'.cell? ⟨xb, 1, none⟩ = some (.int .i64 x)) (first | exact hX1 | exact hY1 | exact hZ1)
                  (first | (go_at_call 8; refine (hear_any pb bw s x _ (by exact hpe) hbd).mono ?_; rintro e wA ⟨rfl, bw', hbw', hPA, hoA⟩; have hY1 := hoA.cell hX1 e6; have hoA' : Only (fun k => k = pb ∨ k = bw) W wA := Only.shrink ⟨hoA.os, hoA.tape, hoA.output, hoA.size, hoA.block⟩ (fun _ _ => .inl); have hRA := hre.kept hoA' (fun e => e.elim e1 e2) (fun e => e.elim e3 e4) (fun k hk e => e.elim (E5.out k hk).1 (E5.out k hk).2.1)) | (go_at_call 15; refine (rHear_any base rp rbw v s L x _ (by exact hRA) (Nat.le_trans hup hoA'.size)).mono ?_; rintro e wB ⟨rfl, ⟨rbw', v', L', hRB, hLB⟩, hoB⟩; have hZ1 := hoB.cell hY1 e8; have hoB' : Only (fun k => k = rp ∨ k = rbw ∨ v.ownBlock = some k) wA wB := Only.shrink ⟨hoB.os, hoB.tape, hoB.output, hoB.size, hoB.block⟩ (fun _ _ => .inl)))
                all_goals go_wp2_with fail
                all_goals go_meet
                all_goals (case rel => exact ⟨pb, bw', rbw', v', hearT s x, L', rfl, hb.set hbw' hPA hoA' hRB hoB' (hearT_bd hbd x), by omega, hb.under hB hz hoA' hoB'⟩)
              · by_cases hd2 : d = 2
                · subst hd2
                  have hs1 := hbd.s1
                  have hs2 := hbd.s2
                  by_cases hs : s.sent = 65535
                  · have HS := Lib.hid hs
                    clear hs
                    go_wp2_with (first | (go_at_call 11; refine (stamp_no pb bw s _ (by exact hpe) HS.out).mono ?_; rintro e wA ⟨rfl, rfl⟩) | (go_at_call 16; refine (rStamp_no base rp rbw v s L _ (by exact hre) HS.out).mono ?_; rintro e wA ⟨rfl, rfl⟩))
                    all_goals go_meet
                    all_goals (case rel => exact ⟨pb, bw, rbw, v, s, L, rfl, hb, by omega, hB⟩)
                  · have hs' : s.sent < 65535 := by omega
                    clear hs
                    go_wp2_with (first | (go_at_call 11; refine (stamp_yes pb bw s _ (by exact hpe) hbd hs').mono ?_; rintro e wA ⟨rfl, hPA, hoA⟩; have hoA' : Only (fun k => k = pb ∨ k = bw) W wA := hoA.shrink (fun _ _ => .inl); have hRA := hre.kept hoA' (fun e => e.elim e1 e2) (fun e => e.elim e3 e4) (fun k hk e => e.elim (E5.out k hk).1 (E5.out k hk).2.1)) | (go_at_call 16; refine (rStamp2 base rp rbw v s L _ (by exact hRA) hs1 hs').mono ?_; rintro e wB ⟨rfl, hRB, hoB⟩; have hoB' : Only (fun k => k = rp ∨ k = rbw ∨ v.ownBlock = some k) wA wB := hoB.shrink (fun _ _ => .inl)))
                    all_goals go_meet
                    all_goals (case rel => exact ⟨pb, bw, rbw, v, { s with sent := s.sent + 1 }, L, rfl, hb.set (.inl rfl) hPA hoA' hRB hoB' ⟨hbd.o1, hbd.o2, hbd.k1, hbd.k2, by show 0 ≤ s.sent + 1; omega, by show s.sent + 1 ≤ 65535; omega, hbd.t1, hbd.t2, hbd.tg⟩, by omega, hb.under hB hz hoA' hoB'⟩)
                · have hpl := hpe.lt
                  have hbl := hpe.2.lt
                  have hpn := hpe.ne
                  go_wp2_with (first | (go_at_call 17; refine (copyP_any pb bw s _ (by exact hpe)).mono ?_; rintro e wA ⟨pc, bc, rfl, hPc, hpc, hbc, hBA⟩; have hPA := hpe.kept (Only.of_below hBA) id id) | (go_at_call 8; refine (hear_any pb bw s 255 _ (by exact hPA) hbd).mono ?_; rintro e wB ⟨rfl, bw', hbw', hPB, hoB⟩) | (go_at_call 11; refine (stampP_some pb bw' (hearT s 255) _ (by exact hPB) (hearT_bd hbd 255)).mono ?_; rintro e wC ⟨vC, rfl, hoC⟩))
                  all_goals go_meet
                  have hoA := Only.of_below hBA
                  have q1 : ¬ pc = pb := by omega
                  have q2 : ¬ bc = pb := by omega
                  have q3 : ∀ k, v.ownBlock = some k → ¬ k = pb := fun k hk => (E5.out k hk).1
                  have hR := ((hre.kept hoA id id (fun _ _ => id)).kept hoB e1 e3 q3).kept hoC e1 e3 q3
                  have hP := (hPc.kept hoB q1 q2).kept hoC q1 q2
                  have hlp := hb.lp
                  have s1 := hoA.size
                  have s2 := hoB.size
                  have s3 := hoC.size
                  have hB4 := ((hB.trans (hBA.mono hz)).trans (hoB.below (by omega) (fun k e => by omega))).trans (hoC.below (by omega) (fun k e => by omega))
                  all_goals (case rel => exact ⟨pc, bc, rbw, v, s, L, rfl, ⟨hP, hR, hbd, by omega, by omega, hb.lo, by omega⟩, by omega, hB4⟩)
          case rest =>
            clear hb hL hB hz e1 e2 e3 e4 E5 e6 e7 e8 e9 E10 hup hre hpe hbd hll hX0 hX1 hX2 hX3
            obtain ⟨pb, bw, rbw, v, s, L, rfl, hb, hL, hB⟩ := hcut
            obtain ⟨c0, c1, _, c3⟩ := hb.r.c
            have hpe := hb.p
            have hbd := hb.bd
            have hre := hb.r
            have hwin := hre.win.win (by omega)
            have hbl : rbw < wc.heap.size := (Array.getElem?_eq_some_iff.1 hre.win.1).1
            have HI := Lib.hid hre.inv
            go_upto_region 31 with fail
            go_region_held3 (fun w' => w'.cell? ⟨rp, 0, none⟩ = some (.int .i64 s.own) ∧ w'.cell? ⟨rp, 1, none⟩ = some (.int .i64 s.known) ∧ w'.cell? ⟨rp, 3, none⟩ = some (.pointer (some ⟨rbw, 0, none⟩))) (first | exact ⟨c0, c1, c3⟩ | exact ⟨hT.cell c0 id, hT.cell c1 id, hT.cell c3 id⟩ | exact ⟨hT2.cell c0 id, hT2.cell c1 id, hT2.cell c3 id⟩)
              (first | (go_at_call 10; refine (ownP_any pb bw s _ (by exact hpe)).mono ?_; rintro e wA ⟨rfl, rfl⟩) | (go_at_call 18; refine (knownP_any pb bw s _ (by exact hpe)).mono ?_; rintro e wA ⟨rfl, rfl⟩) | (go_at_call 20; refine (takenP_any pb bw s _ (by exact hpe) hbd).mono ?_; rintro e wT ⟨vt, rfl, hoT, hBT⟩; have hT : Only (fun _ => False) wc wT := (fun h => ⟨h.os, h.tape, h.output, h.size, h.block⟩) (Only.of_below hBT)) | (go_at_call 21; refine (rList_any base rbw L s.t s.g _ (by exact hwin.kept hT id (fun _ _ _ => id)) (by exact Nat.lt_of_lt_of_le hbl hT.size) HI.out).mono ?_; rintro e wL ⟨vl, rfl, hoL, hBL⟩; have hL0 : Only (fun _ => False) wT wL := (fun h => ⟨h.os, h.tape, h.output, h.size, h.block⟩) (Only.of_below hBL); have hT2 := hT.trans hL0) | (go_at_call 19; refine (sameInts_yes (winList s.t s.g) _ vt vl (Ints.of_owns (hL0.owns hoT (fun _ _ => id))) (Ints.of_owns hoL)).mono ?_; rintro e wS ⟨rfl, q, rfl⟩))
            all_goals go_wp2_with fail
            all_goals (have hT3 := hT2.drewN q; exact ⟨⟨k + 1, pb, bw, rbw, v, s, L, by omega, by go_num, rfl, hb.kept hT3, hL, hB.trans (hT3.below hB.size (fun _ h => h.elim))⟩, by simp [intOf]; omega⟩)
        · go_wp2_with (first | (go_at_call 13; refine (nothing_any _).mono ?_; rintro e w2 ⟨rfl, hB2⟩) | (go_at_call 6; refine (alive_any _).mono ?_; rintro e w3 ⟨rfl, hB3⟩))
          go_ret
          exact ⟨rfl, (hB.trans (hB2.mono hB.size)).trans (hB3.mono (Nat.le_trans hB.size hB2.size))⟩
    · have HO := Lib.hid (show okE own = false by simpa using ho)
      clear ho
      go_enter Try.func5, Try.ntmps5
      go_wp2_with (first | (go_at_call 7; refine (newPeer_no own _ HO.out).mono ?_; rintro e w0 ⟨rfl, hB⟩) | (go_at_call 12; refine (rNew_no own _ HO.out).mono ?_; rintro e w1 ⟨rfl, rfl⟩) | (go_at_call 13; refine (nothing_any _).mono ?_; rintro e w2 ⟨rfl, hB2⟩) | (go_at_call 6; refine (alive_any _).mono ?_; rintro e w3 ⟨rfl, hB3⟩))
      go_ret
      exact ⟨rfl, (hB.trans (hB2.mono hB.size)).trans (hB3.mono (Nat.le_trans hB.size hB2.size))⟩
end Go.Proofs.Ytmmaankgoinijaa
