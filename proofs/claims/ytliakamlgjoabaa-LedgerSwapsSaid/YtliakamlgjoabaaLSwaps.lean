/- The walk of LedgerSwaps. -/
import Derived.Test.YtliakamlgjoabaaSwapMath
import Derived.Test.YtliakamlgjoabaaLAlive
import Derived.Test.YtliakamlgjoabaaLTxn
import Derived.Deep.CutBlock
namespace Go.Proofs.Ytliakamlgjoabaa
open Go.RowKit

/-- Two ledgers side by side. -/
structure Two (w : World) (B gb mb : Nat) (rg : Value) (rsg : List Row) (C gc mc : Nat) (rc : Value) (rsh : List Row) (bad : Int) : Prop where
  g : GAt w B gb mb rg bad rsg
  h : GAt w C gc mc rc bad rsh
  ne : gb ≠ gc ∧ gb ≠ mc ∧ mb ≠ gc ∧ mb ≠ mc
  own : ∀ k, rg.ownBlock = some k → rc.ownBlock = some k → False
theorem Two.symm {w : World} {B gb mb : Nat} {rg : Value} {rsg : List Row} {C gc mc : Nat} {rc : Value} {rsh : List Row} {bad : Int} (t : Two w B gb mb rg rsg C gc mc rc rsh bad) : Two w C gc mc rc rsh B gb mb rg rsg bad :=
  ⟨t.h, t.g, ⟨Ne.symm t.ne.1, Ne.symm t.ne.2.2.1, Ne.symm t.ne.2.1, Ne.symm t.ne.2.2.2⟩, fun k h1 h2 => t.own k h2 h1⟩
theorem Two.left {w w' : World} {B gb mb : Nat} {rg : Value} {rsg : List Row} {C gc mc : Nat} {rc : Value} {rsh : List Row} {bad : Int} {rg' : Value} {rsg' : List Row} (t : Two w B gb mb rg rsg C gc mc rc rsh bad)
    (hG : GAt w' B gb mb rg' bad rsg') (ho : ∀ k, rg'.ownBlock = some k → rg.ownBlock = some k ∨ w.heap.size ≤ k) (hO : Only (fun j => j = gb ∨ j = mb ∨ rg.ownBlock = some j) w w') : Two w' B gb mb rg' rsg' C gc mc rc rsh bad := by
  refine ⟨hG, t.h.kept hO ?_ ?_ ?_, t.ne, fun k h1 h2 => (ho k h1).elim (fun e => t.own k e h2) (fun e => by have := (t.h.rows.lt k h2).2; omega)⟩
  · rintro (e | e | e)
    · exact t.ne.1 e.symm
    · exact t.ne.2.2.1 e.symm
    · exact row_ne t.g.rows t.h.cells (by decide) _ e rfl
  · rintro (e | e | e)
    · exact t.ne.2.1 e.symm
    · exact t.ne.2.2.2 e.symm
    · exact map_row t.g.rows t.h.map _ e rfl
  · rintro k hk (e | e | e)
    · exact row_ne t.h.rows t.g.cells (by decide) _ hk e
    · exact map_row t.h.rows t.g.map _ hk e
    · exact t.own k e hk
theorem Two.drew {w : World} {B gb mb : Nat} {rg : Value} {rsg : List Row} {C gc mc : Nat} {rc : Value} {rsh : List Row} {bad : Int} (t : Two w B gb mb rg rsg C gc mc rc rsh bad) : Two w.drew B gb mb rg rsg C gc mc rc rsh bad :=
  ⟨t.g.kept ((Only.refl (fun _ : Nat => False) w).drew) id id (fun _ _ => id), t.h.kept ((Only.refl (fun _ : Nat => False) w).drew) id id (fun _ _ => id), t.ne, t.own⟩
theorem Two.below {w w' : World} {B gb mb : Nat} {rg : Value} {rsg : List Row} {C gc mc : Nat} {rc : Value} {rsh : List Row} {bad : Int} (t : Two w B gb mb rg rsg C gc mc rc rsh bad) (h : Only (fun _ => False) w w') : Two w' B gb mb rg rsg C gc mc rc rsh bad :=
  ⟨t.g.kept h id id (fun _ _ => id), t.h.kept h id id (fun _ _ => id), t.ne, t.own⟩
theorem apply_own_is (v : Int) (rs' : List Row) (base gb mb : Nat) (rv : Value) (bad : Int) (rs : List Row) (a : Act') (hv : mayV bad rs a = v) (hr : applyR bad rs a = rs') (w : World) (h : GAt w base gb mb rv bad rs) (hbase : base ≤ w.heap.size) (hroom : rs.length < 1000) (ha : ActWf a) :
    Calls Try.prog 14 #[.pointer (some ⟨gb, 0, none⟩), actV a] w (ApOwn v w base gb mb rv bad rs') := by
  subst hv
  subst hr
  exact apply_own base gb mb rv bad rs a w h hbase hroom ha

set_option maxRecDepth 100000 in
set_option maxHeartbeats 8000000 in
theorem swaps_any (bad : Int) (av : Option Addr) (l : List Act') (cap : Nat) (a b : Act') (ha : ActWf a) (hb : ActWf b) (w : World) (hl : ActsAt w w.heap.size av l) (hm : l.length ≤ maxLen) :
    Calls Try.prog 6 #[.int .u8 bad, .slice av l.length cap, actV a, actV b] w fun e w' => e = .returned (.bool true) ∧ Below w.heap.size w w' := by
  unfold maxLen at hm
  obtain ⟨ak, ac, ae, aq, aorg, ay, ao⟩ := a
  obtain ⟨bk, bc, be, bq, borg, by', bo⟩ := b
  have HA := Lib.hid ha
  have HB := Lib.hid hb
  clear ha hb
  unfold actV
  dsimp only
  go_enter Try.func6, Try.ntmps6
  go_upto_region 1 with fail
  obtain ⟨w1, hw1⟩ : ∃ w1, (w.alloc (.cells #[.int .u8 ak, .int .i64 ac, .int .i64 ae, .int .i64 aq, .int .i64 aorg, .bool ay, .int .u8 ao] 35)).alloc (.cells #[.int .u8 bk, .int .i64 bc, .int .i64 be, .int .i64 bq, .int .i64 borg, .bool by', .int .u8 bo] 35) = w1 := ⟨_, rfl⟩
  have hB1 : Below w.heap.size w w1 := by rw [← hw1]; exact ((Below.refl _ w).alloc (Nat.le_refl _) _).alloc (by simp) _
  have hAx : w1.heap[w.heap.size]? = some (.cells #[.int .u8 ak, .int .i64 ac, .int .i64 ae, .int .i64 aq, .int .i64 aorg, .bool ay, .int .u8 ao] 35 (0, 0)) := by rw [← hw1]; exact (heap_alloc_old _ _ _ (by simp)).trans (heap_alloc_new w _)
  have hBx : w1.heap[w.heap.size + 1]? = some (.cells #[.int .u8 bk, .int .i64 bc, .int .i64 be, .int .i64 bq, .int .i64 borg, .bool by', .int .u8 bo] 35 (0, 0)) := by rw [← hw1]; exact heap_at _ _ _ (by simp)
  have hs1 : w1.heap.size = w.heap.size + 2 := by rw [← hw1]; simp
  rw [hw1]
  clear hw1
  have x0 : w1.cell? ⟨w.heap.size, 0, none⟩ = some (.int .u8 ak) := by simp [World.cell?, hAx]
  have x1 : w1.cell? ⟨w.heap.size, 1, none⟩ = some (.int .i64 ac) := by simp [World.cell?, hAx]
  have x2 : w1.cell? ⟨w.heap.size, 2, none⟩ = some (.int .i64 ae) := by simp [World.cell?, hAx]
  have x3 : w1.cell? ⟨w.heap.size, 3, none⟩ = some (.int .i64 aq) := by simp [World.cell?, hAx]
  have x4 : w1.cell? ⟨w.heap.size, 4, none⟩ = some (.int .i64 aorg) := by simp [World.cell?, hAx]
  have x5 : w1.cell? ⟨w.heap.size, 5, none⟩ = some (.bool ay) := by simp [World.cell?, hAx]
  have x6 : w1.cell? ⟨w.heap.size, 6, none⟩ = some (.int .u8 ao) := by simp [World.cell?, hAx]
  have y0 : w1.cell? ⟨w.heap.size + 1, 0, none⟩ = some (.int .u8 bk) := by simp [World.cell?, hBx]
  have y1 : w1.cell? ⟨w.heap.size + 1, 1, none⟩ = some (.int .i64 bc) := by simp [World.cell?, hBx]
  have y2 : w1.cell? ⟨w.heap.size + 1, 2, none⟩ = some (.int .i64 be) := by simp [World.cell?, hBx]
  have y3 : w1.cell? ⟨w.heap.size + 1, 3, none⟩ = some (.int .i64 bq) := by simp [World.cell?, hBx]
  have y4 : w1.cell? ⟨w.heap.size + 1, 4, none⟩ = some (.int .i64 borg) := by simp [World.cell?, hBx]
  have y5 : w1.cell? ⟨w.heap.size + 1, 5, none⟩ = some (.bool by') := by simp [World.cell?, hBx]
  have y6 : w1.cell? ⟨w.heap.size + 1, 6, none⟩ = some (.int .u8 bo) := by simp [World.cell?, hBx]
  have hl1 : ActsAt w1 w.heap.size av l := ⟨fun h => by
    obtain ⟨b, o, e, hb, hc⟩ := hl.r h
    refine ⟨b, o, e, hb, fun i a hi => ?_⟩
    obtain ⟨c0, c1, c2, c3, c4, c5, c6⟩ := hc i a hi
    exact ⟨(hB1.cell hb).trans c0, (hB1.cell hb).trans c1, (hB1.cell hb).trans c2, (hB1.cell hb).trans c3, (hB1.cell hb).trans c4, (hB1.cell hb).trans c5, (hB1.cell hb).trans c6⟩, hl.wf⟩
  clear hl hAx hBx
  have HXY := Lib.hid (show w1.cell? ⟨w.heap.size, 0, none⟩ = some (.int .u8 ak) ∧ w1.cell? ⟨w.heap.size, 1, none⟩ = some (.int .i64 ac) ∧ w1.cell? ⟨w.heap.size, 2, none⟩ = some (.int .i64 ae) ∧ w1.cell? ⟨w.heap.size, 3, none⟩ = some (.int .i64 aq) ∧ w1.cell? ⟨w.heap.size, 4, none⟩ = some (.int .i64 aorg) ∧ w1.cell? ⟨w.heap.size, 5, none⟩ = some (.bool ay) ∧ w1.cell? ⟨w.heap.size, 6, none⟩ = some (.int .u8 ao) ∧ w1.cell? ⟨w.heap.size + 1, 0, none⟩ = some (.int .u8 bk) ∧ w1.cell? ⟨w.heap.size + 1, 1, none⟩ = some (.int .i64 bc) ∧ w1.cell? ⟨w.heap.size + 1, 2, none⟩ = some (.int .i64 be) ∧ w1.cell? ⟨w.heap.size + 1, 3, none⟩ = some (.int .i64 bq) ∧ w1.cell? ⟨w.heap.size + 1, 4, none⟩ = some (.int .i64 borg) ∧ w1.cell? ⟨w.heap.size + 1, 5, none⟩ = some (.bool by') ∧ w1.cell? ⟨w.heap.size + 1, 6, none⟩ = some (.int .u8 bo) from ⟨x0, x1, x2, x3, x4, x5, x6, y0, y1, y2, y3, y4, y5, y6⟩)
  have alv : ∀ W W' : World, Below w.heap.size w W → Below W.heap.size W W' → Below w.heap.size w W' := fun W W' h1 h2 => h1.trans (h2.mono h1.size)
  by_cases hbig : 120 < l.length
  · go_wp2_with (go_at_call 7; refine (aliveL_any _).mono ?_; rintro e w' ⟨rfl, hBA⟩)
    go_ret
    exact ⟨rfl, alv _ _ hB1 hBA⟩
  · have hlen : l.length ≤ 120 := by omega
    clear hbig
    by_cases ht : (ac, ae, aq) = (bc, be, bq)
    · cases ht
      have TE := txn_eq ac ae aq
      go_wp2_with (go_at_call 7; refine (aliveL_any _).mono ?_; rintro e w' ⟨rfl, hBA⟩)
      go_ret
      exact ⟨rfl, alv _ _ hB1 hBA⟩
    · have TN := txn_ne ac ae aq bc be bq ht
      go_upto_region 6 with (go_at_call 13; refine (newL_any bad _).mono ?_; rintro e w2 ⟨gb, mb, rfl, hG0, hB0⟩)
      clear TN x0 x1 x2 x3 x4 x5 x6 y0 y1 y2 y3 y4 y5 y6
      go_wp2
      go_loopw [10] (fun v10 wr => ∃ (k : Nat) (rv : Value) (rs : List Row), k ≤ l.length ∧ v10 = .int .i64 k ∧ GAt wr w1.heap.size gb mb rv bad rs ∧ rs.length ≤ k ∧ Below w1.heap.size w1 wr) (fun v10 _ => l.length - (intOf v10).toNat)
      case atStart => exact ⟨0, _, [], by omega, rfl, hG0, by simp, hB0⟩
      case round =>
        clear hG0 hB0
        obtain ⟨k, rv, rs, hk, rfl, hG, hrl, hB⟩ := hrel
        by_cases hlt : k < l.length
        · obtain ⟨b, o, rfl, hbb, hc⟩ := hl1.r (by omega)
          obtain ⟨a, hai⟩ : ∃ a, l[k]? = some a := ⟨_, List.getElem?_eq_getElem hlt⟩
          have haw := Lib.hid (hl1.wf a (List.mem_of_getElem? hai))
          obtain ⟨x0, x1, x2, x3, x4, x5, x6⟩ := hc k a hai
          have hbb1 : b < w1.heap.size := by omega
          replace x0 := (hB.cell (p := ⟨b, o + k * 7, none⟩) hbb1).trans x0
          replace x1 := (hB.cell (p := ⟨b, o + k * 7 + 1, none⟩) hbb1).trans x1
          replace x2 := (hB.cell (p := ⟨b, o + k * 7 + 2, none⟩) hbb1).trans x2
          replace x3 := (hB.cell (p := ⟨b, o + k * 7 + 3, none⟩) hbb1).trans x3
          replace x4 := (hB.cell (p := ⟨b, o + k * 7 + 4, none⟩) hbb1).trans x4
          replace x5 := (hB.cell (p := ⟨b, o + k * 7 + 5, none⟩) hbb1).trans x5
          replace x6 := (hB.cell (p := ⟨b, o + k * 7 + 6, none⟩) hbb1).trans x6
          clear hc hai
          obtain ⟨kind, c, e, q, org, ayes, aorgs⟩ := a
          dsimp only at x0 x1 x2 x3 x4 x5 x6
          go_wp2_with (go_at_call 14; refine (apply_any w1.heap.size gb mb rv bad rs ⟨kind, c, e, q, org, ayes, aorgs⟩ _ (by exact hG) (by exact hB.size) (by omega) haw.out).mono ?_; rintro r' wA ⟨rfl, ⟨rv', hGA⟩, hoA⟩)
          have hal := applyR_len bad rs ⟨kind, c, e, q, org, ayes, aorgs⟩
          exact ⟨⟨k + 1, rv', _, by omega, by go_num, hGA, by omega, hG.below hB hB.size (Nat.le_refl _) hoA⟩, by simp [intOf]; omega⟩
        · go_upto_region 11 with (go_at_call 17; refine (copyL_any _ gb mb rv bad rs _ (by exact hG)).mono ?_; rintro e w3 ⟨gc, mc, rc, rfl, hH, hBC⟩)
          have hG3 := hG.kept (Only.of_below hBC) id id (fun _ _ => id)
          have hB3 := hB.trans (hBC.mono hB.size)
          have hlg := hG.lt
          have hlm := hG.ltm
          have hlr := fun k h => (hG.rows.lt k h).2
          have hcg := hH.low.1
          have hcm := hH.low.2
          have hcr := fun k h => (hH.rows.lt k h).1
          have hb3 := hB3.size
          have hC := hB.size
          clear hG hB hBC
          obtain ⟨v1, h1⟩ : ∃ v, mayV bad rs ⟨ak, ac, ae, aq, aorg, ay, ao⟩ = v := ⟨_, rfl⟩
          obtain ⟨v2, h2⟩ : ∃ v, mayV bad rs ⟨bk, bc, be, bq, borg, by', bo⟩ = v := ⟨_, rfl⟩
          obtain ⟨ra, e1⟩ : ∃ r, applyR bad rs ⟨ak, ac, ae, aq, aorg, ay, ao⟩ = r := ⟨_, rfl⟩
          obtain ⟨rb, e2⟩ : ∃ r, applyR bad rs ⟨bk, bc, be, bq, borg, by', bo⟩ = r := ⟨_, rfl⟩
          obtain ⟨rab, e3⟩ : ∃ r, applyR bad ra ⟨bk, bc, be, bq, borg, by', bo⟩ = r := ⟨_, rfl⟩
          obtain ⟨rba, e4⟩ : ∃ r, applyR bad rb ⟨ak, ac, ae, aq, aorg, ay, ao⟩ = r := ⟨_, rfl⟩
          have htt : (⟨ak, ac, ae, aq, aorg, ay, ao⟩ : Act').t ≠ (⟨bk, bc, be, bq, borg, by', bo⟩ : Act').t := ht
          have h3 : mayV bad ra ⟨bk, bc, be, bq, borg, by', bo⟩ = v2 := by rw [← e1, mayV_apply (Ne.symm htt)]; exact h2
          have h4 : mayV bad rb ⟨ak, ac, ae, aq, aorg, ay, ao⟩ = v1 := by rw [← e2, mayV_apply htt]; exact h1
          have l1 : ra.length ≤ 121 := by have := applyR_len bad rs ⟨ak, ac, ae, aq, aorg, ay, ao⟩; rw [e1] at this; omega
          have l2 : rb.length ≤ 121 := by have := applyR_len bad rs ⟨bk, bc, be, bq, borg, by', bo⟩; rw [e2] at this; omega
          have hlen2 : rab.length = rba.length := by rw [← e3, ← e4, ← e1, ← e2]; exact swap_len bad rs _ _ htt
          have hlaw := Lib.hid (show (rab.map Row.t).Nodup → ∀ x ∈ rab, isB rba x.t = true ∧ rowE rba x.t = x by
            rw [← e3, ← e4, ← e1, ← e2]; exact fun hn x hx => swap_rows bad rs _ _ htt hn x hx)
          have H1 := Lib.hid h1
          have H2 := Lib.hid h2
          have H3 := Lib.hid h3
          have H4 := Lib.hid h4
          have E1 := Lib.hid e1
          have E2 := Lib.hid e2
          have E3 := Lib.hid e3
          have E4 := Lib.hid e4
          clear h1 h2 h3 h4 e1 e2 e3 e4 ht htt
          have T0 : Two w3 w1.heap.size gb mb rv rs _ gc mc rc rs bad := ⟨hG3, hH, ⟨by omega, by omega, by omega, by omega⟩, fun k h1 h2 => by have := hlr k h1; have := hcr k h2; omega⟩
          clear hlr hcr hcg hcm hlg hlm hG3 hH
          obtain ⟨x0, x1, x2, x3, x4, x5, x6, y0, y1, y2, y3, y4, y5, y6⟩ := HXY.out
          replace x0 := (hB3.cell (p := ⟨w.heap.size, 0, none⟩) (by simp; omega)).trans x0
          replace x1 := (hB3.cell (p := ⟨w.heap.size, 1, none⟩) (by simp; omega)).trans x1
          replace x2 := (hB3.cell (p := ⟨w.heap.size, 2, none⟩) (by simp; omega)).trans x2
          replace x3 := (hB3.cell (p := ⟨w.heap.size, 3, none⟩) (by simp; omega)).trans x3
          replace x4 := (hB3.cell (p := ⟨w.heap.size, 4, none⟩) (by simp; omega)).trans x4
          replace x5 := (hB3.cell (p := ⟨w.heap.size, 5, none⟩) (by simp; omega)).trans x5
          replace x6 := (hB3.cell (p := ⟨w.heap.size, 6, none⟩) (by simp; omega)).trans x6
          replace y0 := (hB3.cell (p := ⟨w.heap.size + 1, 0, none⟩) (by simp; omega)).trans y0
          replace y1 := (hB3.cell (p := ⟨w.heap.size + 1, 1, none⟩) (by simp; omega)).trans y1
          replace y2 := (hB3.cell (p := ⟨w.heap.size + 1, 2, none⟩) (by simp; omega)).trans y2
          replace y3 := (hB3.cell (p := ⟨w.heap.size + 1, 3, none⟩) (by simp; omega)).trans y3
          replace y4 := (hB3.cell (p := ⟨w.heap.size + 1, 4, none⟩) (by simp; omega)).trans y4
          replace y5 := (hB3.cell (p := ⟨w.heap.size + 1, 5, none⟩) (by simp; omega)).trans y5
          replace y6 := (hB3.cell (p := ⟨w.heap.size + 1, 6, none⟩) (by simp; omega)).trans y6
          go_upto_region 13 with fail
          have hB3d : Below w1.heap.size w1 w3.drew := below_drewN hB3 1
          have hz3 : w1.heap.size ≤ w3.drew.heap.size := hB3d.size
          have T0d := T0.drew
          go_cut [12, 13] (fun v12 v13 wx => v12 = .int .i64 v1 ∧ v13 = .int .i64 v2 ∧ (∃ rg, Two wx w1.heap.size gb mb rg rab _ gc mc rc rs bad) ∧ Below w1.heap.size w1 wx)
          case first =>
            go_region_held3 (fun w' => w'.cell? ⟨w.heap.size, 0, none⟩ = some (.int .u8 ak) ∧ w'.cell? ⟨w.heap.size, 1, none⟩ = some (.int .i64 ac) ∧ w'.cell? ⟨w.heap.size, 2, none⟩ = some (.int .i64 ae) ∧ w'.cell? ⟨w.heap.size, 3, none⟩ = some (.int .i64 aq) ∧ w'.cell? ⟨w.heap.size, 4, none⟩ = some (.int .i64 aorg) ∧ w'.cell? ⟨w.heap.size, 5, none⟩ = some (.bool ay) ∧ w'.cell? ⟨w.heap.size, 6, none⟩ = some (.int .u8 ao) ∧ w'.cell? ⟨w.heap.size + 1, 0, none⟩ = some (.int .u8 bk) ∧ w'.cell? ⟨w.heap.size + 1, 1, none⟩ = some (.int .i64 bc) ∧ w'.cell? ⟨w.heap.size + 1, 2, none⟩ = some (.int .i64 be) ∧ w'.cell? ⟨w.heap.size + 1, 3, none⟩ = some (.int .i64 bq) ∧ w'.cell? ⟨w.heap.size + 1, 4, none⟩ = some (.int .i64 borg) ∧ w'.cell? ⟨w.heap.size + 1, 5, none⟩ = some (.bool by') ∧ w'.cell? ⟨w.heap.size + 1, 6, none⟩ = some (.int .u8 bo))
              (first | exact ⟨x0, x1, x2, x3, x4, x5, x6, y0, y1, y2, y3, y4, y5, y6⟩ | exact ⟨(hB4.cell (p := ⟨w.heap.size, 0, none⟩) (by simp; omega)).trans HXY.out.1, (hB4.cell (p := ⟨w.heap.size, 1, none⟩) (by simp; omega)).trans HXY.out.2.1, (hB4.cell (p := ⟨w.heap.size, 2, none⟩) (by simp; omega)).trans HXY.out.2.2.1, (hB4.cell (p := ⟨w.heap.size, 3, none⟩) (by simp; omega)).trans HXY.out.2.2.2.1, (hB4.cell (p := ⟨w.heap.size, 4, none⟩) (by simp; omega)).trans HXY.out.2.2.2.2.1, (hB4.cell (p := ⟨w.heap.size, 5, none⟩) (by simp; omega)).trans HXY.out.2.2.2.2.2.1, (hB4.cell (p := ⟨w.heap.size, 6, none⟩) (by simp; omega)).trans HXY.out.2.2.2.2.2.2.1, (hB4.cell (p := ⟨w.heap.size + 1, 0, none⟩) (by simp; omega)).trans HXY.out.2.2.2.2.2.2.2.1, (hB4.cell (p := ⟨w.heap.size + 1, 1, none⟩) (by simp; omega)).trans HXY.out.2.2.2.2.2.2.2.2.1, (hB4.cell (p := ⟨w.heap.size + 1, 2, none⟩) (by simp; omega)).trans HXY.out.2.2.2.2.2.2.2.2.2.1, (hB4.cell (p := ⟨w.heap.size + 1, 3, none⟩) (by simp; omega)).trans HXY.out.2.2.2.2.2.2.2.2.2.2.1, (hB4.cell (p := ⟨w.heap.size + 1, 4, none⟩) (by simp; omega)).trans HXY.out.2.2.2.2.2.2.2.2.2.2.2.1, (hB4.cell (p := ⟨w.heap.size + 1, 5, none⟩) (by simp; omega)).trans HXY.out.2.2.2.2.2.2.2.2.2.2.2.2.1, (hB4.cell (p := ⟨w.heap.size + 1, 6, none⟩) (by simp; omega)).trans HXY.out.2.2.2.2.2.2.2.2.2.2.2.2.2⟩ | exact ⟨(hB5.cell (p := ⟨w.heap.size, 0, none⟩) (by simp; omega)).trans HXY.out.1, (hB5.cell (p := ⟨w.heap.size, 1, none⟩) (by simp; omega)).trans HXY.out.2.1, (hB5.cell (p := ⟨w.heap.size, 2, none⟩) (by simp; omega)).trans HXY.out.2.2.1, (hB5.cell (p := ⟨w.heap.size, 3, none⟩) (by simp; omega)).trans HXY.out.2.2.2.1, (hB5.cell (p := ⟨w.heap.size, 4, none⟩) (by simp; omega)).trans HXY.out.2.2.2.2.1, (hB5.cell (p := ⟨w.heap.size, 5, none⟩) (by simp; omega)).trans HXY.out.2.2.2.2.2.1, (hB5.cell (p := ⟨w.heap.size, 6, none⟩) (by simp; omega)).trans HXY.out.2.2.2.2.2.2.1, (hB5.cell (p := ⟨w.heap.size + 1, 0, none⟩) (by simp; omega)).trans HXY.out.2.2.2.2.2.2.2.1, (hB5.cell (p := ⟨w.heap.size + 1, 1, none⟩) (by simp; omega)).trans HXY.out.2.2.2.2.2.2.2.2.1, (hB5.cell (p := ⟨w.heap.size + 1, 2, none⟩) (by simp; omega)).trans HXY.out.2.2.2.2.2.2.2.2.2.1, (hB5.cell (p := ⟨w.heap.size + 1, 3, none⟩) (by simp; omega)).trans HXY.out.2.2.2.2.2.2.2.2.2.2.1, (hB5.cell (p := ⟨w.heap.size + 1, 4, none⟩) (by simp; omega)).trans HXY.out.2.2.2.2.2.2.2.2.2.2.2.1, (hB5.cell (p := ⟨w.heap.size + 1, 5, none⟩) (by simp; omega)).trans HXY.out.2.2.2.2.2.2.2.2.2.2.2.2.1, (hB5.cell (p := ⟨w.heap.size + 1, 6, none⟩) (by simp; omega)).trans HXY.out.2.2.2.2.2.2.2.2.2.2.2.2.2⟩)
              (first
                | (go_at_call 14; refine (apply_own_is v2 rab w1.heap.size gb mb rg1 bad ra ⟨bk, bc, be, bq, borg, by', bo⟩ H3.out E3.out _ (by exact T1.g) (by exact hz4) (by omega) HB.out).mono ?_; rintro r' w5 ⟨rfl, ⟨rg2, hG5, ho5⟩, hO5⟩; have T2 := T1.left hG5 ho5 hO5; have hB5 := T1.g.below hB4 hz4 (Nat.le_refl _) hO5)
                | (go_at_call 14; refine (apply_own_is v1 ra w1.heap.size gb mb rv bad rs ⟨ak, ac, ae, aq, aorg, ay, ao⟩ H1.out E1.out _ (by exact T0d.g) (by exact hz3) (by omega) HA.out).mono ?_; rintro r' w4 ⟨rfl, ⟨rg1, hG4, ho4⟩, hO4⟩; have T1 := T0d.left hG4 ho4 hO4; have hB4 := T0d.g.below hB3d hz3 (Nat.le_refl _) hO4; have hz4 := hB4.size))
            all_goals go_wp2_with fail
            all_goals go_meet
            all_goals (case rel => exact ⟨rfl, rfl, ⟨rg2, T2⟩, hB5⟩)
          case rest =>
            obtain ⟨rfl, rfl, ⟨rg2, T2⟩, hB5⟩ := hcut
            obtain ⟨w6, rfl⟩ : ∃ w6 : World, w6 = wc := ⟨_, rfl⟩
            clear x0 x1 x2 x3 x4 x5 x6 y0 y1 y2 y3 y4 y5 y6 T0 hB3 hb3 hB3d hz3 T0d
            obtain ⟨x0, x1, x2, x3, x4, x5, x6, y0, y1, y2, y3, y4, y5, y6⟩ := HXY.out
            replace x0 := (hB5.cell (p := ⟨w.heap.size, 0, none⟩) (by simp; omega)).trans x0
            replace x1 := (hB5.cell (p := ⟨w.heap.size, 1, none⟩) (by simp; omega)).trans x1
            replace x2 := (hB5.cell (p := ⟨w.heap.size, 2, none⟩) (by simp; omega)).trans x2
            replace x3 := (hB5.cell (p := ⟨w.heap.size, 3, none⟩) (by simp; omega)).trans x3
            replace x4 := (hB5.cell (p := ⟨w.heap.size, 4, none⟩) (by simp; omega)).trans x4
            replace x5 := (hB5.cell (p := ⟨w.heap.size, 5, none⟩) (by simp; omega)).trans x5
            replace x6 := (hB5.cell (p := ⟨w.heap.size, 6, none⟩) (by simp; omega)).trans x6
            replace y0 := (hB5.cell (p := ⟨w.heap.size + 1, 0, none⟩) (by simp; omega)).trans y0
            replace y1 := (hB5.cell (p := ⟨w.heap.size + 1, 1, none⟩) (by simp; omega)).trans y1
            replace y2 := (hB5.cell (p := ⟨w.heap.size + 1, 2, none⟩) (by simp; omega)).trans y2
            replace y3 := (hB5.cell (p := ⟨w.heap.size + 1, 3, none⟩) (by simp; omega)).trans y3
            replace y4 := (hB5.cell (p := ⟨w.heap.size + 1, 4, none⟩) (by simp; omega)).trans y4
            replace y5 := (hB5.cell (p := ⟨w.heap.size + 1, 5, none⟩) (by simp; omega)).trans y5
            replace y6 := (hB5.cell (p := ⟨w.heap.size + 1, 6, none⟩) (by simp; omega)).trans y6
            have hB5d : Below w1.heap.size w1 w6.drew := below_drewN hB5 1
            have S0 := T2.symm.drew
            go_upto_region 14 with fail
            go_cut [14, 15] (fun v14 v15 wx => v14 = .int .i64 v2 ∧ v15 = .int .i64 v1 ∧ (∃ rg rh, Two wx w1.heap.size gb mb rg rab _ gc mc rh rba bad) ∧ Below w1.heap.size w1 wx)
            case first =>
              go_region_held3 (fun w' => w'.cell? ⟨w.heap.size, 0, none⟩ = some (.int .u8 ak) ∧ w'.cell? ⟨w.heap.size, 1, none⟩ = some (.int .i64 ac) ∧ w'.cell? ⟨w.heap.size, 2, none⟩ = some (.int .i64 ae) ∧ w'.cell? ⟨w.heap.size, 3, none⟩ = some (.int .i64 aq) ∧ w'.cell? ⟨w.heap.size, 4, none⟩ = some (.int .i64 aorg) ∧ w'.cell? ⟨w.heap.size, 5, none⟩ = some (.bool ay) ∧ w'.cell? ⟨w.heap.size, 6, none⟩ = some (.int .u8 ao) ∧ w'.cell? ⟨w.heap.size + 1, 0, none⟩ = some (.int .u8 bk) ∧ w'.cell? ⟨w.heap.size + 1, 1, none⟩ = some (.int .i64 bc) ∧ w'.cell? ⟨w.heap.size + 1, 2, none⟩ = some (.int .i64 be) ∧ w'.cell? ⟨w.heap.size + 1, 3, none⟩ = some (.int .i64 bq) ∧ w'.cell? ⟨w.heap.size + 1, 4, none⟩ = some (.int .i64 borg) ∧ w'.cell? ⟨w.heap.size + 1, 5, none⟩ = some (.bool by') ∧ w'.cell? ⟨w.heap.size + 1, 6, none⟩ = some (.int .u8 bo))
                (first | exact ⟨x0, x1, x2, x3, x4, x5, x6, y0, y1, y2, y3, y4, y5, y6⟩ | exact ⟨(hC4.cell (p := ⟨w.heap.size, 0, none⟩) (by simp; omega)).trans HXY.out.1, (hC4.cell (p := ⟨w.heap.size, 1, none⟩) (by simp; omega)).trans HXY.out.2.1, (hC4.cell (p := ⟨w.heap.size, 2, none⟩) (by simp; omega)).trans HXY.out.2.2.1, (hC4.cell (p := ⟨w.heap.size, 3, none⟩) (by simp; omega)).trans HXY.out.2.2.2.1, (hC4.cell (p := ⟨w.heap.size, 4, none⟩) (by simp; omega)).trans HXY.out.2.2.2.2.1, (hC4.cell (p := ⟨w.heap.size, 5, none⟩) (by simp; omega)).trans HXY.out.2.2.2.2.2.1, (hC4.cell (p := ⟨w.heap.size, 6, none⟩) (by simp; omega)).trans HXY.out.2.2.2.2.2.2.1, (hC4.cell (p := ⟨w.heap.size + 1, 0, none⟩) (by simp; omega)).trans HXY.out.2.2.2.2.2.2.2.1, (hC4.cell (p := ⟨w.heap.size + 1, 1, none⟩) (by simp; omega)).trans HXY.out.2.2.2.2.2.2.2.2.1, (hC4.cell (p := ⟨w.heap.size + 1, 2, none⟩) (by simp; omega)).trans HXY.out.2.2.2.2.2.2.2.2.2.1, (hC4.cell (p := ⟨w.heap.size + 1, 3, none⟩) (by simp; omega)).trans HXY.out.2.2.2.2.2.2.2.2.2.2.1, (hC4.cell (p := ⟨w.heap.size + 1, 4, none⟩) (by simp; omega)).trans HXY.out.2.2.2.2.2.2.2.2.2.2.2.1, (hC4.cell (p := ⟨w.heap.size + 1, 5, none⟩) (by simp; omega)).trans HXY.out.2.2.2.2.2.2.2.2.2.2.2.2.1, (hC4.cell (p := ⟨w.heap.size + 1, 6, none⟩) (by simp; omega)).trans HXY.out.2.2.2.2.2.2.2.2.2.2.2.2.2⟩ | exact ⟨(hC5.cell (p := ⟨w.heap.size, 0, none⟩) (by simp; omega)).trans HXY.out.1, (hC5.cell (p := ⟨w.heap.size, 1, none⟩) (by simp; omega)).trans HXY.out.2.1, (hC5.cell (p := ⟨w.heap.size, 2, none⟩) (by simp; omega)).trans HXY.out.2.2.1, (hC5.cell (p := ⟨w.heap.size, 3, none⟩) (by simp; omega)).trans HXY.out.2.2.2.1, (hC5.cell (p := ⟨w.heap.size, 4, none⟩) (by simp; omega)).trans HXY.out.2.2.2.2.1, (hC5.cell (p := ⟨w.heap.size, 5, none⟩) (by simp; omega)).trans HXY.out.2.2.2.2.2.1, (hC5.cell (p := ⟨w.heap.size, 6, none⟩) (by simp; omega)).trans HXY.out.2.2.2.2.2.2.1, (hC5.cell (p := ⟨w.heap.size + 1, 0, none⟩) (by simp; omega)).trans HXY.out.2.2.2.2.2.2.2.1, (hC5.cell (p := ⟨w.heap.size + 1, 1, none⟩) (by simp; omega)).trans HXY.out.2.2.2.2.2.2.2.2.1, (hC5.cell (p := ⟨w.heap.size + 1, 2, none⟩) (by simp; omega)).trans HXY.out.2.2.2.2.2.2.2.2.2.1, (hC5.cell (p := ⟨w.heap.size + 1, 3, none⟩) (by simp; omega)).trans HXY.out.2.2.2.2.2.2.2.2.2.2.1, (hC5.cell (p := ⟨w.heap.size + 1, 4, none⟩) (by simp; omega)).trans HXY.out.2.2.2.2.2.2.2.2.2.2.2.1, (hC5.cell (p := ⟨w.heap.size + 1, 5, none⟩) (by simp; omega)).trans HXY.out.2.2.2.2.2.2.2.2.2.2.2.2.1, (hC5.cell (p := ⟨w.heap.size + 1, 6, none⟩) (by simp; omega)).trans HXY.out.2.2.2.2.2.2.2.2.2.2.2.2.2⟩)
                (first
                  | (go_at_call 14; refine (apply_own_is v1 rba _ gc mc rh1 bad rb ⟨ak, ac, ae, aq, aorg, ay, ao⟩ H4.out E4.out _ (by exact S1.g) (by have := S1.g.low.1; have := S1.g.lt; omega) (by omega) HA.out).mono ?_; rintro r' w8 ⟨rfl, ⟨rh2, hH5, po5⟩, pO5⟩; have S2 := S1.left hH5 po5 pO5; have hC5 := S1.g.below hC4 hC4.size hC pO5)
                  | (go_at_call 14; refine (apply_own_is v2 rb _ gc mc rc bad rs ⟨bk, bc, be, bq, borg, by', bo⟩ H2.out E2.out _ (by exact S0.g) (by have := S0.g.low.1; have := S0.g.lt; omega) (by omega) HB.out).mono ?_; rintro r' w7 ⟨rfl, ⟨rh1, hH4, po4⟩, pO4⟩; have S1 := S0.left hH4 po4 pO4; have hC4 := S0.g.below hB5d hB5d.size hC pO4))
              all_goals go_wp2_with fail
              all_goals go_meet
              all_goals (case rel => exact ⟨rfl, rfl, ⟨rg2, rh2, S2.symm⟩, hC5⟩)
            case rest =>
              obtain ⟨rfl, rfl, ⟨rg, rh, T⟩, hB6⟩ := hcut
              obtain ⟨w9, rfl⟩ : ∃ w9 : World, w9 = wc := ⟨_, rfl⟩
              clear x0 x1 x2 x3 x4 x5 x6 y0 y1 y2 y3 y4 y5 y6 T2 hB5 hB5d S0
              have hz9 := hB6.size
              go_upto_region 17 with (first
                | (go_at_call 11; ((with_reducible refine (rows_any _ gc mc rh bad rba _ (by exact Ta.h)).mono ?_)); rintro e wb ⟨ub, rfl, hWb, hBb⟩; have Tb := Ta.below (Only.of_below hBb); have hB8 := hB7.trans (hBb.mono hB7.size); have hvb := slice_of_owns hWb; rw [← hlen2] at hvb; obtain ⟨ab, cb, rfl⟩ := hvb)
                | (go_at_call 11; ((with_reducible refine (rows_any _ gb mb rg bad rab _ (by exact T.g)).mono ?_)); rintro e wa ⟨ua, rfl, hWa, hBa⟩; have Ta := T.below (Only.of_below hBa); have hB7 := hB6.trans (hBa.mono hz9); obtain ⟨aa, ca, rfl⟩ := slice_of_owns hWa))
              clear T Ta hB6 hB7 hWa hWb hBa hBb hlen2
              have hz8 := hB8.size
              go_upto_region 18 with (go_at_call 11; ((with_reducible refine (rows_any _ gb mb rg bad rab _ (by exact Tb.g)).mono ?_)); rintro e wx ⟨ux, rfl, hWx, hBx⟩)
              have Tx := Tb.below (Only.of_below hBx)
              have hB9 := hB8.trans (hBx.mono hz8)
              obtain ⟨ax, cx, rfl, _, hx'⟩ := RowsV.of hWx Tb.g.few
              have HXC := Lib.hid hx'
              have hlw := Lib.hid (hlaw.out Tx.g.nodup)
              clear hx' Tb hB8 hWx hBx hz8
              go_wp2
              go_loopw [17] (fun v17 wq => ∃ j : Nat, j ≤ rab.length ∧ v17 = .int .i64 j ∧ Only (fun _ => False) wx wq) (fun v17 _ => rab.length - (intOf v17).toNat)
              case atStart => exact ⟨0, by omega, rfl, Only.refl _ _⟩
              case round =>
                obtain ⟨j, hj, rfl, oq⟩ := hrel
                obtain ⟨w5, rfl⟩ : ∃ w5 : World, w5 = wr := ⟨_, rfl⟩
                by_cases hjl : j < rab.length
                · obtain ⟨g, rfl, hx⟩ := HXC.out (by omega)
                  obtain ⟨r, hrj⟩ : ∃ x, rab[j]? = some x := ⟨_, List.getElem?_eq_getElem hjl⟩
                  have n0 := hx j r hrj 0 (by omega)
                  have n1 := hx j r hrj 1 (by omega)
                  have n2 := hx j r hrj 2 (by omega)
                  have n3 := hx j r hrj 3 (by omega)
                  have n4 := hx j r hrj 4 (by omega)
                  have n5 := hx j r hrj 5 (by omega)
                  have n6 := hx j r hrj 6 (by omega)
                  have n7 := hx j r hrj 7 (by omega)
                  have n8 := hx j r hrj 8 (by omega)
                  have n9 := hx j r hrj 9 (by omega)
                  obtain ⟨hi1, hi2⟩ := hlw.out r (List.mem_of_getElem? hrj)
                  have hwf := Lib.hid (Tx.g.wf r (List.mem_of_getElem? hrj))
                  have Tq := Tx.below oq
                  clear hx hrj
                  obtain ⟨pc, pe, pq, pb, po, pv, py, pd, pcm, pl⟩ := r
                  simp only [rowCells, List.getElem?_cons_zero, List.getElem?_cons_succ, Nat.add_zero] at n0 n1 n2 n3 n4 n5 n6 n7 n8 n9
                  simp only [Row.t] at hi1 hi2 hwf
                  replace n0 := oq.cell n0 id
                  replace n1 := oq.cell n1 id
                  replace n2 := oq.cell n2 id
                  replace n3 := oq.cell n3 id
                  replace n4 := oq.cell n4 id
                  replace n5 := oq.cell n5 id
                  replace n6 := oq.cell n6 id
                  replace n7 := oq.cell n7 id
                  replace n8 := oq.cell n8 id
                  replace n9 := oq.cell n9 id
                  have HI1 := Lib.hid hi1
                  have HI2 := Lib.hid hi2
                  clear hi1 hi2
                  go_upto_region 22 with (go_at_call 18; refine (rowL_any _ gc mc rh bad rba (pc, pe, pq) _ (by exact Tq.h) hwf.out).mono ?_; rw [HI1.out, HI2.out]; unfold rowV; dsimp only; rintro e wy ⟨rfl, hBy⟩)
                  have oz := (Only.of_below hBy).alloc (.cells #[.int .i64 pc, .int .i64 pe, .int .i64 pq, .bool pb, .int .u8 po, .int .u8 pv, .int .u8 py, .bool pd, .bool pcm, .int .u8 pl] 43)
                  have hz := heap_alloc_new wy (.cells #[.int .i64 pc, .int .i64 pe, .int .i64 pq, .bool pb, .int .u8 po, .int .u8 pv, .int .u8 py, .bool pd, .bool pcm, .int .u8 pl] 43)
                  clear Tq hBy
                  generalize wy.alloc (.cells #[.int .i64 pc, .int .i64 pe, .int .i64 pq, .bool pb, .int .u8 po, .int .u8 pv, .int .u8 py, .bool pd, .bool pcm, .int .u8 pl] 43) = wz at *
                  have m0 : wz.cell? ⟨wy.heap.size, 0, none⟩ = some (.int .i64 pc) := by simp [World.cell?, hz]
                  have m1 : wz.cell? ⟨wy.heap.size, 1, none⟩ = some (.int .i64 pe) := by simp [World.cell?, hz]
                  have m2 : wz.cell? ⟨wy.heap.size, 2, none⟩ = some (.int .i64 pq) := by simp [World.cell?, hz]
                  have m3 : wz.cell? ⟨wy.heap.size, 3, none⟩ = some (.bool pb) := by simp [World.cell?, hz]
                  have m4 : wz.cell? ⟨wy.heap.size, 4, none⟩ = some (.int .u8 po) := by simp [World.cell?, hz]
                  have m5 : wz.cell? ⟨wy.heap.size, 5, none⟩ = some (.int .u8 pv) := by simp [World.cell?, hz]
                  have m6 : wz.cell? ⟨wy.heap.size, 6, none⟩ = some (.int .u8 py) := by simp [World.cell?, hz]
                  have m7 : wz.cell? ⟨wy.heap.size, 7, none⟩ = some (.bool pd) := by simp [World.cell?, hz]
                  have m8 : wz.cell? ⟨wy.heap.size, 8, none⟩ = some (.bool pcm) := by simp [World.cell?, hz]
                  have m9 : wz.cell? ⟨wy.heap.size, 9, none⟩ = some (.int .u8 pl) := by simp [World.cell?, hz]
                  replace n0 := oz.cell n0 id
                  replace n1 := oz.cell n1 id
                  replace n2 := oz.cell n2 id
                  replace n3 := oz.cell n3 id
                  replace n4 := oz.cell n4 id
                  replace n5 := oz.cell n5 id
                  replace n6 := oz.cell n6 id
                  replace n7 := oz.cell n7 id
                  replace n8 := oz.cell n8 id
                  replace n9 := oz.cell n9 id
                  go_quiet (fail)
                  go_wp2
                  exact ⟨⟨j + 1, by omega, by go_num, (oq.trans oz).drewN _⟩, by simp [intOf]; omega⟩
                · go_wp2_with (go_at_call 7; refine (aliveL_any _).mono ?_; rintro e w' ⟨rfl, hBA⟩)
                  go_ret
                  exact ⟨rfl, alv _ _ (hB1.trans ((hB9.trans (oq.below hB9.size (fun _ e => e.elim))).mono hB1.size)) hBA⟩
end Go.Proofs.Ytliakamlgjoabaa
