/- The walk of PeerOnce. -/
import Derived.Test.YtmmaankgoinijaaPeerS
import Derived.Test.YtmmaankgoinijaaPeerMath
import Derived.Deep.CutRange
import Derived.Deep.DeepCutAuto
import Derived.Maps.AppendAt
namespace Go.Proofs.Ytmmaankgoinijaa
open Go.RowKit

def stepCells (q : Int × Int × Int) : List Value := [.int .u8 0, .int .i64 q.1, .int .i64 q.2.1, .int .i64 q.2.2]

theorem hearT_own (s : PS) (x : Int) : (hearT s x).own = s.own := by
  unfold hearT hearS
  split
  · split <;> rfl
  · rfl
theorem takeS_own (s : PS) (x y n : Int) : (takeS s x y n).own = s.own := by
  unfold takeS
  split
  · rfl
  · show (hearS s x).own = _
    unfold hearS
    split <;> rfl

theorem flat_at (took : List (Int × Int × Int)) (j : Nat) (h : j < took.length) (i : Nat) (hi : i < 4) : (took.flatMap stepCells)[j * 4 + i]? = (stepCells (took.getD j (0, 0, 0)))[i]? := by
  induction took generalizing j with
  | nil => simp at h
  | cons q took ih =>
    cases j with
    | zero =>
      rw [List.flatMap_cons, List.getElem?_append_left (by simp [stepCells]; omega)]
      simp
    | succ j =>
      rw [List.flatMap_cons, List.getElem?_append_right (by simp [stepCells]; omega)]
      have := ih j (by simpa using h)
      rw [show (j + 1) * 4 + i - (stepCells q).length = j * 4 + i from by simp [stepCells]; omega, this]
      simp

theorem owns_quad {w : World} {base e cap : Nat} {a : Option Addr} {took : List (Int × Int × Int)} (h : w.ownsRow base e 4 (.slice a took.length cap) took.length (took.flatMap stepCells)) :
    0 < took.length → ∃ g, a = some ⟨g, 0, none⟩ ∧ ∀ j, j < took.length → w.cell? ⟨g, j * 4, none⟩ = some (.int .u8 0) ∧ w.cell? ⟨g, j * 4 + 1, none⟩ = some (.int .i64 (took.getD j (0, 0, 0)).1) ∧ w.cell? ⟨g, j * 4 + 2, none⟩ = some (.int .i64 (took.getD j (0, 0, 0)).2.1) ∧ w.cell? ⟨g, j * 4 + 3, none⟩ = some (.int .i64 (took.getD j (0, 0, 0)).2.2) := by
  intro hp
  rcases h.2 with ⟨h1, h2⟩ | ⟨g, cap', cur, h1, _, hg, _, _, _, ht⟩
  · omega
  · injection h1 with h1 _ _
    refine ⟨g, h1, fun j hj => ?_⟩
    have key : ∀ i, i < 4 → w.cell? ⟨g, j * 4 + i, none⟩ = (stepCells (took.getD j (0, 0, 0)))[i]? := by
      intro i hi
      rw [cell_of_row w g (j * 4 + i) cur e (0, 0) hg, ← flat_at took j hj i hi, ← ht, List.getElem?_take, if_pos (by omega)]
      simp
    exact ⟨key 0 (by omega), key 1 (by omega), key 2 (by omega), key 3 (by omega)⟩

theorem step_ne (a b c x y n : Int) (h : ¬ (a, b, c) = (x, y, n)) (w : World) : (binOp .eql 30 (.agg #[.int .u8 0, .int .i64 a, .int .i64 b, .int .i64 c]) (.agg #[.int .u8 0, .int .i64 x, .int .i64 y, .int .i64 n])).run Try.prog w = .ok (.bool false) w := by
  have h' : ¬ (a = x ∧ b = y ∧ c = n) := by simpa using h
  by_cases h1 : a = x
  · by_cases h2 : b = y
    · have h3 : ¬ c = n := fun h3 => h' ⟨h1, h2, h3⟩
      simp [go_sem, h1, h2, h3]
    · simp [go_sem, h1, h2]
  · simp [go_sem, h1]

theorem cells_new (w : World) (xs : List Value) (t : TypeId) : ∀ j u, xs[j]? = some u → (w.alloc (.cells xs.toArray t)).cell? ((⟨w.heap.size, 0, none⟩ : Addr).add j) = some u := by
  intro j u hj
  have e : (⟨w.heap.size, 0, none⟩ : Addr).add j = ⟨w.heap.size, j, none⟩ := by unfold Addr.add; split <;> simp_all
  rw [e, cell_of_row _ _ j _ _ _ (heap_alloc_new w _)]
  simpa using hj

theorem infoStep : (Try.prog.info? 30).map (fun i => (i.zero, i.size, i.bytes)) = some (some (.agg #[.int .u8 0, .int .i64 0, .int .i64 0, .int .i64 0]), 4, 32) := by kernel_rfl

/-- The rows that came in: their cells, each below B. -/
structure InOnce (w : World) (B : Nat) (a0 : Option Addr) (n0 : Nat) (a1 : Option Addr) (n1 : Nat) (lv : Nat → Int) (dd ff tt nn : Nat → Int) : Prop where
  r0 : 0 < n0 → ∃ b o, a0 = some ⟨b, o, none⟩ ∧ b < B ∧ ∀ i, i < n0 → w.cell? ⟨b, o + i, none⟩ = some (.int .u8 (lv i))
  r1 : 0 < n1 → ∃ b o, a1 = some ⟨b, o, none⟩ ∧ b < B ∧ ∀ i, i < n1 → w.cell? ⟨b, o + i * 4, none⟩ = some (.int .u8 (dd i)) ∧ w.cell? ⟨b, o + i * 4 + 1, none⟩ = some (.int .i64 (ff i)) ∧ w.cell? ⟨b, o + i * 4 + 2, none⟩ = some (.int .i64 (tt i)) ∧ w.cell? ⟨b, o + i * 4 + 3, none⟩ = some (.int .i64 (nn i))
  b0 : ∀ i, i < n0 → 0 ≤ lv i ∧ lv i ≤ 255
  b1 : ∀ i, i < n1 → (0 ≤ dd i ∧ dd i ≤ 255) ∧ (-9223372036854775808 ≤ nn i ∧ nn i ≤ 9223372036854775807)

set_option maxHeartbeats 2000000 in
set_option maxRecDepth 100000 in
theorem ponce_any (a0 a1 : Option Addr) (n0 c0 n1 c1 : Nat) (lv dd ff tt nn : Nat → Int) (w : World) (h0 : n0 ≤ maxLen) (h1 : n1 ≤ maxLen) (hin : InOnce w w.heap.size a0 n0 a1 n1 lv dd ff tt nn) :
    Calls Try.prog 3 #[.slice a0 n0 c0, .slice a1 n1 c1] w fun e w' => e = .returned (.bool true) ∧ Below w.heap.size w w' := by
  unfold maxLen at h0 h1
  obtain ⟨i0, hi, hz0, hz1, hz2⟩ := info_parts infoStep
  by_cases hl : 250 < n1
  · go_enter Try.func3, Try.ntmps3
    go_wp2_with (go_at_call 6; refine (alive_any _).mono ?_; rintro e w' ⟨rfl, hB⟩)
    go_ret
    exact ⟨rfl, hB⟩
  · have hl' : n1 ≤ 250 := by omega
    clear hl
    by_cases hv : 60 < n0
    · go_enter Try.func3, Try.ntmps3
      go_wp2_with (go_at_call 6; refine (alive_any _).mono ?_; rintro e w' ⟨rfl, hB⟩)
      go_ret
      exact ⟨rfl, hB⟩
    · have hv' : n0 ≤ 60 := by omega
      clear hv
      go_enter Try.func3, Try.ntmps3
      go_wp2_with (go_at_call 7; refine (newPeer_yes 1 _ (by decide) (by decide)).mono ?_; rintro e w' ⟨rfl, hP, hB⟩)
      have hsz := hB.size
      have hpl := hP.lt
      go_loopw [5, 6, 7, 9, 10] (fun vo vl vp vt vi wr => ∃ (k pb bw m : Nat) (left : Int) (s : PS) (took : List (Int × Int × Int)), k ≤ n1 ∧ vi = .int .i64 k ∧ vo = .int .i64 ((m : Int) + 1) ∧ m ≤ n0 ∧ s.own = (m : Int) + 1 ∧ vl = .int .i64 left ∧ 0 ≤ left ∧ left ≤ 20 ∧ vp = .pointer (some ⟨pb, 0, none⟩) ∧
          w.heap.size ≤ pb ∧ w.heap.size ≤ bw ∧ PeerAt wr pb bw s ∧ took.length ≤ k ∧ PInv s took ∧ wr.ownsRow w.heap.size 30 4 vt took.length (took.flatMap stepCells) ∧ Below w.heap.size w wr)
        (fun _ _ _ _ vi _ => n1 - (intOf vi).toNat)
      case atStart => exact ⟨0, _, _, 0, 0, ps0 1, [], by omega, rfl, rfl, by omega, rfl, rfl, by omega, by omega, rfl, by omega, by omega, hP, by simp, PInv.start 1 (by omega) (by omega), World.ownsRow_nil _ _ _ _, hB⟩
      case round =>
        obtain ⟨k, pb, bw, m, left, s, took, hk, rfl, rfl, ho2, hso, rfl, hl1, hl2, rfl, hpb, hbw, hP, htl, hinv, hown, hB⟩ := hrel
        by_cases hlt : k < n1
        · go_upto_region 11 with fail
          go_cut [46] from 33 to 129 (fun c wx => c = .bool (decide (left = 0 ∧ m < n0)) ∧ wx = wr)
          case first =>
            by_cases hz : left = 0
            · subst hz
              go_wp2
              go_meet
              case rel => exact ⟨by simp; omega, rfl⟩
            · go_wp2
              go_meet
              case rel => exact ⟨by simp [hz], rfl⟩
          case rest =>
            obtain ⟨rfl, rfl⟩ := hcut
            go_upto_if 46 with fail
            go_cut [5, 6, 7, 8] from 33 to 129 (fun vo vl vp _ wx => ∃ (pb bw m : Nat) (left : Int) (s : PS), vo = .int .i64 ((m : Int) + 1) ∧ m ≤ n0 ∧ s.own = (m : Int) + 1 ∧ vl = .int .i64 left ∧ 0 ≤ left ∧ left ≤ 20 ∧ vp = .pointer (some ⟨pb, 0, none⟩) ∧
              w.heap.size ≤ pb ∧ w.heap.size ≤ bw ∧ PeerAt wx pb bw s ∧ PInv s took ∧ wx.ownsRow w.heap.size 30 4 u9 took.length (took.flatMap stepCells) ∧ Below w.heap.size w wx)
            case first =>
              by_cases hnew : left = 0 ∧ m < n0
              · obtain ⟨hz, hle⟩ := hnew
                subst hz
                have hd : decide ((0 : Int) = 0 ∧ m < n0) = true := by simp; omega
                rw [hd]
                clear hd
                obtain ⟨b, o, rfl, hbb, hc⟩ := hin.r0 (by omega)
                have hcl := (hB.cell (p := ⟨b, o + m, none⟩) hbb).trans (hc m (by omega))
                have hbd := hin.b0 m (by omega)
                generalize lv m = z at hcl hbd
                obtain ⟨hbd1, hbd2⟩ := hbd
                clear hc
                go_wp2_with (go_at_call 7; refine (newPeer_yes ((m : Int) + 1 + 1) _ (by omega) (by omega)).mono ?_; rintro e w' ⟨rfl, hP', hB'⟩)
                go_meet
                case rel => exact ⟨wc.heap.size + 1 + 1, wc.heap.size + 1, m + 1, _, _, by go_num, by omega, by show (m : Int) + 1 + 1 = _; omega, rfl, by omega, by omega, rfl, by have := hB.size; omega, by have := hB.size; omega, hP', hinv.life _ (by omega) (by omega), (Only.of_below hB').owns hown (fun _ _ => id), hB.trans (hB'.mono hB.size)⟩
              · have hd : decide (left = 0 ∧ m < n0) = false := by simpa using hnew
                go_wp2
                go_meet
                case rel => exact ⟨pb, bw, m, left, s, rfl, ho2, hso, rfl, hl1, hl2, rfl, hpb, hbw, hP, hinv, hown, hB⟩
            case rest =>
              clear hso hl1 hl2 hpb hbw hP hinv hown hB
              obtain ⟨pb, bw, m, left, s, rfl, ho2, hso, rfl, hl1, hl2, rfl, hpb, hbw, hP, hinv, hown, hB⟩ := hcut
              obtain ⟨b, o, rfl, hbb, hc⟩ := hin.r1 (by omega)
              obtain ⟨x0, x1, x2, x3⟩ := hc k hlt
              obtain ⟨⟨bd1, bd2⟩, bd3⟩ := hin.b1 k hlt
              replace x0 := (hB.cell (p := ⟨b, o + k * 4, none⟩) hbb).trans x0
              replace x1 := (hB.cell (p := ⟨b, o + k * 4 + 1, none⟩) hbb).trans x1
              replace x2 := (hB.cell (p := ⟨b, o + k * 4 + 2, none⟩) hbb).trans x2
              replace x3 := (hB.cell (p := ⟨b, o + k * 4 + 3, none⟩) hbb).trans x3
              clear hc
              generalize dd k = d at x0 bd1 bd2
              generalize ff k = x at x1
              generalize tt k = y at x2
              generalize nn k = n at x3 bd3
              go_upto_region 17 with fail
              go_cut [6] from 33 to 129 (fun v wx => ∃ l' : Int, v = .int .i64 l' ∧ 0 ≤ l' ∧ l' ≤ 20 ∧ wx = wc)
              case first =>
                go_wp2
                all_goals go_meet
                all_goals (case rel => exact ⟨_, rfl, by omega, by omega, rfl⟩)
              case rest =>
                obtain ⟨l', rfl, hl1', hl2', rfl⟩ := hcut
                clear hl1 hl2
                have oX := (Only.refl (fun _ : Nat => False) wc).alloc (.cells #[.int .u8 0, .int .i64 0, .int .i64 0, .int .i64 0] 30)
                have z1 := oX.cell x1 id
                have z2 := oX.cell x2 id
                have z3 := oX.cell x3 id
                go_upto_region 18 with fail
                go_cut [11] from 33 to 129 (fun v wx => v = .pointer (some ⟨wc.heap.size, 0, none⟩) ∧ wx = (wc.alloc (.cells #[.int .u8 0, .int .i64 x, .int .i64 y, .int .i64 n] 30)).drew)
                case first =>
                  go_region
                  all_goals go_wp2_with fail
                  all_goals go_meet
                  all_goals (case rel => exact ⟨rfl, rfl⟩)
                case rest =>
                  obtain ⟨rfl, rfl⟩ := hcut
                  clear oX z1 z2 z3
                  have oX := ((Only.refl (fun _ : Nat => False) wc).alloc (.cells #[.int .u8 0, .int .i64 x, .int .i64 y, .int .i64 n] 30)).drew
                  have hX : (wc.alloc (.cells #[.int .u8 0, .int .i64 x, .int .i64 y, .int .i64 n] 30)).drew.heap[wc.heap.size]? = some (.cells #[.int .u8 0, .int .i64 x, .int .i64 y, .int .i64 n] 30 (0, 0)) := heap_alloc_new wc _
                  replace hP := hP.kept oX id id
                  have hown' := hown
                  have hsz' := hB.size
                  replace hown := oX.owns hown (fun _ _ => id)
                  replace x0 := oX.cell x0 id
                  have hobx : ∀ j, u9.ownBlock = some j → j ≠ wc.heap.size := fun j hj => by have := (hown'.lt j hj).2; omega
                  replace hB := hB.trans ((Below.refl w.heap.size wc).trans (oX.below hB.size (fun _ h => h.elim)))
                  clear x1 x2 x3 oX
                  have hxs : w.heap.size ≤ wc.heap.size := hsz'
                  generalize (wc.alloc (.cells #[.int .u8 0, .int .i64 x, .int .i64 y, .int .i64 n] 30)).drew = W at *
                  generalize wc.heap.size = xb at *
                  have hX1 : W.cell? ⟨xb, 1, none⟩ = some (.int .i64 x) := by simp [World.cell?, hX]
                  have hX2 : W.cell? ⟨xb, 2, none⟩ = some (.int .i64 y) := by simp [World.cell?, hX]
                  have hX3 : W.cell? ⟨xb, 3, none⟩ = some (.int .i64 n) := by simp [World.cell?, hX]
                  by_cases hd1 : d = 1
                  · subst hd1
                    go_wp2_with (go_at_call 8; refine (hear_any pb bw s x _ (by exact hP) hinv.bd).mono ?_; rintro e w' ⟨rfl, bw', hbw', hP', ho'⟩)
                    have hrb : ∀ j, u9.ownBlock = some j → ¬ j = pb := row_ne hown hP.1 (by decide)
                    exact ⟨⟨k + 1, pb, bw', m, l', hearT s x, took, by omega, by go_num, rfl, ho2, by rw [hearT_own]; exact hso, rfl, hl1', hl2', rfl, hpb, by have := hB.size; rcases hbw' with h | h <;> omega, hP', by omega, hinv.hear x, ho'.owns hown hrb, hB.trans (ho'.below hB.size (fun j e => by omega))⟩, by simp [intOf]; omega⟩
                  · by_cases hd0 : d = 0
                    · subst hd0
                      by_cases hv : takeV s x y n = 0
                      · have hyes := hinv.take_yes x y n hv
                        have HV := Lib.hid hv
                        clear hv
                        obtain ⟨a, cap', rfl⟩ := ownsRow_slice hown
                        have hrb : ∀ j, (Value.slice a took.length cap').ownBlock = some j → ¬ (j = pb ∨ j = bw) := fun j hj e => e.elim (row_ne hown hP.1 (by decide) j hj) (row_ne hown hP.2 (by decide) j hj)
                        have hxp : ¬ (xb = pb ∨ xb = bw) := fun e => e.elim (block_ne hX hP.1 (by decide)) (block_ne hX hP.2 (by decide))
                        go_wp2_with (go_at_call 9; refine (takeP_any pb bw s x y n _ (by exact hP) hinv.bd bd3).mono ?_; rw [HV.out]; rintro e w' ⟨rfl, bw', hbw', hP', ho'⟩)
                        replace hX := ho'.obj hX hxp
                        replace hown := ho'.owns hown hrb
                        have hbw2 : w.heap.size ≤ bw' := by have := hB.size; rcases hbw' with h | h <;> omega
                        replace hB := hB.trans (ho'.below hB.size (fun j e => by omega))
                        have hY1 : w'.cell? ⟨xb, 0, none⟩ = some (.int .u8 0) := by simp [World.cell?, hX]
                        replace hX1 : w'.cell? ⟨xb, 1, none⟩ = some (.int .i64 x) := by simp [World.cell?, hX]
                        replace hX2 : w'.cell? ⟨xb, 2, none⟩ = some (.int .i64 y) := by simp [World.cell?, hX]
                        replace hX3 : w'.cell? ⟨xb, 3, none⟩ = some (.int .i64 n) := by simp [World.cell?, hX]
                        obtain ⟨hnm, hyes⟩ := hyes
                        have hnm := Lib.hid hnm
                        clear hP x0 ho' hrb hxp
                        have hq := owns_quad hown
                        go_loopw [12] (fun vj wr => ∃ (j q : Nat), j ≤ took.length ∧ vj = .int .i64 j ∧ wr = w'.drewN q) (fun vj _ => took.length - (intOf vj).toNat)
                        case atStart => exact ⟨0, 0, by omega, rfl, rfl⟩
                        case round =>
                          obtain ⟨j, q, hj, rfl, rfl⟩ := hrel
                          by_cases hjl : j < took.length
                          · obtain ⟨g, rfl, hc⟩ := hq (by omega)
                            obtain ⟨c0, c1, c2, c3⟩ := hc j hjl
                            have hne : ¬ ((took.getD j (0, 0, 0)).1, (took.getD j (0, 0, 0)).2.1, (took.getD j (0, 0, 0)).2.2) = (x, y, n) := fun e => hnm.out (by
                                rw [← e]
                                show took.getD j (0, 0, 0) ∈ took
                                rw [List.getD_eq_getElem?_getD, List.getElem?_eq_getElem hjl]
                                exact List.getElem_mem _)
                            have hE := step_ne _ _ _ x y n hne
                            clear hc hq hne
                            generalize (took.getD j (0, 0, 0)).1 = q1 at *
                            generalize (took.getD j (0, 0, 0)).2.1 = q2 at *
                            generalize (took.getD j (0, 0, 0)).2.2 = q3 at *
                            go_wp2
                            go_quiet (fail)
                            go_wp2
                            exact ⟨⟨j + 1, _, by omega, by go_num, rfl⟩, by simp [intOf]; omega⟩
                          · have hown4 := hown.drewN q
                            go_wp2_with (at_builtin; refine wpList_append_own _ rfl _ _ 23 rfl w.heap.size 30 i0 (.agg #[.int .u8 0, .int .i64 0, .int .i64 0, .int .i64 0]) 4 32 Try.underlying23 hi hz0 hz1 hz2 rfl (by decide) _ _ _ rfl (hown4.alloc _) ⟨w'.heap.size, 0, none⟩ 1 1 (stepCells (x, y, n)) rfl rfl (cells_new _ _ _) (by simp [stepCells, Value.oneCell']) (by unfold maxLen; omega) (by omega) (by have := hB.size; simp; omega) ?_; intro v' w1 hown' hgrow _)
                            have hu : ∀ z, (Value.slice a took.length cap').ownBlock = some z → z < w'.heap.size ∧ w.heap.size ≤ z := fun z hz => ⟨(hown.lt z hz).2, (hown.lt z hz).1⟩
                            have hg2 : Only (fun z => (Value.slice a took.length cap').ownBlock = some z) w' w1 := (((Only.refl _ w').drewN q).alloc _).grown hgrow (fun z e => e)
                            exact ⟨⟨k + 1, pb, bw', m, l', takeS s x y n, took ++ [(x, y, n)], by omega, by go_num, rfl, ho2, by rw [takeS_own]; exact hso, rfl, hl1', hl2', rfl, hpb, hbw2, hP'.kept hg2 (fun e => row_ne hown hP'.1 (by decide) _ e rfl) (fun e => row_ne hown hP'.2 (by decide) _ e rfl), by simp; omega, hyes, by simpa [List.flatMap_append] using hown', hB.trans (hg2.below hB.size (fun z e => (hu z e).2))⟩, by simp [intOf]; omega⟩
                      · have hno := hinv.take_no x y n hv
                        have hv' : (takeV s x y n != 0) = true := by simpa using hv
                        go_wp2_with (go_at_call 9; refine (takeP_any pb bw s x y n _ (by exact hP) hinv.bd bd3).mono ?_; rintro e w' ⟨rfl, bw', hbw', hP', ho'⟩)
                        have hrb : ∀ j, u9.ownBlock = some j → ¬ (j = pb ∨ j = bw) := fun j hj e => e.elim (row_ne hown hP.1 (by decide) j hj) (row_ne hown hP.2 (by decide) j hj)
                        exact ⟨⟨k + 1, pb, bw', m, l', takeS s x y n, took, by omega, by go_num, rfl, ho2, by rw [takeS_own]; exact hso, rfl, hl1', hl2', rfl, hpb, by have := hB.size; rcases hbw' with h | h <;> omega, hP', by omega, hno, ho'.owns hown hrb, hB.trans (ho'.below hB.size (fun j e => by omega))⟩, by simp [intOf]; omega⟩
                    · go_wp2
                      exact ⟨⟨k + 1, pb, bw, m, l', s, took, by omega, by go_num, rfl, ho2, hso, rfl, hl1', hl2', rfl, hpb, hbw, hP, by omega, hinv, hown, hB⟩, by simp [intOf]; omega⟩
        · go_wp2_with (go_at_call 6; refine (alive_any _).mono ?_; rintro e w' ⟨rfl, hB2⟩)
          go_ret
          exact ⟨rfl, hB.trans (hB2.mono hB.size)⟩
end Go.Proofs.Ytmmaankgoinijaa
