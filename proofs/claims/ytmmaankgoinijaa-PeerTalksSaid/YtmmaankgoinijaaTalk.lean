/- The walk of PeerTalks. -/
import Derived.Test.YtmmaankgoinijaaPeerS
import Derived.Test.YtmmaankgoinijaaTalkMath
import Derived.Test.YtmmaankgoinijaaPeerMath
import Derived.Deep.CutRange
import Derived.Deep.DeepCutAuto
import Derived.Deep.RegionHeld3
import Derived.Maps.AppendAt
namespace Go.Proofs.Ytmmaankgoinijaa
open Go.RowKit

theorem own_any (p bw : Nat) (s : PS) (w : World) (hP : PeerAt w p bw s) : Calls Try.prog 10 #[.pointer (some ⟨p, 0, none⟩)] w fun e w' => e = .returned (.int .i64 s.own) ∧ w = w' := by
  obtain ⟨c0, c1, c2, c3⟩ := hP.cells
  go_enter Try.func10, Try.ntmps10
  go_wp2
  go_ret
  exact ⟨rfl, rfl⟩

def tc (A B : Int) (n : Int) : List Value := [.int .i64 A, .int .i64 B, .int .i64 n]

theorem flat3 (A B : Int) (l : List Int) (j : Nat) (h : j < l.length) (i : Nat) (hi : i < 3) : (l.flatMap (tc A B))[j * 3 + i]? = (tc A B (l.getD j 0))[i]? := by
  induction l generalizing j with
  | nil => simp at h
  | cons q l ih =>
    cases j with
    | zero =>
      rw [List.flatMap_cons, List.getElem?_append_left (by simp [tc]; omega)]
      simp
    | succ j =>
      rw [List.flatMap_cons, List.getElem?_append_right (by simp [tc]; omega)]
      have := ih j (by simpa using h)
      rw [show (j + 1) * 3 + i - (tc A B q).length = j * 3 + i from by simp [tc]; omega, this]
      simp

theorem owns_tri {w : World} {base e cap : Nat} {a : Option Addr} {A B : Int} {l : List Int} (h : w.ownsRow base e 3 (.slice a l.length cap) l.length (l.flatMap (tc A B))) :
    0 < l.length → ∃ g, a = some ⟨g, 0, none⟩ ∧ ∀ j, j < l.length → w.cell? ⟨g, j * 3, none⟩ = some (.int .i64 A) ∧ w.cell? ⟨g, j * 3 + 1, none⟩ = some (.int .i64 B) ∧ w.cell? ⟨g, j * 3 + 2, none⟩ = some (.int .i64 (l.getD j 0)) := by
  intro hp
  rcases h.2 with ⟨h1, h2⟩ | ⟨g, cap', cur, h1, _, hg, _, _, _, ht⟩
  · omega
  · injection h1 with h1 _ _
    refine ⟨g, h1, fun j hj => ?_⟩
    have key : ∀ i, i < 3 → w.cell? ⟨g, j * 3 + i, none⟩ = (tc A B (l.getD j 0))[i]? := by
      intro i hi
      rw [cell_of_row w g (j * 3 + i) cur e (0, 0) hg, ← flat3 A B l j hj i hi, ← ht, List.getElem?_take, if_pos (by omega)]
      simp
    exact ⟨key 0 (by omega), key 1 (by omega), key 2 (by omega)⟩

theorem cells_new (w : World) (xs : List Value) (t : TypeId) : ∀ j u, xs[j]? = some u → (w.alloc (.cells xs.toArray t)).cell? ((⟨w.heap.size, 0, none⟩ : Addr).add j) = some u := by
  intro j u hj
  have e : (⟨w.heap.size, 0, none⟩ : Addr).add j = ⟨w.heap.size, j, none⟩ := by unfold Addr.add; split <;> simp_all
  rw [e, cell_of_row _ _ j _ _ _ (heap_alloc_new w _)]
  simpa using hj

theorem infoTri : (Try.prog.info? 38).map (fun i => (i.zero, i.size, i.bytes)) = some (some (.agg #[.int .i64 0, .int .i64 0, .int .i64 0]), 3, 24) := by kernel_rfl

/-- What is copied of the way, but place k, behind j rounds. -/
def restTo (way : List Int) (k j : Nat) : List Int := (way.take j).eraseIdx k
theorem restTo_zero (way : List Int) (k : Nat) : restTo way k 0 = [] := by simp [restTo]
theorem restTo_all (way : List Int) (k : Nat) : restTo way k way.length = way.eraseIdx k := by simp [restTo]
theorem restTo_at (way : List Int) (k : Nat) (h : k < way.length) : restTo way k (k + 1) = restTo way k k := by
  unfold restTo
  rw [List.take_succ_eq_append_getElem h, List.eraseIdx_append_of_length_le (by simp; omega)]
  simp [List.length_take, Nat.min_eq_left (Nat.le_of_lt h), List.eraseIdx_of_length_le]
theorem restTo_other (way : List Int) (k j : Nat) (h : j < way.length) (hne : j ≠ k) : restTo way k (j + 1) = restTo way k j ++ [way.getD j 0] := by
  unfold restTo
  rw [List.take_succ_eq_append_getElem h]
  have e : way.getD j 0 = way[j] := by rw [List.getD_eq_getElem?_getD, List.getElem?_eq_getElem h]; rfl
  rw [e]
  rcases Nat.lt_or_gt_of_ne hne with hlt | hgt
  · rw [List.eraseIdx_append_of_length_le (by simp; omega), List.eraseIdx_of_length_le (l := way.take j) (by simp; omega), List.eraseIdx_of_length_le (by simp; omega)]
  · rw [List.eraseIdx_append_of_lt_length (by simp; omega)]
theorem restTo_length (way : List Int) (k j : Nat) : (restTo way k j).length ≤ j := by
  unfold restTo
  have := (List.eraseIdx_sublist (way.take j) k).length_le
  simp at this
  omega

theorem hearXY (A B : Int) (h3 : 1 ≤ B) (h4 : B ≤ 255) : hearV (ps0 A) B = 0 ∧ hearT (ps0 A) B = ⟨A, B, 0, 0, 0⟩ := by
  have e : hearV (ps0 A) B = 0 := by
    have hk : (ps0 A).known = 1 := rfl
    unfold hearV
    rw [if_neg (by simp [okE]; omega), hk, if_neg (by omega)]
  refine ⟨e, ?_⟩
  unfold hearT
  rw [if_pos e]
  unfold hearS
  split
  · rfl
  · rename_i hh
    have hk : (ps0 A).known = 1 := rfl
    rw [hk] at hh
    have : B = 1 := by omega
    rw [this]
    rfl

theorem talk_facts (A B t g n : Int) (hA1 : 1 ≤ A) (hA2 : A ≤ 255) (hB1 : 1 ≤ B) (hB2 : B ≤ 255) (hn1 : 1 ≤ n) (hn2 : n ≤ 65535) (h4 : mayV t g n = 0) (h5 : mayV (nxtT t g n) (nxtG t g n) n = 9)
    (hw : 0 ≤ t ∧ t ≤ 65535 ∧ (t = 0 → g = 0)) (hw' : 0 ≤ nxtT t g n ∧ nxtT t g n ≤ 65535 ∧ (nxtT t g n = 0 → nxtG t g n = 0)) :
    (PBd ⟨B, A, 0, t, g⟩ ∧ takeV ⟨B, A, 0, t, g⟩ A B n = 0 ∧ takeS ⟨B, A, 0, t, g⟩ A B n = ⟨B, A, 0, nxtT t g n, nxtG t g n⟩) ∧
    PBd ⟨B, A, 0, nxtT t g n, nxtG t g n⟩ ∧ takeV ⟨B, A, 0, nxtT t g n, nxtG t g n⟩ A B n = 9 ∧ takeS ⟨B, A, 0, nxtT t g n, nxtG t g n⟩ A B n = ⟨B, A, 0, nxtT t g n, nxtG t g n⟩ := by
  have k1 : okE A = true := by simp [okE]; omega
  have k2 : okE B = true := by simp [okE]; omega
  have k3 : okN n = true := by simp [okN]; omega
  have hh : ∀ T G, hearS ⟨B, A, 0, T, G⟩ A = ⟨B, A, 0, T, G⟩ := fun T G => by unfold hearS; rw [if_neg (by dsimp only; omega)]
  have hv : ∀ T G, takeV ⟨B, A, 0, T, G⟩ A B n = mayV T G n := fun T G => by
    unfold takeV
    rw [k1, k2, k3, if_neg (by simp), if_neg (by simp), if_neg (by dsimp only; omega), hh]
  have hs : ∀ T G, takeS ⟨B, A, 0, T, G⟩ A B n = ⟨B, A, 0, nxtT T G n, nxtG T G n⟩ := fun T G => by
    unfold takeS
    rw [k1, k2, k3, if_neg (by simp), hh]
    rfl
  have hn : ¬ mayV (nxtT t g n) (nxtG t g n) n = 0 := by omega
  refine ⟨⟨⟨hB1, hB2, hA1, hA2, Int.le_refl 0, (by omega : (0 : Int) ≤ 65535), hw.1, hw.2.1, hw.2.2⟩, (hv t g).trans h4, hs t g⟩, ⟨hB1, hB2, hA1, hA2, Int.le_refl 0, (by omega : (0 : Int) ≤ 65535), hw'.1, hw'.2.1, hw'.2.2⟩, (hv _ _).trans h5, (hs _ _).trans ?_⟩
  generalize nxtT t g n = T at *
  generalize nxtG t g n = G at *
  rw [show nxtT T G n = T by unfold nxtT; rw [if_neg (fun e => hn e.1)], show nxtG T G n = G by unfold nxtG; rw [if_neg hn]]

set_option maxRecDepth 100000 in
set_option maxHeartbeats 4000000 in
theorem talk_any (x0 y0 : Int) (a2 : Option Addr) (n2 c2 : Nat) (od : Nat → Int) (w : World) (hx : 0 ≤ x0 ∧ x0 ≤ 255) (hy : 0 ≤ y0 ∧ y0 ≤ 255) (hm : n2 ≤ maxLen)
    (hin : 0 < n2 → ∃ b o, a2 = some ⟨b, o, none⟩ ∧ b < w.heap.size ∧ ∀ i, i < n2 → w.cell? ⟨b, o + i, none⟩ = some (.int .u8 (od i))) (hod : ∀ i, i < n2 → 0 ≤ od i ∧ od i ≤ 255) :
    Calls Try.prog 4 #[.int .u8 x0, .int .u8 y0, .slice a2 n2 c2] w fun e w' => e = .returned (.bool true) ∧ Below w.heap.size w w' := by
  unfold maxLen at hm
  obtain ⟨hx1, hx2⟩ := hx
  obtain ⟨hy1, hy2⟩ := hy
  obtain ⟨i0, hi, hz0, hz1, hz2⟩ := info_parts infoTri
  by_cases hl : 200 < n2
  · go_enter Try.func4, Try.ntmps4
    go_wp2_with (go_at_call 6; refine (alive_any _).mono ?_; rintro e w' ⟨rfl, hB⟩)
    go_ret
    exact ⟨rfl, hB⟩
  · have hl' : n2 ≤ 200 := by omega
    clear hl
    go_enter Try.func4, Try.ntmps4
    go_upto_region 3 with fail
    go_cut [7, 8] from 24 to 30 (fun v7 v8 wx => ∃ (p bw : Nat) (A : Int), v7 = .pointer (some ⟨p, 0, none⟩) ∧ v8 = .int .i64 0 ∧ 1 ≤ A ∧ A ≤ 255 ∧ PeerAt wx p bw (ps0 A) ∧ w.heap.size ≤ p ∧ w.heap.size ≤ bw ∧ Below w.heap.size w wx)
    case first =>
      by_cases hA : 1 ≤ x0
      · go_wp2_with (go_at_call 7; refine (newPeer_yes x0 _ (by omega) (by omega)).mono ?_; rintro e w' ⟨rfl, hP, hB⟩)
        all_goals go_meet
        all_goals (case rel => exact ⟨_, _, x0, rfl, rfl, by omega, by omega, hP, by omega, by omega, hB⟩)
      · go_wp2_with (go_at_call 7; refine (newPeer_yes 1 _ (by omega) (by omega)).mono ?_; rintro e w' ⟨rfl, hP, hB⟩)
        all_goals go_meet
        all_goals (case rel => exact ⟨_, _, 1, rfl, rfl, by omega, by omega, hP, by omega, by omega, hB⟩)
    case rest =>
      obtain ⟨px, bx, A, rfl, rfl, hA1, hA2, hPx, hpx, hbx, hB⟩ := hcut
      obtain ⟨w1, rfl⟩ : ∃ w1 : World, w1 = wc := ⟨_, rfl⟩
      go_upto_region 4 with fail
      go_cut [9, 10] from 24 to 37 (fun v7 v8 wy => ∃ (p bw : Nat) (B : Int), v7 = .pointer (some ⟨p, 0, none⟩) ∧ v8 = .int .i64 0 ∧ 1 ≤ B ∧ B ≤ 255 ∧ PeerAt wy p bw (ps0 B) ∧ w1.heap.size ≤ p ∧ w1.heap.size ≤ bw ∧ Below w1.heap.size w1 wy)
      case first =>
        by_cases hA : 1 ≤ y0
        · go_wp2_with (go_at_call 7; refine (newPeer_yes y0 _ (by omega) (by omega)).mono ?_; rintro e w' ⟨rfl, hP, hB'⟩)
          all_goals go_meet
          all_goals (case rel => exact ⟨_, _, y0, rfl, rfl, by omega, by omega, hP, by omega, by omega, hB'⟩)
        · go_wp2_with (go_at_call 7; refine (newPeer_yes 1 _ (by omega) (by omega)).mono ?_; rintro e w' ⟨rfl, hP, hB'⟩)
          all_goals go_meet
          all_goals (case rel => exact ⟨_, _, 1, rfl, rfl, by omega, by omega, hP, by omega, by omega, hB'⟩)
      case rest =>
        obtain ⟨py, bY, B, rfl, rfl, hB1, hB2, hPy, hpy, hby, hBy⟩ := hcut
        obtain ⟨w2, rfl⟩ : ∃ w2 : World, w2 = wc := ⟨_, rfl⟩
        have b5 : w.heap.size ≤ py := by have := hB.size; omega
        have b6 : w.heap.size ≤ bY := by have := hB.size; omega
        have lx := hPx.lt
        have lbx := hPx.2.lt
        replace hPx := hPx.kept (Only.of_below hBy) id id
        replace hB := hB.trans (hBy.mono hB.size)
        have hxy : px ≠ py := by omega
        have hbb : bx ≠ bY := by omega
        have n1 := hPx.ne
        have n2' := hPy.ne
        have n3 : px ≠ bY := block_ne hPx.1 hPy.2 (by decide)
        have n4 : py ≠ bx := block_ne hPy.1 hPx.2 (by decide)
        obtain ⟨u1, u2⟩ := hearXY A B hB1 hB2
        obtain ⟨u3, u4⟩ := hearXY B A hA1 hA2
        have bdA : PBd (ps0 A) := (PInv.start A hA1 hA2).bd
        have bdB : PBd (ps0 B) := (PInv.start B hB1 hB2).bd
        have U1 := Lib.hid u1
        have U2 := Lib.hid u2
        have U3 := Lib.hid u3
        have U4 := Lib.hid u4
        clear u1 u2 u3 u4 lx lbx hpy hby hBy
        go_wp2_with fail
        refine (own_any py bY (ps0 B) _ hPy).mono ?_
        rintro e w' ⟨rfl, rfl⟩
        go_wp2_with fail
        refine (hear_any px bx (ps0 A) B _ hPx bdA).mono ?_
        rw [U1.out, U2.out]
        rintro e w3 ⟨rfl, bx', hbx', hPx', ho3⟩
        go_wp2_with fail
        refine (own_any px bx' ⟨A, B, 0, 0, 0⟩ _ hPx').mono ?_
        rintro e w' ⟨rfl, rfl⟩
        go_wp2_with fail
        refine (hear_any py bY (ps0 B) A _ (hPy.kept ho3 (fun e => hxy e.symm) (fun e => n3 e.symm)) bdB).mono ?_
        rw [U3.out, U4.out]
        rintro e w4 ⟨rfl, by', hby', hPy', ho4⟩
        go_wp2_with fail
        have lx := hPx'.lt
        have ly := hPx'.2.lt
        have z3 := ho3.size
        have z4 := ho4.size
        have b3 : w.heap.size ≤ bx' := by have := hB.size; rcases hbx' with h | h <;> omega
        have m1 : bx' ≠ by' := by
          have := hPy.2.lt
          rcases hbx' with h | h <;> rcases hby' with h' | h' <;> omega
        replace hPx := hPx'.kept ho4 hxy (fun e => (block_ne hPx'.2 (hPy.kept ho3 (fun e => hxy e.symm) (fun e => n3 e.symm)).1 (by decide)) e)
        have b4 : w.heap.size ≤ by' := by have := hB.size; rcases hby' with h | h <;> omega
        replace hB := (hB.trans (ho3.below hB.size (fun k e => by omega))).trans (ho4.below (by have := hB.size; omega) (fun k e => by omega))
        clear hPx' hPy ho3 ho4 hbx' hby' bdA bdB U1 U2 U3 U4 n1 n2' n3 n4 lx ly hbb
        go_loopw [11, 12] (fun vw vi wr => ∃ (i bx bY : Nat) (way took : List Int) (t g : Int), i ≤ n2 + 8 ∧ vi = .int .i64 i ∧ TInv i n2 way took t g ∧
            PeerAt wr px bx ⟨A, B, sent i n2, 0, 0⟩ ∧ PeerAt wr py bY ⟨B, A, 0, t, g⟩ ∧ bx ≠ bY ∧ w.heap.size ≤ bx ∧ w.heap.size ≤ bY ∧ way.length ≤ i ∧
            wr.ownsRow w.heap.size 38 3 vw way.length (way.flatMap (tc A B)) ∧ Below w.heap.size w wr)
          (fun _ vi _ => n2 + 8 - (intOf vi).toNat)
        case atStart => exact ⟨0, bx', by', [], [], 0, 0, by omega, rfl, TInv.zero n2, by simpa [sent] using hPx, hPy', m1, b3, b4, by simp, World.ownsRow_nil _ _ _ _, hB⟩
        case round =>
          obtain ⟨i, bx, bY, way, took, t, g, hin2, rfl, hT, hPx, hPy, hbb, hbx1, hby1, hwl, hown, hB⟩ := hrel
          by_cases hlt : i < n2 + 8
          · go_upto_if 76 with fail
            go_cut [11, 13, 14, 15, 16] from 66 to 200 (fun vw _ _ _ _ wx => ∃ (way : List Int), MInv i n2 way took t g ∧
              PeerAt wx px bx ⟨A, B, sent (i + 1) n2, 0, 0⟩ ∧ PeerAt wx py bY ⟨B, A, 0, t, g⟩ ∧ way.length ≤ i + 1 ∧
              wx.ownsRow w.heap.size 38 3 vw way.length (way.flatMap (tc A B)) ∧ Below w.heap.size w wx)
            case first =>
              by_cases hil : i < n2
              · obtain ⟨e1, e2⟩ := sent_lt hil
                have E2 := Lib.hid e2
                rw [e1] at hPx
                clear e1 e2
                have bd : PBd ⟨A, B, (i : Int), 0, 0⟩ := ⟨hA1, hA2, hB1, hB2, by show (0 : Int) ≤ i; omega, by show (i : Int) ≤ 65535; omega, by show (0 : Int) ≤ 0; omega, by show (0 : Int) ≤ 65535; omega, fun _ => rfl⟩
                go_wp2_with fail
                refine (stamp_yes px bx ⟨A, B, (i : Int), 0, 0⟩ _ hPx bd (by show (i : Int) < 65535; omega)).mono ?_
                rintro e w' ⟨rfl, hPx', ho⟩
                have hPy' := hPy.kept ho (fun e => hxy e.symm) (row_ne' hPx.1 hPy.2 (by decide))
                have hown2 := ho.owns hown (row_ne hown hPx.1 (by decide))
                have hsz := Nat.le_trans hB.size ho.size
                have hB2 := hB.trans (ho.below hB.size (fun k e => by omega))
                go_wp2_with (first | (go_at_call 10; ((with_reducible refine (own_any px bx _ _ hPx').mono ?_)); rintro e w' ⟨rfl, rfl⟩) | (go_at_call 10; ((with_reducible refine (own_any py bY _ _ hPy').mono ?_)); rintro e w' ⟨rfl, rfl⟩) | (at_builtin; refine wpList_append_own _ rfl _ _ 35 rfl w.heap.size 38 i0 (.agg #[.int .i64 0, .int .i64 0, .int .i64 0]) 3 24 Try.underlying35 hi hz0 hz1 hz2 rfl (by decide) _ _ _ rfl (hown2.alloc _) ⟨w'.heap.size, 0, none⟩ 1 1 (tc A B ((i : Int) + 1)) rfl rfl (cells_new _ _ _) (by simp [tc, Value.oneCell']) (by unfold maxLen; omega) (by omega) (by simp; omega) ?_; intro v' w1' hown' hgrow _))
                go_meet
                have hg2 : Only (fun z => u11.ownBlock = some z) w' w1' := ((Only.refl _ w').alloc _).grown hgrow (fun z e => e)
                case rel => exact ⟨way ++ [(i : Int) + 1], hT.stamp hil, by rw [E2.out]; exact hPx'.kept hg2 (fun e => row_ne hown2 hPx'.1 (by decide) _ e rfl) (fun e => row_ne hown2 hPx'.2 (by decide) _ e rfl), hPy'.kept hg2 (fun e => row_ne hown2 hPy'.1 (by decide) _ e rfl) (fun e => row_ne hown2 hPy'.2 (by decide) _ e rfl), by simp; omega, by simpa [List.flatMap_append] using hown', hB2.trans (hg2.below hB2.size (fun z e => (hown2.lt z e).1))⟩
              · go_wp2_with fail
                go_meet
                case rel => exact ⟨way, hT.idle (by omega), by have := sent_ge (show n2 ≤ i by omega); rw [this.2, ← this.1]; exact hPx, hPy, by omega, hown, hB⟩
            case rest =>
              clear hT hPx hPy hown hwl hB
              obtain ⟨way, hM, hPx, hPy, hwl, hown, hB⟩ := hcut
              obtain ⟨a, cap', rfl⟩ := ownsRow_slice hown
              obtain ⟨w5, rfl⟩ : ∃ w5 : World, w5 = wc := ⟨_, rfl⟩
              go_upto_region 16 with fail
              go_cut [124] from 66 to 200 (fun c wx => c = .bool (decide ((i < n2 ∧ way.length < 8) ∨ way.length = 0)) ∧ wx = w5)
              case first =>
                by_cases h8 : way.length < 8
                · by_cases hil : i < n2
                  · go_wp2
                    go_meet
                    case rel => exact ⟨by simp [h8, hil], rfl⟩
                  · go_wp2
                    go_meet
                    case rel => exact ⟨congrArg Value.bool (by rw [Bool.eq_iff_iff]; simp [hil]), rfl⟩
                · go_wp2
                  go_meet
                  case rel => exact ⟨congrArg Value.bool (by rw [Bool.eq_iff_iff]; simp [h8]), rfl⟩
              case rest =>
                obtain ⟨rfl, rfl⟩ := hcut
                by_cases hw : (i < n2 ∧ way.length < 8) ∨ way.length = 0
                · have hd : decide ((i < n2 ∧ way.length < 8) ∨ way.length = 0) = true := by simpa using hw
                  rw [hd]
                  clear hd
                  have hT := hM.wait (hw.imp id (fun h => List.eq_nil_of_length_eq_zero h))
                  clear hw
                  go_wp2
                  exact ⟨⟨i + 1, bx, bY, way, took, t, g, by omega, by go_num, hT, hPx, hPy, hbb, hbx1, hby1, hwl, hown, hB⟩, by simp [intOf]; omega⟩
                · have hd : decide ((i < n2 ∧ way.length < 8) ∨ way.length = 0) = false := by simpa using hw
                  rw [hd]
                  clear hd
                  have hf : i < n2 → 8 ≤ way.length := fun h => by omega
                  have hp : 0 < way.length := by omega
                  clear hw
                  obtain ⟨gg, rfl, hc⟩ := owns_tri hown hp
                  obtain ⟨w6, rfl⟩ : ∃ w6 : World, w6 = wc := ⟨_, rfl⟩
                  have hc2 := (hc 0 hp).2.2
                  simp only [Nat.zero_mul, Nat.zero_add] at hc2
                  go_upto_region 18 with fail
                  go_cut [137] from 66 to 200 (fun c wx => c = .bool (decide (i < n2 ∧ (i : Int) - 40 < way.getD 0 0)) ∧ wx = w6)
                  case first =>
                    obtain ⟨q, hq⟩ : ∃ q, way.getD 0 0 = q := ⟨_, rfl⟩
                    rw [hq] at hc2
                    have HQ := Lib.hid hq
                    clear hq
                    by_cases hil : i < n2
                    · go_wp2
                      go_meet
                      case rel => exact ⟨congrArg Value.bool (by rw [Bool.eq_iff_iff]; rw [HQ.out]; simp [hil]), rfl⟩
                    · go_wp2
                      go_meet
                      case rel => exact ⟨congrArg Value.bool (by rw [Bool.eq_iff_iff]; simp [hil]), rfl⟩
                  case rest =>
                    obtain ⟨rfl, rfl⟩ := hcut
                    obtain ⟨w6, rfl⟩ : ∃ w6 : World, w6 = wc := ⟨_, rfl⟩
                    clear hc2
                    go_upto_if 137 with fail
                    go_cut [17] from 66 to 200 (fun c wx => ∃ k : Nat, c = .int .i64 k ∧ k < way.length ∧ (i < n2 → ((i : Int) - 40 < way.getD 0 0 ∨ k = 0)) ∧ wx = w6)
                    case first =>
                      by_cases hpk : i < n2 ∧ (i : Int) - 40 < way.getD 0 0
                      · have hd : decide (i < n2 ∧ (i : Int) - 40 < way.getD 0 0) = true := by simpa using hpk
                        rw [hd]
                        clear hd
                        obtain ⟨hil, hpk⟩ := hpk
                        have HP := Lib.hid hpk
                        clear hpk
                        obtain ⟨b, o, rfl, hbb', hc'⟩ := hin (by omega)
                        have hci := (hB.cell (p := ⟨b, o + i, none⟩) hbb').trans (hc' i hil)
                        have hoi := hod i hil
                        clear hc' hc
                        generalize od i = z at hci hoi
                        obtain ⟨hz1', hz2'⟩ := hoi
                        have hq1 : 0 ≤ z % (way.length : Int) := Int.emod_nonneg _ (by omega)
                        have hq2 : z % (way.length : Int) < way.length := Int.emod_lt_of_pos _ (by omega)
                        have hnz : ((way.length : Int) == 0) = false := beq_eq_false_iff_ne.2 (by omega)
                        go_wp2
                        go_meet
                        case rel => exact ⟨(z % way.length).toNat, by go_num, by omega, fun _ => .inl HP.out, rfl⟩
                      · have hd : decide (i < n2 ∧ (i : Int) - 40 < way.getD 0 0) = false := by simpa using hpk
                        rw [hd]
                        clear hd
                        go_wp2
                        go_meet
                        case rel => exact ⟨0, rfl, hp, fun _ => .inr rfl, rfl⟩
                    case rest =>
                      obtain ⟨k, rfl, hk, hck, rfl⟩ := hcut
                      obtain ⟨w7, rfl⟩ : ∃ w7 : World, w7 = wc := ⟨_, rfl⟩
                      obtain ⟨d0, d1, d2⟩ := hc k hk
                      have hmem : way.getD k 0 ∈ way := by
                        rw [List.getD_eq_getElem?_getD, List.getElem?_eq_getElem hk]; exact List.getElem_mem _
                      obtain ⟨hn1, hn2, hn3, hn4, hn5⟩ := hM.near hmem hl'
                      have hT := hM.pick k hk hl' hck hf
                      have hMw := hM.win
                      clear hc hmem hck hf hM
                      generalize way.getD k 0 = n at d2 hn1 hn2 hn3 hn4 hn5 hT
                      obtain ⟨⟨hbd1, hv1, hs1⟩, hbd2, hv2, hs2⟩ := talk_facts A B t g n hA1 hA2 hB1 hB2 hn1 hn2 hn4 hn5 ⟨hMw.t0, hMw.t1, hMw.zeroG⟩ ⟨hT.win.t0, hT.win.t1, hT.win.zeroG⟩
                      have HV1 := Lib.hid hv1
                      have HS1 := Lib.hid hs1
                      have HV2 := Lib.hid hv2
                      have HS2 := Lib.hid hs2
                      clear hv1 hs1 hv2 hs2 hn4 hn5 hMw
                      generalize nxtT t g n = t' at *
                      generalize nxtG t g n = g' at *
                      have hgp : gg ≠ py := fun e => row_ne hown hPy.1 (by decide) gg rfl e
                      have hgb : gg ≠ bY := fun e => row_ne hown hPy.2 (by decide) gg rfl e
                      have hglt : gg < w7.heap.size := (hown.lt gg rfl).2
                      have hnb : -9223372036854775808 ≤ n ∧ n ≤ 9223372036854775807 := by omega
                      go_upto_region 20 with fail
                      go_cut [183] from 66 to 200 (fun c wx => c = .bool false ∧ ∃ bY', w.heap.size ≤ bY' ∧ bx ≠ bY' ∧ PeerAt wx py bY' ⟨B, A, 0, t', g'⟩ ∧ PeerAt wx px bx ⟨A, B, sent (i + 1) n2, 0, 0⟩ ∧ wx.ownsRow w.heap.size 38 3 (.slice (some ⟨gg, 0, none⟩) way.length cap') way.length (way.flatMap (tc A B)) ∧ Below w.heap.size w wx)
                      case first =>
                        go_region_held3 (fun w' => w'.cell? ⟨gg, k * 3, none⟩ = some (.int .i64 A) ∧ w'.cell? ⟨gg, k * 3 + 1, none⟩ = some (.int .i64 B) ∧ w'.cell? ⟨gg, k * 3 + 2, none⟩ = some (.int .i64 n)) (first | exact ⟨d0, d1, d2⟩ | exact ⟨hoA.cell d0 (fun e => e.elim hgp hgb), hoA.cell d1 (fun e => e.elim hgp hgb), hoA.cell d2 (fun e => e.elim hgp hgb)⟩ | exact ⟨hoB.cell (hoA.cell d0 (fun e => e.elim hgp hgb)) (fun e => e.elim hgp hgb1), hoB.cell (hoA.cell d1 (fun e => e.elim hgp hgb)) (fun e => e.elim hgp hgb1), hoB.cell (hoA.cell d2 (fun e => e.elim hgp hgb)) (fun e => e.elim hgp hgb1)⟩)
                          (first | (go_at_call 9; refine (takeP_any py bY ⟨B, A, 0, t, g⟩ A B n _ (by exact hPy) hbd1 hnb).mono ?_; rw [HV1.out, HS1.out]; rintro e wA ⟨rfl, bY1, hbY1, hPy1, hoA⟩; have hgb1 : gg ≠ bY1 := hbY1.elim (fun h => by rw [h]; exact hgb) (fun h => Nat.ne_of_lt (Nat.lt_of_lt_of_le hglt h))) | (go_at_call 9; refine (takeP_any py bY1 ⟨B, A, 0, t', g'⟩ A B n _ (by exact hPy1) hbd2 hnb).mono ?_; rw [HV2.out, HS2.out]; rintro e wB ⟨rfl, bY2, hbY2, hPy2, hoB⟩))
                        all_goals go_wp2_with fail
                        all_goals go_meet
                        have q1 : ¬ px = bY := row_ne' hPy.2 hPx.1 (by decide)
                        have q2 : ¬ bx = py := row_ne' hPy.1 hPx.2 (by decide)
                        have q3 : px < w7.heap.size := hPx.lt
                        have q4 : bx < w7.heap.size := hPx.2.lt
                        have q5 : ¬ px = bY1 := hbY1.elim (fun h => by rw [h]; exact q1) (fun h => Nat.ne_of_lt (Nat.lt_of_lt_of_le q3 h))
                        have q6 : ¬ bx = bY1 := hbY1.elim (fun h => by rw [h]; exact hbb) (fun h => Nat.ne_of_lt (Nat.lt_of_lt_of_le q4 h))
                        have q7 : ¬ bx = bY2 := hbY2.elim (fun h => by rw [h]; exact q6) (fun h => Nat.ne_of_lt (Nat.lt_of_lt_of_le q4 (Nat.le_trans hoA.size h)))
                        have z1 : w.heap.size ≤ bY1 := hbY1.elim (fun h => by rw [h]; exact hby1) (fun h => Nat.le_trans hB.size h)
                        have z2 : w.heap.size ≤ bY2 := hbY2.elim (fun h => by rw [h]; exact z1) (fun h => Nat.le_trans (Nat.le_trans hB.size hoA.size) h)
                        have hoA' : Only (fun z => z = py ∨ z = bY) w7 wA := (Only.refl _ w7).drew.trans hoA
                        have hPxA := (hPx.kept hoA' (fun e => e.elim hxy q1) (fun e => e.elim q2 hbb)).kept hoB (fun e => e.elim hxy q5) (fun e => e.elim q2 q6)
                        have hownB := hoB.owns (hoA'.owns hown (fun z hz e => by cases hz; exact e.elim hgp hgb)) (fun z hz e => by cases hz; exact e.elim hgp hgb1)
                        case rel => exact ⟨rfl, bY2, z2, q7, hPy2, hPxA, hownB, (hB.trans (hoA'.below hB.size (fun z e => e.elim (fun e => by rw [e]; exact b5) (fun e => by rw [e]; exact hby1)))).trans (hoB.below (Nat.le_trans hB.size hoA'.size) (fun z e => e.elim (fun e => by rw [e]; exact b5) (fun e => by rw [e]; exact z1)))⟩
                      case rest =>
                        clear hPx hPy hown hB hbb hby1
                        obtain ⟨rfl, bY', hby1, hbb, hPy, hPx, hown, hB⟩ := hcut
                        obtain ⟨w8, rfl⟩ : ∃ w8 : World, w8 = wc := ⟨_, rfl⟩
                        clear d0 d1 d2
                        have hc := owns_tri hown
                        go_wp2
                        have hg8 : gg < w8.heap.size := (hown.lt gg rfl).2
                        go_loopw [18, 19] (fun vr vj wr => ∃ (j : Nat), j ≤ way.length ∧ vj = .int .i64 j ∧ wr.ownsRow w8.heap.size 38 3 vr (restTo way k j).length ((restTo way k j).flatMap (tc A B)) ∧ Below w8.heap.size w8 wr)
                          (fun _ vj _ => way.length - (intOf vj).toNat)
                        case atStart => exact ⟨0, by omega, rfl, by rw [restTo_zero]; exact World.ownsRow_nil _ _ _ _, Below.refl _ _⟩
                        case round =>
                          obtain ⟨j, hj, rfl, hr, hB8⟩ := hrel
                          by_cases hjl : j < way.length
                          · obtain ⟨gx, hgx, hc⟩ := hc (by omega)
                            cases hgx
                            obtain ⟨c0, c1, c2⟩ := hc j hjl
                            replace c0 := (hB8.cell (p := ⟨gg, j * 3, none⟩) hg8).trans c0
                            replace c1 := (hB8.cell (p := ⟨gg, j * 3 + 1, none⟩) hg8).trans c1
                            replace c2 := (hB8.cell (p := ⟨gg, j * 3 + 2, none⟩) hg8).trans c2
                            by_cases hjk : j = k
                            · subst hjk
                              have hs := Lib.hid (restTo_at way j (by omega))
                              go_wp2
                              exact ⟨⟨j + 1, by omega, by go_num, by rw [hs.out]; exact hr, hB8⟩, by simp [intOf]; omega⟩
                            · have hs := Lib.hid (restTo_other way k j hjl hjk)
                              have hlr := restTo_length way k j
                              have hjk' : ((j : Int) != (k : Int)) = true := by rw [bne_iff_ne]; omega
                              clear hc hjk
                              generalize way.getD j 0 = nj at c2 hs
                              have hsz8 := hB8.size
                              go_wp2_with (at_builtin; refine wpList_append_own _ rfl _ _ 35 rfl w8.heap.size 38 i0 (.agg #[.int .i64 0, .int .i64 0, .int .i64 0]) 3 24 Try.underlying35 hi hz0 hz1 hz2 rfl (by decide) _ _ _ rfl (hr.alloc _) ⟨wr.heap.size, 0, none⟩ 1 1 (tc A B nj) rfl rfl (cells_new _ _ _) (by simp [tc, Value.oneCell']) (by unfold maxLen; omega) (by omega) (by simp; omega) ?_; intro v' w1' hown' hgrow _)
                              exact ⟨⟨j + 1, by omega, by go_num, by rw [hs.out]; simpa [List.flatMap_append] using hown', (hB8.alloc hB8.size _).grown hgrow (by simp; omega) (fun z e => (hr.lt z e).1)⟩, by simp [intOf]; omega⟩
                          · obtain rfl : j = way.length := by omega
                            rw [restTo_all] at hr
                            have hwl2 : (way.eraseIdx k).length ≤ i + 1 := by
                              have := (List.eraseIdx_sublist way k).length_le
                              omega
                            have hPx' := hPx.kept (Only.of_below hB8) id id
                            have hPy' := hPy.kept (Only.of_below hB8) id id
                            go_wp2
                            exact ⟨⟨i + 1, bx, bY', way.eraseIdx k, took ++ [n], t', g', by omega, by go_num, hT, hPx', hPy', hbb, hbx1, hby1, hwl2, ownsRow_base hr hB.size, hB.trans (hB8.mono hB.size)⟩, by simp [intOf]; omega⟩
          · go_wp2_with (go_at_call 6; refine (alive_any _).mono ?_; rintro e w' ⟨rfl, hB2⟩)
            go_ret
            exact ⟨rfl, hB.trans (hB2.mono hB.size)⟩
end Go.Proofs.Ytmmaankgoinijaa
