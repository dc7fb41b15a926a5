/- The walks of the trace's Check; of long, Long, decides, SameActions. -/
import Derived.Test.YtkjfagchololbaaTRun
namespace Go.Proofs.Ytkjfagchololbaa
open Go.RowKit Go.Shelf

def chkV (bad : Int) (l : List Ev) : Nat × Int := match runT bad [] (actsTo bad l l.length) with | .inl _ => (l.length, 0) | .inr x => x
def RnOk (bad : Int) (l : List Ev) (rs : List Row) (w : World) (e : Ending) (w' : World) : Prop :=
  ∃ gb mb rv, e = .returned (.tuple #[.pointer (some ⟨gb, 0, none⟩), .int .i64 (l.length : Int), .int .i64 0]) ∧ GAt w' (w.heap.size + 3) gb mb rv bad rs ∧ Below w.heap.size w w'
theorem trun_ok (bad : Int) (av : Option Addr) (l : List Ev) (cap : Nat) (rs : List Row) (hr : runT bad [] (actsTo bad l l.length) = .inl rs) (w : World) (hlen : l.length ≤ 900) (hev : EvsAt w w.heap.size av l) :
    Calls Try.prog 25 #[.int .u8 bad, .slice av l.length cap] w (RnOk bad l rs w) := by
  refine (trun_any bad av l cap w hlen hev).mono fun e w' h => ?_
  rcases h with ⟨gb, mb, rv, rs', h1, h2, h3, h4⟩ | ⟨k, v, h1, _⟩
  · rw [hr] at h1; cases h1; exact ⟨gb, mb, rv, h2, h3, h4⟩
  · rw [hr] at h1; cases h1
theorem trun_no (bad : Int) (av : Option Addr) (l : List Ev) (cap : Nat) (k : Nat) (v : Int) (hr : runT bad [] (actsTo bad l l.length) = .inr (k, v)) (w : World) (hlen : l.length ≤ 900) (hev : EvsAt w w.heap.size av l) :
    Calls Try.prog 25 #[.int .u8 bad, .slice av l.length cap] w (fun e w' => e = .returned (.tuple #[.pointer none, .int .i64 (k : Int), .int .i64 v]) ∧ Below w.heap.size w w') := by
  refine (trun_any bad av l cap w hlen hev).mono fun e w' h => ?_
  rcases h with ⟨gb, mb, rv, rs', h1, _⟩ | ⟨k', v', h1, h2, h3⟩
  · rw [hr] at h1; cases h1
  · rw [hr] at h1; cases h1; exact ⟨h2, h3⟩

theorem check_any (bad : Int) (av : Option Addr) (l : List Ev) (cap : Nat) (w : World) (hlen : l.length ≤ 900) (hev : EvsAt w w.heap.size av l) :
    Calls Try.prog 11 #[.int .u8 bad, .slice av l.length cap] w fun e w' => e = .returned (.tuple #[.int .i64 ((chkV bad l).1 : Int), .int .i64 (chkV bad l).2]) ∧ Below w.heap.size w w' := by
  cases hr : runT bad [] (actsTo bad l l.length) with
  | inl rs =>
    have HR := Lib.hid hr
    have HV := Lib.hid (show chkV bad l = (l.length, 0) by rw [chkV, hr])
    clear hr
    go_enter Try.func11, Try.ntmps11
    go_wp2_with (go_at_call 25; refine (trun_ok bad av l cap rs HR.out _ hlen (by exact hev)).mono ?_; rintro e w1 ⟨gb, mb, rv, rfl, hG, hB⟩)
    go_ret2
    exact ⟨by rw [HV.out]; rfl, hB⟩
  | inr x =>
    obtain ⟨k, v⟩ := x
    have HR := Lib.hid hr
    have HV := Lib.hid (show chkV bad l = (k, v) by rw [chkV, hr])
    clear hr
    go_enter Try.func11, Try.ntmps11
    go_wp2_with (go_at_call 25; refine (trun_no bad av l cap k v HR.out _ hlen (by exact hev)).mono ?_; rintro e w1 ⟨rfl, hB⟩)
    go_ret2
    exact ⟨by rw [HV.out]; rfl, hB⟩
theorem check_is (bad : Int) (av : Option Addr) (l : List Ev) (cap n : Nat) (k : Nat) (v : Int) (hn : l.length = n) (h : chkV bad l = (k, v)) (w : World) (hlen : l.length ≤ 900) (hev : EvsAt w w.heap.size av l) :
    Calls Try.prog 11 #[.int .u8 bad, .slice av n cap] w fun e w' => e = .returned (.tuple #[.int .i64 (k : Int), .int .i64 v]) ∧ Below w.heap.size w w' := by
  subst hn
  have := check_any bad av l cap w hlen hev
  rw [h] at this
  exact this

/-- Members of which a statement tells. -/
def LongB (ms : List (Int × ByteArray)) : Bool := decide (20 < ms.length) || ms.any fun m => decide (20000 < m.2.size)
def longB (l : List Ev) : Bool := decide (120 < l.length) || l.any fun x => LongB x.ms

set_option maxHeartbeats 2000000 in
theorem Long_any (av : Option Addr) (ms : List (Int × ByteArray)) (cap : Nat) (w : World) (hm : MemAt w w.heap.size av ms) (hlen : ms.length ≤ maxLen) :
    Calls Try.prog 20 #[.slice av ms.length cap] w fun e w' => e = .returned (.bool (LongB ms)) ∧ w = w' := by
  unfold maxLen at hlen
  by_cases hb : 20 < ms.length
  · have HV := Lib.hid (show LongB ms = true by simp [LongB, hb])
    go_enter Try.func20, Try.ntmps20
    go_wp2
    go_ret
    exact ⟨by rw [HV.out]; rfl, rfl⟩
  · have HV := Lib.hid (show LongB ms = ms.any fun m => decide (20000 < m.2.size) by simp [LongB, hb])
    have HM := Lib.hid hm
    clear hm
    go_enter Try.func20, Try.ntmps20
    go_wp2
    go_loop [3] (fun v => ∃ j : Nat, j ≤ ms.length ∧ v = .int .i64 j ∧ Hid (∀ m ∈ ms.take j, ¬ 20000 < m.2.size)) (fun v => ms.length - (intOf v).toNat)
    case atStart => exact ⟨0, by omega, rfl, Lib.hid (by simp)⟩
    case round =>
      obtain ⟨j, hj, rfl, HA⟩ := hrel
      by_cases hlt : j < ms.length
      · obtain ⟨b, o, rfl, hbb, hc⟩ := HM.out.r (by omega)
        obtain ⟨m, hmj⟩ : ∃ m, ms[j]? = some m := ⟨_, List.getElem?_eq_getElem hlt⟩
        have c1 := (hc j m hmj).2
        have HJ := Lib.hid hmj
        clear hc hmj
        by_cases hs : 20000 < m.2.size
        · have HT := Lib.hid (show (ms.any fun m => decide (20000 < m.2.size)) = true by rw [List.any_eq_true]; exact ⟨m, List.mem_of_getElem? HJ.out, by simpa using hs⟩)
          have hs' : (20000 : Int) < (m.2.size : Int) := by omega
          go_wp2
          go_ret
          exact ⟨by rw [HV.out, HT.out]; rfl, rfl⟩
        · have hs' : ¬ (20000 : Int) < (m.2.size : Int) := by omega
          go_wp2
          go_round
          case rel =>
            refine ⟨j + 1, by omega, by go_num, Lib.hid ?_⟩
            intro x hx
            rw [List.take_add_one, HJ.out] at hx
            rcases List.mem_append.1 hx with hx | hx
            · exact HA.out x hx
            · simp at hx; rw [hx]; exact hs
          case measure => simp [intOf]; omega
      · obtain rfl : j = ms.length := by omega
        have HT := Lib.hid (show (ms.any fun m => decide (20000 < m.2.size)) = false by
          rw [List.any_eq_false]
          intro m hm
          have := HA.out m (by rw [List.take_length]; exact hm)
          simpa using this)
        go_wp2
        go_ret
        exact ⟨by rw [HV.out, HT.out]; rfl, rfl⟩

theorem Long_is (v : Bool) (av : Option Addr) (ms : List (Int × ByteArray)) (cap : Nat) (hv : LongB ms = v) (w : World) (hm : MemAt w w.heap.size av ms) (hlen : ms.length ≤ maxLen) :
    Calls Try.prog 20 #[.slice av ms.length cap] w fun e w' => e = .returned (.bool v) ∧ w = w' := hv ▸ Long_any av ms cap w hm hlen

set_option maxHeartbeats 4000000 in
theorem long_any (av : Option Addr) (l : List Ev) (cap : Nat) (w : World) (hev : EvsAt w w.heap.size av l) (hlen : l.length ≤ maxLen) :
    Calls Try.prog 6 #[.slice av l.length cap] w fun e w' => e = .returned (.bool (longB l)) ∧ w = w' := by
  unfold maxLen at hlen
  by_cases hb : 120 < l.length
  · have HV := Lib.hid (show longB l = true by simp [longB, hb])
    go_enter Try.func6, Try.ntmps6
    go_wp2
    go_ret
    exact ⟨by rw [HV.out]; rfl, rfl⟩
  · have HV := Lib.hid (show longB l = l.any fun x => LongB x.ms by simp [longB, hb])
    go_enter Try.func6, Try.ntmps6
    go_wp2
    go_loop [3] (fun v => ∃ j : Nat, j ≤ l.length ∧ v = .int .i64 j ∧ Hid (∀ x ∈ l.take j, LongB x.ms = false)) (fun v => l.length - (intOf v).toNat)
    case atStart => exact ⟨0, by omega, rfl, Lib.hid (by simp)⟩
    case round =>
      obtain ⟨j, hj, rfl, HA⟩ := hrel
      by_cases hlt : j < l.length
      · obtain ⟨b, o, rfl, hbb, hc⟩ := hev.r (by omega)
        obtain ⟨x, hxj⟩ : ∃ m, l[j]? = some m := ⟨_, List.getElem?_eq_getElem hlt⟩
        have c1 : w.cell? ⟨b, o + j * 22 + 20, none⟩ = some (.slice x.av x.ms.length x.mcap) := hc j x hxj 20 _ rfl
        obtain ⟨hwf, hmem⟩ := hev.wf x (List.mem_of_getElem? hxj)
        have HJ := Lib.hid hxj
        have HM := Lib.hid hmem
        have HL := Lib.hid hwf.len
        clear hc hxj hwf hmem
        cases hs : LongB x.ms
        · have HS := Lib.hid hs
          clear hs
          go_wp2_with (go_at_call 20; ((with_reducible refine (Long_is false x.av x.ms x.mcap HS.out _ HM.out HL.out).mono ?_)); rintro e' wT ⟨rfl, rfl⟩)
          go_round
          case rel =>
            refine ⟨j + 1, by omega, by go_num, Lib.hid ?_⟩
            intro y hx
            rw [List.take_add_one, HJ.out] at hx
            rcases List.mem_append.1 hx with hx | hx
            · exact HA.out y hx
            · simp at hx; rw [hx]; exact HS.out
          case measure => simp [intOf]; omega
        · have HS := Lib.hid hs
          clear hs
          have HT := Lib.hid (show (l.any fun x => LongB x.ms) = true by rw [List.any_eq_true]; exact ⟨x, List.mem_of_getElem? HJ.out, HS.out⟩)
          go_wp2_with (go_at_call 20; ((with_reducible refine (Long_is true x.av x.ms x.mcap HS.out _ HM.out HL.out).mono ?_)); rintro e' wT ⟨rfl, rfl⟩)
          go_ret
          exact ⟨by rw [HV.out, HT.out]; rfl, rfl⟩
      · obtain rfl : j = l.length := by omega
        have HT := Lib.hid (show (l.any fun x => LongB x.ms) = false by
          rw [List.any_eq_false]
          intro m hm
          have := HA.out m (by rw [List.take_length]; exact hm)
          rw [this]; decide)
        go_wp2
        go_ret
        exact ⟨by rw [HV.out, HT.out]; rfl, rfl⟩
theorem long_is (v : Bool) (av : Option Addr) (l : List Ev) (cap : Nat) (hv : longB l = v) (w : World) (hev : EvsAt w w.heap.size av l) (hlen : l.length ≤ maxLen) :
    Calls Try.prog 6 #[.slice av l.length cap] w fun e w' => e = .returned (.bool v) ∧ w = w' := hv ▸ long_any av l cap w hev hlen

def decB3 (a : Act') : Bool := (a.kind == 3) || (a.kind == 4)
theorem decides_any (a : Act') (w : World) : Calls Try.prog 12 #[actV a] w fun e w' => e = .returned (.bool (decB3 a)) ∧ Below w.heap.size w w' := by
  obtain ⟨kind, c, e, q, org, ayes, aorgs⟩ := a
  unfold actV decB3
  dsimp only
  cases h3 : (kind == 3)
  · go_enter Try.func12, Try.ntmps12
    go_wp2
    go_ret
    exact ⟨rfl, (Below.refl _ w).alloc (Nat.le_refl _) _⟩
  · go_enter Try.func12, Try.ntmps12
    go_wp2
    go_ret
    exact ⟨rfl, (Below.refl _ w).alloc (Nat.le_refl _) _⟩

/-- The value v is a row of the actions A. -/
def ActsV (w : World) (v : Value) (A : List Act') : Prop := ∃ a cap, v = .slice a A.length cap ∧ A.length ≤ 1000 ∧ (0 < A.length → ∃ g, a = some ⟨g, 0, none⟩ ∧ ∀ j r, A[j]? = some r → ∀ i, i < 7 → w.cell? ⟨g, j * 7 + i, none⟩ = (actL r)[i]?)
theorem flat7 (rs : List Act') (j : Nat) {r : Act'} (h : rs[j]? = some r) (i : Nat) (hi : i < 7) : (rs.flatMap actL)[j * 7 + i]? = (actL r)[i]? := by
  induction rs generalizing j with
  | nil => cases h
  | cons q rs ih =>
    cases j with
    | zero =>
      cases h
      rw [List.flatMap_cons, List.getElem?_append_left (by simp [actL]; omega)]
      simp
    | succ j =>
      rw [List.flatMap_cons, List.getElem?_append_right (by simp [actL]; omega)]
      have := ih j (by simpa using h)
      rw [show (j + 1) * 7 + i - (actL q).length = j * 7 + i from by simp [actL]; omega, this]
theorem ActsV.of {w : World} {base e : Nat} {v : Value} {A : List Act'} (h : w.ownsRow base e 7 v A.length (A.flatMap actL)) (hl : A.length ≤ 1000) : ActsV w v A := by
  rcases h.2 with ⟨h1, h2⟩ | ⟨g, cap', cur, h1, _, hg, _, _, _, ht⟩
  · exact ⟨none, 0, by rw [h1, h2], hl, fun hp => by omega⟩
  · refine ⟨_, cap', h1, hl, fun _ => ⟨g, rfl, fun j r hr i hi => ?_⟩⟩
    have hj : j < A.length := (List.getElem?_eq_some_iff.1 hr).1
    rw [cell_of_row w g (j * 7 + i) cur e (0, 0) hg, ← flat7 A j hr i hi, ← ht, List.getElem?_take, if_pos (by omega)]
    simp

set_option maxRecDepth 100000 in
set_option maxHeartbeats 2000000 in
theorem sameActs_yes (A : List Act') (v u : Value) (w : World) (hv : ActsV w v A) (hu : ActsV w u A) :
    Calls Try.prog 9 #[v, u] w fun e w' => e = .returned (.bool true) ∧ ∃ q, w' = w.drewN q := by
  obtain ⟨a, cap, rfl, hm, ha⟩ := hv
  obtain ⟨a', cap', rfl, _, ha'⟩ := hu
  have HA := Lib.hid ha
  have HA' := Lib.hid ha'
  clear ha ha'
  go_enter Try.func9, Try.ntmps9
  go_wp2
  go_loopw [5] (fun i wr => ∃ k : Nat, k ≤ A.length ∧ i = .int .i64 k ∧ ∃ q, wr = w.drewN q) (fun i _ => A.length - (intOf i).toNat)
  case atStart => exact ⟨0, Nat.zero_le _, rfl, 0, rfl⟩
  case round =>
    obtain ⟨k, hk, rfl, q, rfl⟩ := hrel
    by_cases hlt : k < A.length
    · obtain ⟨g, rfl, hc⟩ := HA.out (by omega)
      obtain ⟨g', rfl, hc'⟩ := HA'.out (by omega)
      obtain ⟨r, hr⟩ : ∃ r, A[k]? = some r := ⟨_, List.getElem?_eq_getElem hlt⟩
      have d0 := hc k r hr 0 (by omega)
      have d1 := hc k r hr 1 (by omega)
      have d2 := hc k r hr 2 (by omega)
      have d3 := hc k r hr 3 (by omega)
      have d4 := hc k r hr 4 (by omega)
      have d5 := hc k r hr 5 (by omega)
      have d6 := hc k r hr 6 (by omega)
      have b0 := hc' k r hr 0 (by omega)
      have b1 := hc' k r hr 1 (by omega)
      have b2 := hc' k r hr 2 (by omega)
      have b3 := hc' k r hr 3 (by omega)
      have b4 := hc' k r hr 4 (by omega)
      have b5 := hc' k r hr 5 (by omega)
      have b6 := hc' k r hr 6 (by omega)
      clear hc hc' hr
      obtain ⟨kind, c, e, qq, org, ayes, aorgs⟩ := r
      simp only [actL, List.getElem?_cons_zero, List.getElem?_cons_succ, Nat.add_zero] at d0 d1 d2 d3 d4 d5 d6 b0 b1 b2 b3 b4 b5 b6
      go_wp2
      go_quiet (fail)
      go_wp2
      go_roundw
      case rel => exact ⟨k + 1, by omega, by go_num, _, rfl⟩
      case measure => simp [intOf]; omega
    · go_wp2
      go_ret
      exact ⟨rfl, _, rfl⟩
end Go.Proofs.Ytkjfagchololbaa
