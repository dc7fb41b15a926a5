/- The walks of the document's answer: Runes, script, sign, Compare. -/
import Derived.Test.YtflbbpmlcllamaaRowMath
import Derived.WalkSmall
namespace Go.Proofs.Ytflbbpmlcllamaa
open Go.RowKit Go.Lib Go.Maps

set_option maxHeartbeats 2000000 in
theorem rRunes_any (s : ByteArray) (w : World) (hs : s.size ≤ 1024) : Calls Try.prog 24 #[.string s] w fun e w' => ∃ v, e = .returned v ∧ w'.ownsRow w.heap.size 21 1 v (runes s).length ((runes s).map (Value.int .i32)) ∧ Below w.heap.size w w' := by
  obtain ⟨i0, hi, hz0, hz1, hz2⟩ := info_parts info32
  go_enter Try.func24, Try.ntmps24
  go_wp2
  go_loopw [3] (fun vo wr => ∃ (pos b : Nat) (acc : List Int), acc ++ runesFrom s b pos = runes s ∧ acc.length ≤ pos ∧ acc.length ≤ s.size ∧ s.size ≤ pos + b ∧ wr.heap[w.heap.size]? = some (.stringIter s pos) ∧
      wr.ownsRow w.heap.size 21 1 vo acc.length (acc.map (Value.int .i32)) ∧ Below w.heap.size w wr) (fun _ wr => s.size - wr.iterPos w.heap.size)
  case atStart => exact ⟨0, s.size, [], rfl, by simp, by simp, by omega, World.iter_heap _ _ _, World.ownsRow_nil _ _ _ _, (Below.refl _ _).alloc (Nat.le_refl _) _⟩
  case round =>
    obtain ⟨pos, b, acc, hacc, hap, has, hb, hit, hrow, hB⟩ := hrel
    by_cases hp : pos < s.size
    · obtain ⟨b, rfl⟩ : ∃ m, b = m + 1 := ⟨b - 1, by omega⟩
      rw [runesFrom_step s b pos hp] at hacc
      have hnx := fun ty => run_next_any_at (P := Try.prog) wr w.heap.size s pos ty hit hp
      have hwd := Lib.decode_width_pos s pos hp
      have hit2 := iterAt_heap wr w.heap.size s pos (pos + (Utf8.decode s pos).2) hit
      have hoI : Only (fun k => k = w.heap.size) wr (wr.iterAt w.heap.size s (pos + (Utf8.decode s pos).2)) := ⟨rfl, rfl, rfl, by simp [World.iterAt], fun j hj hne => by simp only [World.iterAt, Array.getElem?_setIfInBounds]; rw [if_neg (fun e => hne e.symm)]⟩
      have hrow2 := hoI.owns hrow (fun k hk e => not_own hrow hit rfl (by rw [hk, e]))
      have hB2 := Below.iterAt hB (Nat.le_refl _) s (pos + (Utf8.decode s pos).2)
      have hip := iterPos_at hit
      have hrb : 0 ≤ ((Utf8.decode s pos).1 : Int) := by omega
      have hrb2 : ((Utf8.decode s pos).1 : Int) ≤ 2147483647 := by have := decode_le s pos; omega
      have HR := Lib.hid hacc
      have HIP := Lib.hid hip
      clear hacc hip
      generalize ((Utf8.decode s pos).1 : Int) = r at *
      generalize (Utf8.decode s pos).2 = wd at *
      have hlen : acc.length + 1 ≤ s.size := by
        have e := congrArg List.length HR.out
        have h2 := runes_length s
        simp at e
        omega
      go_wp2_with (at_builtin; refine wpList_append_own _ rfl _ _ 36 rfl w.heap.size 21 i0 (.int .i32 0) 1 4 Try.underlying36 hi hz0 hz1 hz2 rfl (by decide) _ _ _ rfl (hrow2.alloc _) ⟨(wr.iterAt w.heap.size s (pos + wd)).heap.size, 0, none⟩ 1 1 [.int .i32 r] rfl rfl (cell_one_new _ _ _) (by simp [Value.oneCell']) (by unfold maxLen; omega) (by omega) (by have := hB2.size; simp; omega) ?_; intro v' w2 hown' hgrow _)
      have hg2 : Only (fun k => u3.ownBlock = some k) (wr.iterAt w.heap.size s (pos + wd)) w2 := ((Only.refl _ _).alloc _).grown hgrow (fun k e => e)
      have hit3 := hg2.obj hit2 (not_own hrow2 hit2 rfl)
      have hip3 := iterPos_at hit3
      exact ⟨⟨pos + wd, b, acc ++ [r], by rw [← HR.out]; simp, by simp; omega, by simp; omega, by omega, hit3, by simpa using hown', hB2.trans (hg2.below hB2.size (fun k e => (hrow2.lt k e).1))⟩, by rw [hip3, HIP.out]; omega⟩
    · have hnx := fun ty => run_next_end_at (P := Try.prog) wr w.heap.size s pos ty hit hp
      rw [runesFrom_end s b pos hp, List.append_nil] at hacc
      obtain ⟨a, cap, rfl⟩ := slice_of_owns hrow
      subst hacc
      go_wp2
      go_ret
      exact ⟨_, rfl, hrow, hB⟩

theorem rscript_any (r : Int) (w : World) : Calls Try.prog 25 #[.int .i32 r] w fun e w' => e = .returned (.int .u8 (ofV r)) ∧ w = w' := by
  by_cases h0 : r < 97
  · have HV := Lib.hid (show ofV r = 0 by unfold ofV; split <;> (try split) <;> (try split) <;> omega)
    go_enter Try.func25, Try.ntmps25
    go_wp2
    go_ret
    exact ⟨by rw [HV.out]; rfl, rfl⟩
  by_cases h1 : r ≤ 122
  · have HV := Lib.hid (show ofV r = 1 by unfold ofV; split <;> (try split) <;> (try split) <;> omega)
    go_enter Try.func25, Try.ntmps25
    go_wp2
    go_ret
    exact ⟨by rw [HV.out]; rfl, rfl⟩
  by_cases h2 : r < 945
  · have HV := Lib.hid (show ofV r = 0 by unfold ofV; split <;> (try split) <;> (try split) <;> omega)
    go_enter Try.func25, Try.ntmps25
    go_wp2
    go_ret
    exact ⟨by rw [HV.out]; rfl, rfl⟩
  by_cases h3 : r ≤ 969
  · have HV := Lib.hid (show ofV r = 2 by unfold ofV; split <;> (try split) <;> (try split) <;> omega)
    go_enter Try.func25, Try.ntmps25
    go_wp2
    go_ret
    exact ⟨by rw [HV.out]; rfl, rfl⟩
  by_cases h4 : r < 1072
  · have HV := Lib.hid (show ofV r = 0 by unfold ofV; split <;> (try split) <;> (try split) <;> omega)
    go_enter Try.func25, Try.ntmps25
    go_wp2
    go_ret
    exact ⟨by rw [HV.out]; rfl, rfl⟩
  by_cases h5 : r ≤ 1103
  · have HV := Lib.hid (show ofV r = 3 by unfold ofV; split <;> (try split) <;> (try split) <;> omega)
    go_enter Try.func25, Try.ntmps25
    go_wp2
    go_ret
    exact ⟨by rw [HV.out]; rfl, rfl⟩
  have HV := Lib.hid (show ofV r = 0 by unfold ofV; split <;> (try split) <;> (try split) <;> omega)
  go_enter Try.func25, Try.ntmps25
  go_wp2
  go_ret
  exact ⟨by rw [HV.out]; rfl, rfl⟩

def signV (r : Int) : Bool := decide ((48 ≤ r ∧ r ≤ 57) ∨ r = 45)
theorem rsign_any (r : Int) (w : World) : Calls Try.prog 26 #[.int .i32 r] w fun e w' => e = .returned (.bool (signV r)) ∧ w = w' := by
  by_cases h0 : r < 45
  · have HV := Lib.hid (show signV r = false by simp [signV]; omega)
    have hne : (r == 45) = false := by simp; omega
    go_enter Try.func26, Try.ntmps26
    go_wp2
    go_ret
    exact ⟨by rw [HV.out]; rfl, rfl⟩
  by_cases h1 : r = 45
  · subst h1
    have HV := Lib.hid (show signV 45 = true by decide)
    go_enter Try.func26, Try.ntmps26
    go_wp2
    go_ret
    exact ⟨by rw [HV.out]; rfl, rfl⟩
  by_cases h2 : r < 48
  · have HV := Lib.hid (show signV r = false by simp [signV]; omega)
    have hne : (r == 45) = false := by simpa using h1
    go_enter Try.func26, Try.ntmps26
    go_wp2
    go_ret
    exact ⟨by rw [HV.out]; rfl, rfl⟩
  by_cases h3 : r ≤ 57
  · have HV := Lib.hid (show signV r = true by simp [signV]; omega)
    have hne : (r == 45) = false := by simpa using h1
    go_enter Try.func26, Try.ntmps26
    go_wp2
    go_ret
    exact ⟨by rw [HV.out]; rfl, rfl⟩
  have HV := Lib.hid (show signV r = false by simp [signV]; omega)
  have hne : (r == 45) = false := by simpa using h1
  go_enter Try.func26, Try.ntmps26
  go_wp2
  go_ret
  exact ⟨by rw [HV.out]; rfl, rfl⟩

theorem _root_.Go.RowKit.Below.drewN {B : Nat} {a w : World} (h : Below B a w) (q : Nat) : Below B a (w.drewN q) := below_drewN h q
theorem drewN_add (w : World) (a b : Nat) : (w.drewN a).drewN b = w.drewN (a + b) := by simp [World.drewN, Nat.add_assoc]

set_option maxHeartbeats 1000000 in
theorem rCompare_any (xs ys : List Int) (v u : Value) (w : World) (hv : Runes w v xs) (hu : Runes w u ys) :
    Calls Try.prog 28 #[v, u] w fun e w' => e = .returned (.int .i64 (cmpL xs ys)) ∧ ∃ q, w' = w.drewN q := by
  obtain ⟨a, cap, rfl, hm, ha⟩ := hv
  obtain ⟨a', cap', rfl, hm', ha'⟩ := hu
  obtain ⟨P, hP⟩ : ∃ P, cmpL xs ys = P := ⟨_, rfl⟩
  rw [hP]
  have HP := Lib.hid hP
  clear hP
  go_enter Try.func28, Try.ntmps28
  go_wp2
  go_loopw [5] (fun i wr => ∃ k : Nat, k ≤ xs.length ∧ k ≤ ys.length ∧ i = .int .i64 k ∧ cmpL (xs.drop k) (ys.drop k) = P ∧ ∃ q, wr = w.drewN q) (fun i _ => xs.length - (intOf i).toNat)
  case atStart => exact ⟨0, by omega, by omega, rfl, HP.out, 0, rfl⟩
  case round =>
    obtain ⟨k, hk, hk', rfl, hr, q, rfl⟩ := hrel
    by_cases hlt : k < xs.length
    · obtain ⟨b, rfl, hc⟩ := ha (by omega)
      have h1 := hc k hlt
      rw [drop_get xs k hlt] at hr
      clear hc ha
      by_cases hlt' : k < ys.length
      · obtain ⟨b', rfl, hc'⟩ := ha' (by omega)
        have h2 := hc' k hlt'
        rw [drop_get ys k hlt'] at hr
        have HR := Lib.hid hr
        clear hr hc' ha'
        generalize xs.getD k 0 = x at *
        generalize ys.getD k 0 = y at *
        rcases Int.lt_trichotomy x y with h | h | h
        · have hp : P = -1 := by rw [← HR.out, cmpL, if_pos h]
          have HQ := Lib.hid hp
          clear hp
          go_wp2
          go_quiet (fail)
          go_wp2
          go_ret
          exact ⟨by rw [HQ.out]; rfl, _, by (try simp only [drewN_add]); rfl⟩
        · subst h
          have hp : cmpL (xs.drop (k + 1)) (ys.drop (k + 1)) = P := by rw [← HR.out, cmpL, if_neg (by omega), if_neg (by omega)]
          have HQ := Lib.hid hp
          clear hp
          go_wp2
          go_quiet (fail)
          go_wp2
          go_quiet (fail)
          go_wp2
          go_roundw
          case rel => exact ⟨k + 1, by omega, by omega, by go_num, HQ.out, _, by (try simp only [drewN_add]); rfl⟩
          case measure => simp [intOf]; omega
        · have hp : P = 1 := by rw [← HR.out, cmpL, if_neg (by omega), if_pos h]
          have HQ := Lib.hid hp
          clear hp
          go_wp2
          go_quiet (fail)
          go_wp2
          go_quiet (fail)
          go_wp2
          go_ret
          exact ⟨by rw [HQ.out]; rfl, _, by (try simp only [drewN_add]); rfl⟩
      · rw [List.drop_of_length_le (l := ys) (by omega)] at hr
        have hp : P = 1 := by rw [← hr]; rfl
        have HQ := Lib.hid hp
        clear hp hr
        generalize xs.getD k 0 = x at *
        go_wp2
        go_ret
        exact ⟨by rw [HQ.out]; rfl, _, by (try simp only [drewN_add]); rfl⟩
    · rw [List.drop_of_length_le (l := xs) (by omega)] at hr
      by_cases hlt' : xs.length < ys.length
      · rw [drop_get ys k (by omega)] at hr
        have hp : P = -1 := by rw [← hr]; rfl
        have HQ := Lib.hid hp
        clear hp hr
        go_wp2
        go_ret
        exact ⟨by rw [HQ.out]; rfl, _, by (try simp only [drewN_add]); rfl⟩
      · rw [List.drop_of_length_le (l := ys) (by omega)] at hr
        have hp : P = 0 := by rw [← hr]; rfl
        have HQ := Lib.hid hp
        clear hp hr
        go_wp2
        go_ret
        exact ⟨by rw [HQ.out]; rfl, _, by (try simp only [drewN_add]); rfl⟩
end Go.Proofs.Ytflbbpmlcllamaa
