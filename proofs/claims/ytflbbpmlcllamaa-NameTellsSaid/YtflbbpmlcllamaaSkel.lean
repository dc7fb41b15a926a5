/- The walks of name.Skeleton and Clash. -/
import Derived.Test.YtflbbpmlcllamaaLook
import Derived.Laws.Cover4
namespace Go.Proofs.Ytflbbpmlcllamaa
open Go.RowKit Go.Lib Go.Maps

theorem conv_owns {w : World} {base cap : Nat} {a : Option Addr} {xs : List Int} (h : w.ownsRow base 21 1 (.slice a xs.length cap) xs.length (xs.map (Value.int .i32))) :
    (convert 36 9 (.slice a xs.length cap)).run Try.prog w = .ok (.string (runesBytes xs)) w := by
  rcases h.2 with ⟨h1, h2⟩ | ⟨g, cap', cur, h1, _, hg, _, _, _, ht⟩
  · injection h1 with h1 _ h3
    subst h1 h3
    rw [run_convert_runes_nil w _ _ 21 _ _ Try.underlying36 Try.underlying21 Try.underlying9, List.eq_nil_of_length_eq_zero h2]
    rfl
  · injection h1 with h1 _ h3
    subst h1
    have hc := run_convert_runes (P := Try.prog) w 36 9 21 ⟨g, 0, none⟩ xs.length cap xs (Nat.le_refl _) Try.underlying36 Try.underlying21 Try.underlying9 (fun j hj => by
      have e : (⟨g, 0, none⟩ : Addr).add j = ⟨g, j, none⟩ := by unfold Addr.add; split <;> simp_all
      rw [e, cell_of_row w g j cur _ (0, 0) hg]
      have h1 : (cur.toList.take (xs.length * 1))[j]? = some (.int .i32 (xs.getD j 0)) := by rw [ht, List.getElem?_map, List.getElem?_eq_getElem hj]; simp [List.getD_eq_getElem?_getD, List.getElem?_eq_getElem hj]
      rw [List.getElem?_take] at h1
      split at h1
      · simpa using h1
      · cases h1)
    rw [List.take_of_length_le (Nat.le_refl _)] at hc
    exact hc

def skS (s : ByteArray) : ByteArray := if checkV s = 0 then runesBytes (lookL s) else ByteArray.empty

set_option maxHeartbeats 1000000 in
theorem skel_any (s : ByteArray) (w : World) (hs : s.size ≤ 1024) : Calls Try.prog 9 #[.string s] w fun e w' => e = .returned (.tuple #[.string (skS s), .int .i64 (checkV s)]) ∧ Below w.heap.size w w' := by
  by_cases hc : checkV s = 0
  · have HC := Lib.hid hc
    have HS := Lib.hid (show skS s = runesBytes (lookL s) by rw [skS, if_pos hc])
    clear hc
    go_enter Try.func9, Try.ntmps9
    go_wp2_with (first | (go_at_call 11; refine (check_any s _ hs).mono ?_; rw [HC.out]; rintro e w1 ⟨rfl, hB⟩) | (go_at_call 21; refine (look_any s _ hs).mono ?_; rintro e w2 ⟨v, rfl, hrow, hB2⟩; obtain ⟨a, cap, rfl⟩ := slice_of_owns hrow; have hconv := conv_owns hrow))
    go_ret2
    exact ⟨by rw [HC.out, HS.out]; rfl, hB.trans (hB2.mono hB.size)⟩
  · have HS := Lib.hid (show skS s = ByteArray.empty by rw [skS, if_neg hc])
    have hc' : (checkV s != 0) = true := by simpa using hc
    clear hc
    go_enter Try.func9, Try.ntmps9
    go_wp2_with (go_at_call 11; refine (check_any s _ hs).mono ?_; rintro e w1 ⟨rfl, hB⟩)
    go_ret2
    exact ⟨by rw [HS.out]; rfl, hB⟩

theorem skel_any' (s x : ByteArray) (w : World) (hs : s.size ≤ 1024) (hx : skS s = x) : Calls Try.prog 9 #[.string s] w fun e w' => e = .returned (.tuple #[.string x, .int .i64 (checkV s)]) ∧ Below w.heap.size w w' := hx ▸ skel_any s w hs

def clashV (a b : ByteArray) : Bool := (checkV a == 0) && ((checkV b == 0) && (!(a.toList == b.toList) && ((skS a).toList == (skS b).toList)))

set_option maxHeartbeats 1000000 in
theorem clash_any (a b : ByteArray) (w : World) (ha : a.size ≤ 1024) (hb : b.size ≤ 1024) : Calls Try.prog 17 #[.string a, .string b] w fun e w' => e = .returned (.bool (clashV a b)) ∧ Below w.heap.size w w' := by
  obtain ⟨ca, hca⟩ : ∃ c, checkV a = c := ⟨_, rfl⟩
  obtain ⟨cb, hcb⟩ : ∃ c, checkV b = c := ⟨_, rfl⟩
  have hcv : clashV a b = ((ca == 0) && ((cb == 0) && (!(a.toList == b.toList) && ((skS a).toList == (skS b).toList)))) := by rw [clashV, hca, hcb]
  have HA := Lib.hid hca
  have HBB := Lib.hid hcb
  clear hca hcb
  obtain ⟨x, hx⟩ : ∃ x, skS a = x := ⟨_, rfl⟩
  obtain ⟨y, hy⟩ : ∃ y, skS b = y := ⟨_, rfl⟩
  rw [hx, hy] at hcv
  have HX := Lib.hid hx
  have HY := Lib.hid hy
  clear hx hy
  by_cases h1 : ca = 0
  · subst h1
    by_cases h2 : cb = 0
    · subst h2
      by_cases h3 : (a.toList == b.toList) = true
      · have HV := Lib.hid (show clashV a b = false by rw [hcv, h3]; rfl)
        clear hcv
        go_enter Try.func17, Try.ntmps17
        go_wp2_with (first | (go_at_call 9; ((with_reducible refine (skel_any' a x _ ha HX.out).mono ?_)); rw [HA.out]; rintro e w1 ⟨rfl, hB⟩) | (go_at_call 9; ((with_reducible refine (skel_any' b y _ hb HY.out).mono ?_)); rw [HBB.out]; rintro e w2 ⟨rfl, hB2⟩))
        go_ret
        exact ⟨by rw [HV.out]; rfl, hB.trans (hB2.mono hB.size)⟩
      · have h3' : (a.toList == b.toList) = false := by simpa using h3
        have HV := Lib.hid (show clashV a b = (x.toList == y.toList) by rw [hcv, h3']; rfl)
        clear hcv h3
        go_enter Try.func17, Try.ntmps17
        go_wp2_with (first | (go_at_call 9; ((with_reducible refine (skel_any' a x _ ha HX.out).mono ?_)); rw [HA.out]; rintro e w1 ⟨rfl, hB⟩) | (go_at_call 9; ((with_reducible refine (skel_any' b y _ hb HY.out).mono ?_)); rw [HBB.out]; rintro e w2 ⟨rfl, hB2⟩))
        go_ret
        exact ⟨by rw [HV.out]; rfl, hB.trans (hB2.mono hB.size)⟩
    · have h2' : (cb == 0) = false := by simpa using h2
      have HV := Lib.hid (show clashV a b = false by rw [hcv, h2']; rfl)
      clear hcv h2
      go_enter Try.func17, Try.ntmps17
      go_wp2_with (first | (go_at_call 9; ((with_reducible refine (skel_any' a x _ ha HX.out).mono ?_)); rw [HA.out]; rintro e w1 ⟨rfl, hB⟩) | (go_at_call 9; ((with_reducible refine (skel_any' b y _ hb HY.out).mono ?_)); rw [HBB.out]; rintro e w2 ⟨rfl, hB2⟩))
      go_ret
      exact ⟨by rw [HV.out]; rfl, hB.trans (hB2.mono hB.size)⟩
  · have h1' : (ca == 0) = false := by simpa using h1
    have HV := Lib.hid (show clashV a b = false by rw [hcv, h1']; rfl)
    clear hcv h1
    go_enter Try.func17, Try.ntmps17
    go_wp2_with (first | (go_at_call 9; ((with_reducible refine (skel_any' a x _ ha HX.out).mono ?_)); rw [HA.out]; rintro e w1 ⟨rfl, hB⟩) | (go_at_call 9; ((with_reducible refine (skel_any' b y _ hb HY.out).mono ?_)); rw [HBB.out]; rintro e w2 ⟨rfl, hB2⟩))
    go_ret
    exact ⟨by rw [HV.out]; rfl, hB.trans (hB2.mono hB.size)⟩
end Go.Proofs.Ytflbbpmlcllamaa
