/- The walks of the document's Clash and Order. -/
import Derived.Test.YtflbbpmlcllamaaRefCW
import Derived.Test.YtflbbpmlcllamaaRefL
namespace Go.Proofs.Ytflbbpmlcllamaa
open Go.RowKit Go.Lib Go.Maps

theorem sk_cmp {a b : ByteArray} (ha : checkV a = 0) (hb : checkV b = 0) : ((skS a).toList == (skS b).toList) = (cmpL (lookL a) (lookL b) == 0) := by
  rw [Bool.eq_iff_iff, beq_iff_eq, beq_iff_eq, toList_inj, skS, if_pos ha, skS, if_pos hb]
  constructor
  · intro h
    rw [bytes_inj (nameL_lo ha) (nameL_lo hb) h, cmpL_refl]
  · intro h
    rw [cmpL_eq _ _ h]
theorem rcheck_is (s : ByteArray) (v : Int) (w : World) (hs : s.size ≤ 1024) (h : checkV s = v) : Calls Try.prog 12 #[.string s] w fun e w' => e = .returned (.int .i64 v) ∧ Below w.heap.size w w' := h ▸ rCheck_any s w hs
theorem rcmp_is (xs ys : List Int) (p : Int) (v u : Value) (w : World) (hv : Runes w v xs) (hu : Runes w u ys) (h : cmpL xs ys = p) :
    Calls Try.prog 28 #[v, u] w fun e w' => e = .returned (.int .i64 p) ∧ ∃ q, w' = w.drewN q := h ▸ rCompare_any xs ys v u w hv hu

set_option maxHeartbeats 4000000 in
theorem rClash_any (a b : ByteArray) (w : World) (ha : a.size ≤ 1024) (hb : b.size ≤ 1024) : Calls Try.prog 18 #[.string a, .string b] w fun e w' => e = .returned (.bool (clashV a b)) ∧ Below w.heap.size w w' := by
  obtain ⟨x, hx⟩ : ∃ x, checkV a = x := ⟨_, rfl⟩
  obtain ⟨y, hy⟩ : ∃ x, checkV b = x := ⟨_, rfl⟩
  have HX := Lib.hid hx
  have HY := Lib.hid hy
  by_cases h1 : x = 0
  · subst h1
    by_cases h2 : y = 0
    · subst h2
      by_cases h3 : (a.toList == b.toList) = true
      · have HV := Lib.hid (show clashV a b = false by rw [clashV, hx, hy, h3]; rfl)
        clear hx hy
        have hB := Below.refl w.heap.size w
        go_enter Try.func18, Try.ntmps18
        go_wp2_with (first | (go_at_call 12; ((with_reducible refine (rcheck_is a 0 _ ha HX.out).mono ?_)); rintro e w' ⟨rfl, hB'⟩; have hB := hB.trans (hB'.mono hB.size); clear hB') | (go_at_call 12; ((with_reducible refine (rcheck_is b 0 _ hb HY.out).mono ?_)); rintro e w' ⟨rfl, hB'⟩; have hB := hB.trans (hB'.mono hB.size); clear hB'))
        go_ret
        exact ⟨by rw [HV.out]; rfl, hB⟩
      · have h3' : (a.toList == b.toList) = false := by simpa using h3
        obtain ⟨p, hp⟩ : ∃ p, cmpL (lookL a) (lookL b) = p := ⟨_, rfl⟩
        have HV := Lib.hid (show clashV a b = (p == 0) by rw [clashV, hx, hy, h3', sk_cmp hx hy, hp]; rfl)
        have HP := Lib.hid hp
        have hla : (lookL a).length ≤ 1024 := by unfold lookL; rw [List.length_map]; have := runes_length a; omega
        have hlb : (lookL b).length ≤ 1024 := by unfold lookL; rw [List.length_map]; have := runes_length b; omega
        clear hx hy h3 hp
        have hB := Below.refl w.heap.size w
        go_enter Try.func18, Try.ntmps18
        go_wp2_with (first | (go_at_call 12; ((with_reducible refine (rcheck_is a 0 _ ha HX.out).mono ?_)); rintro e w' ⟨rfl, hB'⟩; have hB := hB.trans (hB'.mono hB.size); clear hB') | (go_at_call 12; ((with_reducible refine (rcheck_is b 0 _ hb HY.out).mono ?_)); rintro e w' ⟨rfl, hB'⟩; have hB := hB.trans (hB'.mono hB.size); clear hB') | (go_at_call 22; ((with_reducible refine (rLooks_any a _ ha).mono ?_)); rintro e w3 ⟨va, rfl, ra, hB'⟩; have hB := hB.trans (hB'.mono hB.size); clear hB'; obtain ⟨aa, ca, rfl⟩ : ∃ x y, va = .slice x (lookL a).length y := (by obtain ⟨x, y, h, _⟩ := ra; exact ⟨x, y, h⟩)) | (go_at_call 22; ((with_reducible refine (rLooks_any b _ hb).mono ?_)); rintro e w4 ⟨vb, rfl, rb, hB'⟩; have ra' := ra.kept (fun p x h => (Only.of_below hB').cell h id); have hB := hB.trans (hB'.mono hB.size); clear hB' ra; obtain ⟨ab, cb, rfl⟩ : ∃ x y, vb = .slice x (lookL b).length y := (by obtain ⟨x, y, h, _⟩ := rb; exact ⟨x, y, h⟩)) | (go_at_call 28; ((with_reducible refine (rcmp_is (lookL a) (lookL b) p _ _ _ (by exact ra') (by exact rb) HP.out).mono ?_)); rintro e w5 ⟨rfl, q, rfl⟩))
        go_ret
        exact ⟨by rw [HV.out]; rfl, hB.drewN _⟩
    · have HV := Lib.hid (show clashV a b = false by rw [clashV, hx, hy, show (y == 0) = false by simpa using h2]; rfl)
      have h2' : (y == 0) = false := by simpa using h2
      clear hx hy h2
      have hB := Below.refl w.heap.size w
      go_enter Try.func18, Try.ntmps18
      go_wp2_with (first | (go_at_call 12; ((with_reducible refine (rcheck_is a 0 _ ha HX.out).mono ?_)); rintro e w' ⟨rfl, hB'⟩; have hB := hB.trans (hB'.mono hB.size); clear hB') | (go_at_call 12; ((with_reducible refine (rcheck_is b y _ hb HY.out).mono ?_)); rintro e w' ⟨rfl, hB'⟩; have hB := hB.trans (hB'.mono hB.size); clear hB'))
      go_ret
      exact ⟨by rw [HV.out]; rfl, hB⟩
  · have HV := Lib.hid (show clashV a b = false by rw [clashV, hx, show (x == 0) = false by simpa using h1]; rfl)
    have h1' : (x == 0) = false := by simpa using h1
    clear hx hy h1
    have hB := Below.refl w.heap.size w
    go_enter Try.func18, Try.ntmps18
    go_wp2_with (first | (go_at_call 12; ((with_reducible refine (rcheck_is a x _ ha HX.out).mono ?_)); rintro e w' ⟨rfl, hB'⟩; have hB := hB.trans (hB'.mono hB.size); clear hB'))
    go_ret
    exact ⟨by rw [HV.out]; rfl, hB⟩

set_option maxHeartbeats 4000000 in
theorem rOrder_any (a b : ByteArray) (w : World) (ha : a.size ≤ 1024) (hb : b.size ≤ 1024) : Calls Try.prog 20 #[.string a, .string b] w fun e w' => e = .returned (.int .i64 (orderV a b)) ∧ Below w.heap.size w w' := by
  obtain ⟨x, hx⟩ : ∃ x, checkV a = x := ⟨_, rfl⟩
  obtain ⟨y, hy⟩ : ∃ x, checkV b = x := ⟨_, rfl⟩
  have HX := Lib.hid hx
  have HY := Lib.hid hy
  by_cases h1 : x = 0
  · subst h1
    by_cases h2 : y = 0
    · subst h2
      have hla : (lookL a).length ≤ 1024 := by unfold lookL; rw [List.length_map]; have := runes_length a; omega
      have hlb : (lookL b).length ≤ 1024 := by unfold lookL; rw [List.length_map]; have := runes_length b; omega
      have hra : (runes a).length ≤ 1024 := by have := runes_length a; omega
      have hrb : (runes b).length ≤ 1024 := by have := runes_length b; omega
      by_cases hp0 : cmpL (lookL a) (lookL b) = 0
      · have HV := Lib.hid (show orderV a b = cmpL (runes a) (runes b) by rw [orderV, if_pos ⟨hx, hy⟩, if_pos hp0])
        have HP := Lib.hid hp0
        clear hx hy hp0
        have hB := Below.refl w.heap.size w
        go_enter Try.func20, Try.ntmps20
        go_wp2_with fail
        refine (rcheck_is a 0 _ ha HX.out).mono ?_
        rintro e w1 ⟨rfl, b1⟩
        go_wp2_with fail
        refine (rcheck_is b 0 _ hb HY.out).mono ?_
        rintro e w2 ⟨rfl, b2⟩
        go_wp2_with fail
        refine (rLooks_any a _ ha).mono ?_
        rintro e w3 ⟨va, rfl, ra, b3⟩
        go_wp2_with fail
        refine (rLooks_any b _ hb).mono ?_
        rintro e w4 ⟨vb, rfl, rb, b4⟩
        go_wp2_with fail
        refine (rcmp_is _ _ 0 _ _ _ (ra.kept (fun p x h => (Only.of_below b4).cell h id)) rb HP.out).mono ?_
        rintro e w5 ⟨rfl, q, rfl⟩
        go_wp2_with fail
        refine (rRunes_any a _ ha).mono ?_
        rintro e w6 ⟨ua, rfl, sa, b5⟩
        go_wp2_with fail
        refine (rRunes_any b _ hb).mono ?_
        rintro e w7 ⟨ub, rfl, sb, b6⟩
        go_wp2_with fail
        refine (rCompare_any (runes a) (runes b) _ _ _ (Runes.of_owns ((Only.of_below b6).owns sa (fun _ _ => id)) hra) (Runes.of_owns sb hrb)).mono ?_
        rintro e w8 ⟨rfl, q', rfl⟩
        go_wp2_with fail
        go_ret
        have s1 := b1.size
        have s2 := Nat.le_trans s1 b2.size
        have s3 := Nat.le_trans s2 b3.size
        have s4 := Nat.le_trans s3 b4.size
        have s5 := Nat.le_trans s4 b5.size
        exact ⟨by rw [HV.out]; rfl, ((((((b1.trans (b2.mono s1)).trans (b3.mono s2)).trans (b4.mono s3)).drewN q).trans (b5.mono s4)).trans (b6.mono s5)).drewN q'⟩
      · obtain ⟨p, hp⟩ : ∃ p, cmpL (lookL a) (lookL b) = p := ⟨_, rfl⟩
        have HV := Lib.hid (show orderV a b = p by rw [orderV, if_pos ⟨hx, hy⟩, if_neg hp0, hp])
        have HP := Lib.hid hp
        rw [hp] at hp0
        have hp' : (p != 0) = true := by simpa using hp0
        clear hx hy hp0 hp
        go_enter Try.func20, Try.ntmps20
        go_wp2_with fail
        refine (rcheck_is a 0 _ ha HX.out).mono ?_
        rintro e w1 ⟨rfl, b1⟩
        go_wp2_with fail
        refine (rcheck_is b 0 _ hb HY.out).mono ?_
        rintro e w2 ⟨rfl, b2⟩
        go_wp2_with fail
        refine (rLooks_any a _ ha).mono ?_
        rintro e w3 ⟨va, rfl, ra, b3⟩
        go_wp2_with fail
        refine (rLooks_any b _ hb).mono ?_
        rintro e w4 ⟨vb, rfl, rb, b4⟩
        go_wp2_with fail
        refine (rcmp_is _ _ p _ _ _ (ra.kept (fun p x h => (Only.of_below b4).cell h id)) rb HP.out).mono ?_
        rintro e w5 ⟨rfl, q, rfl⟩
        go_wp2_with fail
        go_ret
        have s1 := b1.size
        have s2 := Nat.le_trans s1 b2.size
        have s3 := Nat.le_trans s2 b3.size
        exact ⟨by rw [HV.out]; rfl, (((b1.trans (b2.mono s1)).trans (b3.mono s2)).trans (b4.mono s3)).drewN q⟩
    · have HV := Lib.hid (show orderV a b = 0 by rw [orderV, if_neg (fun h => h2 (hy.symm.trans h.2))])
      have h2' : (y != 0) = true := by simpa using h2
      clear hx hy h2
      go_enter Try.func20, Try.ntmps20
      go_wp2_with fail
      refine (rcheck_is a 0 _ ha HX.out).mono ?_
      rintro e w1 ⟨rfl, b1⟩
      go_wp2_with fail
      refine (rcheck_is b y _ hb HY.out).mono ?_
      rintro e w2 ⟨rfl, b2⟩
      go_wp2_with fail
      go_ret
      exact ⟨by rw [HV.out]; rfl, b1.trans (b2.mono b1.size)⟩
  · have HV := Lib.hid (show orderV a b = 0 by rw [orderV, if_neg (fun h => h1 (hx.symm.trans h.1))])
    have h1' : (x != 0) = true := by simpa using h1
    clear hx hy h1
    go_enter Try.func20, Try.ntmps20
    go_wp2_with fail
    refine (rcheck_is a x _ ha HX.out).mono ?_
    rintro e w1 ⟨rfl, b1⟩
    go_wp2_with fail
    go_ret
    exact ⟨by rw [HV.out]; rfl, b1⟩
end Go.Proofs.Ytflbbpmlcllamaa
