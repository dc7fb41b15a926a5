/- The walks of slices.Compare over runes, cmp.Compare, cmp.Or, and name.Order. -/
import Derived.Test.YtflbbpmlcllamaaSkel
namespace Go.Proofs.Ytflbbpmlcllamaa
open Go.RowKit Go.Lib Go.Maps

/-- The value v is a slice whose elements are the runes xs. -/
def Runes (w : World) (v : Value) (xs : List Int) : Prop :=
  ∃ a cap, v = .slice a xs.length cap ∧ xs.length ≤ 1024 ∧ (0 < xs.length → ∃ b, a = some ⟨b, 0, none⟩ ∧ ∀ i, i < xs.length → w.cell? ⟨b, i, none⟩ = some (.int .i32 (xs.getD i 0)))

theorem Runes.of_owns {w : World} {base e n : Nat} {v : Value} {xs : List Int} (h : w.ownsRow base e 1 v n (xs.map (Value.int .i32))) (hx : xs.length ≤ 1024) : Runes w v xs := by
  obtain ⟨hl, h2⟩ := h
  simp at hl
  rcases h2 with ⟨rfl, rfl⟩ | ⟨g, cap, cur, rfl, _, hg, hn, hm, _, ht⟩
  · exact ⟨none, 0, by rw [hl], hx, fun h => by omega⟩
  · refine ⟨_, cap, by rw [hl], hx, fun _ => ⟨g, rfl, fun i hi => ?_⟩⟩
    rw [cell_of_row w g i cur e (0, 0) hg]
    have h1 : (cur.toList.take (n * 1))[i]? = some (.int .i32 (xs.getD i 0)) := by rw [ht, List.getElem?_map, List.getElem?_eq_getElem hi]; simp [List.getD_eq_getElem?_getD, List.getElem?_eq_getElem hi]
    rw [List.getElem?_take] at h1
    split at h1
    · simpa using h1
    · cases h1
theorem Runes.kept {w w' : World} {v : Value} {xs : List Int} (h : Runes w v xs) (hk : ∀ a x, w.cell? a = some x → w'.cell? a = some x) : Runes w' v xs := by
  obtain ⟨a, cap, h1, h2, h3⟩ := h
  refine ⟨a, cap, h1, h2, fun hp => ?_⟩
  obtain ⟨b, h4, h5⟩ := h3 hp
  exact ⟨b, h4, fun i hi => hk _ _ (h5 i hi)⟩

def cmpV (a b : Int) : Int := if a < b then -1 else if b < a then 1 else 0
def cmpL : List Int → List Int → Int
  | [], [] => 0
  | [], _ :: _ => -1
  | _ :: _, [] => 1
  | a :: l, b :: m => if a < b then -1 else if b < a then 1 else cmpL l m

theorem cmp1_any (a b : Int) (w : World) : Calls Try.prog 33 #[.int .i32 a, .int .i32 b] w fun e w' => e = .returned (.int .i64 (cmpV a b)) ∧ w = w' := by
  rcases Int.lt_trichotomy a b with h | h | h
  · have HV := Lib.hid (show cmpV a b = -1 by rw [cmpV, if_pos h])
    go_enter Try.func33, Try.ntmps33
    go_wp2
    go_ret
    exact ⟨by rw [HV.out]; rfl, rfl⟩
  · subst h
    have HV := Lib.hid (show cmpV a a = 0 by rw [cmpV, if_neg (by omega), if_neg (by omega)])
    go_enter Try.func33, Try.ntmps33
    go_wp2
    go_ret
    exact ⟨by rw [HV.out]; rfl, rfl⟩
  · have HV := Lib.hid (show cmpV a b = 1 by rw [cmpV, if_neg (by omega), if_pos h])
    go_enter Try.func33, Try.ntmps33
    go_wp2
    go_ret
    exact ⟨by rw [HV.out]; rfl, rfl⟩

theorem drop_get (xs : List Int) (k : Nat) (h : k < xs.length) : xs.drop k = xs.getD k 0 :: xs.drop (k + 1) := by
  rw [List.drop_eq_getElem_cons h, List.getD_eq_getElem?_getD, List.getElem?_eq_getElem h]; rfl

set_option maxHeartbeats 1000000 in
theorem cmpL_any (xs ys : List Int) (v u : Value) (w : World) (hv : Runes w v xs) (hu : Runes w u ys) :
    Calls Try.prog 30 #[v, u] w fun e w' => e = .returned (.int .i64 (cmpL xs ys)) ∧ w = w' := by
  obtain ⟨a, cap, rfl, hm, ha⟩ := hv
  obtain ⟨a', cap', rfl, hm', ha'⟩ := hu
  obtain ⟨P, hP⟩ : ∃ P, cmpL xs ys = P := ⟨_, rfl⟩
  rw [hP]
  have HP := Lib.hid hP
  clear hP
  go_enter Try.func30, Try.ntmps30
  go_wp2
  go_loop [11] (fun i => ∃ k : Nat, k ≤ xs.length ∧ k ≤ ys.length ∧ i = .int .i64 k ∧ cmpL (xs.drop k) (ys.drop k) = P) (fun i => xs.length - (intOf i).toNat)
  case atStart => exact ⟨0, by omega, by omega, rfl, HP.out⟩
  case round =>
    obtain ⟨k, hk, hk', rfl, hr⟩ := hrel
    by_cases hlt : k < xs.length
    · obtain ⟨b, rfl, hc⟩ := ha (by omega)
      have h1 := hc k hlt
      rw [drop_get xs k hlt] at hr
      clear hc ha
      by_cases hlt' : k < ys.length
      · obtain ⟨b', rfl, hc'⟩ := ha' (by omega)
        have h2 := hc' k hlt'
        rw [drop_get ys k hlt'] at hr
        have HR := Lib.hid hr
        clear hr hc' ha'
        generalize xs.getD k 0 = x at *
        generalize ys.getD k 0 = y at *
        rcases Int.lt_trichotomy x y with h | h | h
        · have hp : P = -1 := by rw [← HR.out, cmpL, if_pos h]
          have HQ := Lib.hid hp
          have hcv : cmpV x y = -1 := by rw [cmpV, if_pos h]
          clear hp
          have HC := Lib.hid hcv
          clear hcv
          go_wp2_with (go_at_call 33; refine (cmp1_any x y _).mono ?_; rw [HC.out]; rintro e w' ⟨rfl, rfl⟩)
          go_ret
          exact ⟨by rw [HQ.out]; rfl, rfl⟩
        · subst h
          have hp : cmpL (xs.drop (k + 1)) (ys.drop (k + 1)) = P := by rw [← HR.out, cmpL, if_neg (by omega), if_neg (by omega)]
          have HQ := Lib.hid hp
          have hcv : cmpV x x = 0 := by rw [cmpV, if_neg (by omega), if_neg (by omega)]
          clear hp
          have HC := Lib.hid hcv
          clear hcv
          go_wp2_with (go_at_call 33; refine (cmp1_any x x _).mono ?_; rw [HC.out]; rintro e w' ⟨rfl, rfl⟩)
          go_round
          case rel => exact ⟨k + 1, by omega, by omega, by go_num, HQ.out⟩
          case measure => simp [intOf]; omega
        · have hp : P = 1 := by rw [← HR.out, cmpL, if_neg (by omega), if_pos h]
          have HQ := Lib.hid hp
          have hcv : cmpV x y = 1 := by rw [cmpV, if_neg (by omega), if_pos h]
          clear hp
          have HC := Lib.hid hcv
          clear hcv
          go_wp2_with (go_at_call 33; refine (cmp1_any x y _).mono ?_; rw [HC.out]; rintro e w' ⟨rfl, rfl⟩)
          go_ret
          exact ⟨by rw [HQ.out]; rfl, rfl⟩
      · rw [List.drop_of_length_le (l := ys) (by omega)] at hr
        have hp : P = 1 := by rw [← hr]; rfl
        have HQ := Lib.hid hp
        clear hp hr
        generalize xs.getD k 0 = x at *
        go_wp2
        go_ret
        exact ⟨by rw [HQ.out]; rfl, rfl⟩
    · rw [List.drop_of_length_le (l := xs) (by omega)] at hr
      by_cases hlt' : xs.length < ys.length
      · rw [drop_get ys k (by omega)] at hr
        have hp : P = -1 := by rw [← hr]; rfl
        have HQ := Lib.hid hp
        clear hp hr
        go_wp2
        go_ret
        exact ⟨by rw [HQ.out]; rfl, rfl⟩
      · rw [List.drop_of_length_le (l := ys) (by omega)] at hr
        have hp : P = 0 := by rw [← hr]; rfl
        have HQ := Lib.hid hp
        clear hp hr
        go_wp2
        go_ret
        exact ⟨by rw [HQ.out]; rfl, rfl⟩

theorem or_any (g : Nat) (x y r : Int) (w : World) (h0 : w.cell? ⟨g, 0, none⟩ = some (.int .i64 x)) (h1 : w.cell? ⟨g, 1, none⟩ = some (.int .i64 y)) (hr : (if x = 0 then y else x) = r) :
    Calls Try.prog 29 #[.slice (some ⟨g, 0, none⟩) 2 2] w fun e w' => e = .returned (.int .i64 r) ∧ w = w' := by
  have hj : ((x != 0) = true ∧ x = r) ∨ (x = 0 ∧ (y != 0) = true ∧ y = r) ∨ (x = 0 ∧ y = 0 ∧ r = 0) := by
    by_cases hx : x = 0
    · rw [if_pos hx] at hr
      by_cases hy : y = 0
      · exact .inr (.inr ⟨hx, hy, by rw [← hr, hy]⟩)
      · exact .inr (.inl ⟨hx, by simpa using hy, hr⟩)
    · rw [if_neg hx] at hr
      exact .inl ⟨by simpa using hx, hr⟩
  clear hr
  go_enter Try.func29, Try.ntmps29
  go_wp2
  go_loop [8] (fun i => ∃ k : Nat, k ≤ 2 ∧ i = .int .i64 k ∧ (0 < k → x = 0) ∧ (1 < k → y = 0)) (fun i => 2 - (intOf i).toNat)
  case atStart => exact ⟨0, by omega, rfl, by omega, by omega⟩
  case round =>
    obtain ⟨k, hk, rfl, hx, hy⟩ := hrel
    rcases (show k = 0 ∨ k = 1 ∨ k = 2 by omega) with rfl | rfl | rfl
    · rcases hj with ⟨hj, rfl⟩ | ⟨rfl, hj⟩ | ⟨rfl, rfl, rfl⟩
      · clear hx hy
        go_wp2
        go_ret
        exact ⟨rfl, rfl⟩
      · clear hx hy hj
        go_wp2
        go_round
        case rel => exact ⟨1, by omega, by go_num, by simp, fun h => absurd h (by omega)⟩
        case measure => simp [intOf]
      · clear hx hy
        go_wp2
        go_round
        case rel => exact ⟨1, by omega, by go_num, by simp, fun h => absurd h (by omega)⟩
        case measure => simp [intOf]
    · obtain rfl := hx (by omega)
      rcases hj with ⟨hj, rfl⟩ | ⟨_, hj, rfl⟩ | ⟨_, rfl, rfl⟩
      · simp at hj
      · clear hx hy
        go_wp2
        go_ret
        exact ⟨rfl, rfl⟩
      · clear hx hy
        go_wp2
        go_round
        case rel => exact ⟨2, by omega, by go_num, by simp, by simp⟩
        case measure => simp [intOf]
    · obtain rfl := hx (by omega)
      obtain rfl := hy (by omega)
      rcases hj with ⟨hj, rfl⟩ | ⟨_, hj, rfl⟩ | ⟨_, _, rfl⟩
      · simp at hj
      · simp at hj
      · clear hx hy
        go_wp2
        go_ret
        exact ⟨rfl, rfl⟩

/-- A text as a row of its runes. -/
theorem conv_str (s : ByteArray) (w : World) (hs : s.size ≤ 1024) : ∃ cap w', (convert 9 36 (.string s)).run Try.prog w = .ok (.slice (some ⟨w.heap.size, 0, none⟩) (runes s).length cap) w' ∧ Runes w' (.slice (some ⟨w.heap.size, 0, none⟩) (runes s).length cap) (runes s) ∧ Only (fun _ => False) w w' := by
  have hl := runes_length s
  have e : (Conv.runesFrom s s.size 0 #[]) = ((runes s).map (Value.int .i32)).toArray := by rw [conv_runes]; simp [runes]
  have hsz : (Conv.runesFrom s s.size 0 #[]).size = (runes s).length := by rw [e]; simp
  have h := run_runes_of_string (P := Try.prog) w 9 36 21 s Try.underlying9 Try.underlying36 Try.underlying21 (by omega)
  rw [hsz, e] at h
  refine ⟨_, _, h, ⟨_, _, rfl, by omega, fun _ => ⟨_, rfl, fun i hi => ?_⟩⟩, (Only.refl _ w).drew.alloc _⟩
  refine (cell_of_row _ _ i _ _ _ (heap_alloc_new w.drew _)).trans ?_
  rw [Array.getElem?_append_left (by simpa using hi)]
  simp [List.getElem?_eq_getElem hi, List.getD_eq_getElem?_getD]

def orderV (a b : ByteArray) : Int :=
  if checkV a = 0 ∧ checkV b = 0 then (if cmpL (lookL a) (lookL b) = 0 then cmpL (runes a) (runes b) else cmpL (lookL a) (lookL b)) else 0

set_option maxHeartbeats 1000000 in
theorem order_any (a b : ByteArray) (w : World) (ha : a.size ≤ 1024) (hb : b.size ≤ 1024) : Calls Try.prog 19 #[.string a, .string b] w fun e w' => e = .returned (.int .i64 (orderV a b)) ∧ Below w.heap.size w w' := by
  by_cases h1 : checkV a = 0
  · by_cases h2 : checkV b = 0
    · have HV := Lib.hid (show orderV a b = _ by rw [orderV, if_pos ⟨h1, h2⟩])
      have H1 := Lib.hid h1
      have H2 := Lib.hid h2
      clear h1 h2
      have hla : (lookL a).length ≤ 1024 := by unfold lookL; rw [List.length_map]; have := runes_length a; omega
      have hlb : (lookL b).length ≤ 1024 := by unfold lookL; rw [List.length_map]; have := runes_length b; omega
      go_enter Try.func19, Try.ntmps19
      go_wp2_with fail
      refine (check_any a _ ha).mono ?_
      rw [H1.out]
      rintro e w1 ⟨rfl, b1⟩
      go_wp2_with fail
      refine (check_any b _ hb).mono ?_
      rw [H2.out]
      rintro e w2 ⟨rfl, b2⟩
      go_wp2_with fail
      refine (look_any a _ ha).mono ?_
      rintro e w3 ⟨va, rfl, ra, b3⟩
      obtain ⟨aa, ca, rfl⟩ := slice_of_owns ra
      go_wp2_with fail
      refine (look_any b _ hb).mono ?_
      rintro e w4 ⟨vb, rfl, rb, b4⟩
      obtain ⟨ab, cb, rfl⟩ := slice_of_owns rb
      go_wp2_with fail
      refine (cmpL_any (lookL a) (lookL b) _ _ _ (Runes.of_owns ((Only.of_below b4).owns ra (fun _ _ => id)) hla) (Runes.of_owns rb hlb)).mono ?_
      generalize cmpL (lookL a) (lookL b) = p at *
      rintro e w5 ⟨rfl, rfl⟩
      obtain ⟨c5, w6, hc5, r5, o5⟩ := conv_str a w4 ha
      obtain ⟨c6, w7, hc6, r6, o6⟩ := conv_str b w6 hb
      go_wp2_with fail
      refine (cmpL_any (runes a) (runes b) _ _ _ (r5.kept (fun x y h => o6.cell h id)) r6).mono ?_
      generalize cmpL (runes a) (runes b) = q at *
      obtain ⟨R, hR⟩ : ∃ R, (if p = 0 then q else p) = R := ⟨_, rfl⟩
      have HV2 := Lib.hid (HV.out.trans hR)
      have HR := Lib.hid hR
      clear hR HV
      rintro e w8 ⟨rfl, rfl⟩
      go_wp2_with fail
      refine (or_any _ p q R _ ((cell_of_row _ _ 0 _ _ _ (heap_alloc_new w7 _)).trans rfl) ((cell_of_row _ _ 1 _ _ _ (heap_alloc_new w7 _)).trans rfl) HR.out).mono ?_
      rintro e w9 ⟨rfl, rfl⟩
      go_wp2_with fail
      go_ret
      have s1 := b1.size
      have s2 := Nat.le_trans s1 b2.size
      have s3 := Nat.le_trans s2 b3.size
      have s4 := Nat.le_trans s3 b4.size
      have s5 := Nat.le_trans s4 o5.size
      have s6 := Nat.le_trans s5 o6.size
      exact ⟨by rw [HV2.out]; rfl, (((((b1.trans (b2.mono s1)).trans (b3.mono s2)).trans (b4.mono s3)).trans (o5.below s4 (fun _ h => h.elim))).trans (o6.below s5 (fun _ h => h.elim))).alloc s6 _⟩
    · have HV := Lib.hid (show orderV a b = 0 by rw [orderV, if_neg (fun h => h2 h.2)])
      have H1 := Lib.hid h1
      have h2' : (checkV b != 0) = true := by simpa using h2
      clear h1 h2
      go_enter Try.func19, Try.ntmps19
      go_wp2_with fail
      refine (check_any a _ ha).mono ?_
      rw [H1.out]
      rintro e w1 ⟨rfl, b1⟩
      go_wp2_with fail
      refine (check_any b _ hb).mono ?_
      rintro e w2 ⟨rfl, b2⟩
      go_wp2_with fail
      go_ret
      exact ⟨by rw [HV.out]; rfl, b1.trans (b2.mono b1.size)⟩
  · have HV := Lib.hid (show orderV a b = 0 by rw [orderV, if_neg (fun h => h1 h.1)])
    have h1' : (checkV a != 0) = true := by simpa using h1
    clear h1
    go_enter Try.func19, Try.ntmps19
    go_wp2_with fail
    refine (check_any a _ ha).mono ?_
    rintro e w1 ⟨rfl, b1⟩
    go_wp2_with fail
    go_ret
    exact ⟨by rw [HV.out]; rfl, b1⟩
end Go.Proofs.Ytflbbpmlcllamaa
