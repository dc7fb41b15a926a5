/- The walks of package name: of, first, Check, Script, looks, Look, look, Skeleton, Clash, Order. -/
import Derived.Test.YtflbbpmlcllamaaRunes
import Derived.Maps.Own
import Derived.Maps.OwnOps
namespace Go.Proofs.Ytflbbpmlcllamaa
open Go.RowKit Go.Lib

def bS : Nat → Int | 0 => 1 | 1 => 2 | _ => 3
def bL : Nat → Int | 0 => 97 | 1 => 945 | _ => 1072
def bH : Nat → Int | 0 => 122 | 1 => 969 | _ => 1103

theorem b_cells {w : World} {b : Nat} (h : w.heap[b]? = some (.cells #[.int .u8 1, .int .i32 97, .int .i32 122, .int .u8 2, .int .i32 945, .int .i32 969, .int .u8 3, .int .i32 1072, .int .i32 1103] 55 (0, 0))) (k : Nat) (hk : k < 3) :
    w.cell? ⟨b, k * 3, none⟩ = some (.int .u8 (bS k)) ∧ w.cell? ⟨b, k * 3 + 1, none⟩ = some (.int .i32 (bL k)) ∧ w.cell? ⟨b, k * 3 + 2, none⟩ = some (.int .i32 (bH k)) := by
  refine ⟨?_, ?_, ?_⟩ <;> refine (cell_of_row w b _ _ _ (0, 0) h).trans ?_
  all_goals
    match k, hk with
    | 0, _ | 1, _ | 2, _ => rfl

theorem ofV_at (r : Int) (k : Nat) (hk : k < 3) (h1 : bL k ≤ r) (h2 : r ≤ bH k) : ofV r = bS k := by
  match k, hk with
  | 0, _ | 1, _ | 2, _ => simp only [bL, bH, bS] at *; unfold ofV; repeat' split <;> omega
theorem ofV_none (r : Int) (h : ∀ j, j < 3 → ¬ (bL j ≤ r ∧ r ≤ bH j)) : ofV r = 0 := by
  have h0 := h 0 (by omega)
  have h1 := h 1 (by omega)
  have h2 := h 2 (by omega)
  simp only [bL, bH] at *
  unfold ofV
  repeat' split <;> omega
theorem ofV_bd (r : Int) : 0 ≤ ofV r ∧ ofV r ≤ 3 := by
  unfold ofV
  repeat' split <;> omega

set_option maxHeartbeats 1000000 in
theorem of_any (r : Int) (w : World) : Calls Try.prog 32 #[.int .i32 r] w fun e w' => e = .returned (.int .u8 (ofV r)) ∧ Below w.heap.size w w' := by
  go_enter Try.func32, Try.ntmps32
  go_wp2_with (go_at_call 34; refine (blocks_any _).mono ?_; rintro e w' ⟨rfl, rfl⟩)
  go_loopw [7] (fun i wr => ∃ k : Nat, k ≤ 3 ∧ i = .int .i64 k ∧ (∀ j, j < k → ¬ (bL j ≤ r ∧ r ≤ bH j)) ∧ wr.heap[w.heap.size]? = some (.cells #[.int .u8 1, .int .i32 97, .int .i32 122, .int .u8 2, .int .i32 945, .int .i32 969, .int .u8 3, .int .i32 1072, .int .i32 1103] 55 (0, 0)) ∧ Below w.heap.size w wr) (fun i _ => 3 - (intOf i).toNat)
  case atStart => exact ⟨0, by omega, rfl, fun j hj => by omega, heap_alloc_new w _, (Below.refl _ _).alloc (Nat.le_refl _) _⟩
  case round =>
    obtain ⟨k, hk, rfl, hno, hb, hB⟩ := hrel
    by_cases hlt : k < 3
    · obtain ⟨c0, c1, c2⟩ := b_cells hb k hlt
      have hyes := ofV_at r k hlt
      have hlb : w.heap.size < wr.heap.size := (Array.getElem?_eq_some_iff.1 hb).1
      have HN := Lib.hid hno
      have HY := Lib.hid hyes
      clear hno hyes
      have hstep : ¬ (bL k ≤ r ∧ r ≤ bH k) → ∀ j, j < k + 1 → ¬ (bL j ≤ r ∧ r ≤ bH j) := fun h j hj => by
        by_cases e : j = k
        · rw [e]; exact h
        · exact HN.out j (by omega)
      have HT := Lib.hid hstep
      clear hstep
      generalize hlo : bL k = lo at *
      generalize hhi : bH k = hi at *
      generalize bS k = sc at *
      clear hlo hhi
      by_cases h1 : lo ≤ r
      · by_cases h2 : r ≤ hi
        · have he := HY.out h1 h2
          have HE := Lib.hid he
          clear he
          go_wp2
          go_ret
          exact ⟨by rw [HE.out]; rfl, hB.alloc hB.size _⟩
        · go_wp2
          go_roundw
          case rel => exact ⟨k + 1, by omega, by go_num, HT.out (fun h => h2 h.2), by rw [Below.heap_alloc _ _ _ hlb]; exact hb, hB.alloc hB.size _⟩
          case measure => simp [intOf]; omega
      · go_wp2
        go_roundw
        case rel => exact ⟨k + 1, by omega, by go_num, HT.out (fun h => h1 h.1), by rw [Below.heap_alloc _ _ _ hlb]; exact hb, hB.alloc hB.size _⟩
        case measure => simp [intOf]; omega
    · obtain rfl : k = 3 := by omega
      have he := ofV_none r hno
      have HE := Lib.hid he
      clear he hno
      go_wp2
      go_ret
      exact ⟨by rw [HE.out]; rfl, hB⟩

/-- May a rune not stand in a name? -/
def badR (r : Int) : Bool := decide (ofV r = 0 ∧ r ≠ 45 ∧ (r < 48 ∨ 57 < r))

def fstGo : Int → Int → List Int → Int × Int
  | sc, e, [] => (sc, e)
  | sc, e, r :: l => if badR r = true then (sc, 7) else if sc = 0 then fstGo (ofV r) e l else if ofV r ≠ 0 ∧ ofV r ≠ sc then fstGo sc 50 l else fstGo sc e l

theorem Below.iterAt {B : Nat} {a w : World} (h : Below B a w) {k : Nat} (hk : B ≤ k) (s : ByteArray) (pos : Nat) : Below B a (w.iterAt k s pos) :=
  h.trans ⟨rfl, rfl, rfl, by simp [World.iterAt], fun j hj => by simp only [World.iterAt, Array.getElem?_setIfInBounds]; rw [if_neg (by omega)]⟩
theorem iterPos_at {w : World} {k : Nat} {s : ByteArray} {p : Nat} (h : w.heap[k]? = some (.stringIter s p)) : w.iterPos k = p := by simp [World.iterPos, h]

theorem get_bang (s : ByteArray) (i : Nat) (h : i < s.size) : s.get! i = s[i]'h := by have := get_at s i h; simpa using this

/-- Is it empty, or does it begin or end with a dash? -/
def dashB (s : ByteArray) : Bool := decide (s.size = 0 ∨ (s.get! 0).toNat = 45 ∨ (s.get! (s.size - 1)).toNat = 45)

/-- The script of the first letter, and what is wrong. -/
def firstV (s : ByteArray) : Int × Int :=
  if 24 < (runes s).length then (0, 5) else if dashB s = true then (0, 7) else if (fstGo 0 0 (runes s)).2 = 0 then ((fstGo 0 0 (runes s)).1, 0) else (0, (fstGo 0 0 (runes s)).2)

theorem toList_empty (s : ByteArray) (h0 : 0 < s.size) : s.toList.isEmpty = false := by
  rw [ByteArray.toList_eq]
  cases h : s.data.toList with
  | nil =>
    have : s.size = 0 := by show s.data.size = 0; rw [← Array.length_toList, h]; rfl
    omega
  | cons a l => rfl

theorem fst_bd : ∀ (l : List Int) (sc e : Int), 0 ≤ sc ∧ sc ≤ 3 → (e = 0 ∨ e = 50) → (0 ≤ (fstGo sc e l).1 ∧ (fstGo sc e l).1 ≤ 3) ∧ ((fstGo sc e l).2 = 0 ∨ (fstGo sc e l).2 = 50 ∨ (fstGo sc e l).2 = 7)
  | [], sc, e, hs, he => ⟨hs, by rcases he with h | h <;> simp [fstGo, h]⟩
  | r :: l, sc, e, hs, he => by
    unfold fstGo
    split
    · exact ⟨hs, .inr (.inr rfl)⟩
    · split
      · exact fst_bd l _ _ (ofV_bd r) he
      · split
        · exact fst_bd l _ _ hs (.inr rfl)
        · exact fst_bd l _ _ hs he

set_option maxRecDepth 100000 in
set_option maxHeartbeats 2000000 in
theorem first_loop (s : ByteArray) (w : World) (hs : s.size ≤ 1024) (hc : (runes s).length ≤ 24) (h0 : 0 < s.size) (hf : (s[0]'h0).toNat ≠ 45) (hl : (s[s.size - 1]'(by omega)).toNat ≠ 45) :
    Calls Try.prog 23 #[.string s] w fun e w' => e = .returned (if (fstGo 0 0 (runes s)).2 = 0 then .tuple #[.int .u8 (fstGo 0 0 (runes s)).1, .int .i64 0] else .tuple #[.int .u8 0, .int .i64 (fstGo 0 0 (runes s)).2]) ∧ Below w.heap.size w w' := by
  have he := toList_empty s h0
  have hf' : (((s[0]'h0).toNat : Int) == 45) = false := beq_eq_false_iff_ne.2 (by omega)
  have hl' : (((s[s.size - 1]'(by omega)).toNat : Int) == 45) = false := beq_eq_false_iff_ne.2 (by omega)
  obtain ⟨P, hP⟩ : ∃ P, fstGo 0 0 (runes s) = P := ⟨_, rfl⟩
  rw [hP]
  have HP := Lib.hid hP
  clear hP
  go_enter Try.func23, Try.ntmps23
  go_wp2_with fail
  go_step3
  go_wp2_with (go_at_call 31; refine (count_any s _ (by omega)).mono ?_; rintro e w1 ⟨rfl, hB⟩)
  go_step3
  go_wp2_with fail
  have hsz := hB.size
  go_loopw [2, 3] (fun vs ve wr => ∃ (pos b : Nat) (sc e : Int), vs = .int .u8 sc ∧ ve = .int .i64 e ∧ 0 ≤ sc ∧ sc ≤ 3 ∧ fstGo sc e (runesFrom s b pos) = P ∧ s.size ≤ pos + b ∧ wr.heap[w1.heap.size]? = some (.stringIter s pos) ∧ Below w.heap.size w wr) (fun _ _ wr => s.size - wr.iterPos w1.heap.size)
  case atStart => exact ⟨0, s.size, 0, 0, rfl, rfl, by omega, by omega, HP.out, by omega, World.iter_heap _ _ _, hB.alloc hB.size _⟩
  case round =>
    obtain ⟨pos, b, sc, e, rfl, rfl, hsc0, hsc1, hrest, hb, hit, hB⟩ := hrel
    clear he hf' hl' hf hl
    by_cases hp : pos < s.size
    · obtain ⟨b, rfl⟩ : ∃ m, b = m + 1 := ⟨b - 1, by omega⟩
      rw [runesFrom_step s b pos hp] at hrest
      have hnx := fun ty => run_next_any_at (P := Try.prog) wr w1.heap.size s pos ty hit hp
      have hwd := Lib.decode_width_pos s pos hp
      have hit2 := iterAt_heap wr w1.heap.size s pos (pos + (Utf8.decode s pos).2) hit
      have hB2 := Below.iterAt hB hsz s (pos + (Utf8.decode s pos).2)
      have hip := iterPos_at hit
      have hrb : 0 ≤ ((Utf8.decode s pos).1 : Int) := by omega
      have HR := Lib.hid hrest
      have HIP := Lib.hid hip
      clear hrest hip
      generalize ((Utf8.decode s pos).1 : Int) = r at *
      generalize (Utf8.decode s pos).2 = wd at *
      obtain ⟨k, hK⟩ : ∃ k, ofV r = k := ⟨_, rfl⟩
      have hkb := ofV_bd r
      rw [hK] at hkb
      obtain ⟨hk1, hk2⟩ := hkb
      have HK := Lib.hid hK
      clear hK
      have hlt2 : w1.heap.size < (wr.iterAt w1.heap.size s (pos + wd)).heap.size := (Array.getElem?_eq_some_iff.1 hit2).1
      by_cases hbad : badR r = true
      · have hb3 : ofV r = 0 ∧ r ≠ 45 ∧ (r < 48 ∨ 57 < r) := by simpa [badR] using hbad
        rw [HK.out] at hb3
        obtain ⟨rfl, hr45, hr⟩ := hb3
        have hr45' : (r != 45) = true := by simpa using hr45
        have HBD := Lib.hid hbad
        clear hbad
        have hfin : (sc, 7) = P := by rw [← HR.out]; simp only [fstGo]; rw [if_pos HBD.out]
        have HF := Lib.hid hfin
        clear hfin
        rcases hr with hr | hr
        · go_wp2_with (go_at_call 32; refine (of_any r _).mono ?_; rw [HK.out]; rintro e' w' ⟨rfl, hB'⟩)
          rw [Exit.noGoto_ret]
          go_ret2
          exact ⟨by rw [← HF.out]; rfl, hB2.trans (hB'.mono hB2.size)⟩
        · go_wp2_with (go_at_call 32; refine (of_any r _).mono ?_; rw [HK.out]; rintro e' w' ⟨rfl, hB'⟩)
          rw [Exit.noGoto_ret]
          go_ret2
          exact ⟨by rw [← HF.out]; rfl, hB2.trans (hB'.mono hB2.size)⟩
      · have hnb0 : ¬ (ofV r = 0 ∧ r ≠ 45 ∧ (r < 48 ∨ 57 < r)) := by simpa [badR] using hbad
        rw [HK.out] at hnb0
        have HNB := Lib.hid hbad
        clear hbad
        rcases Classical.em (k = 0) with hkz | hkz
        · subst hkz
          by_cases hr45 : r = 45
          · subst hr45
            clear hnb0
            by_cases hs0 : sc = 0
            · subst hs0
              go_wp2_with (go_at_call 32; refine (of_any 45 _).mono ?_; rw [HK.out]; rintro e' w' ⟨rfl, hB'⟩)
              have hit3 := (hB'.block w1.heap.size hlt2).trans hit2
              have hip3 := iterPos_at hit3
              have hB3 := hB2.trans (hB'.mono hB2.size)
              exact ⟨⟨pos + wd, b, 0, e, rfl, rfl, by omega, by omega, by rw [← HR.out]; simp only [fstGo]; rw [if_neg HNB.out, if_pos trivial, HK.out], by omega, hit3, hB3⟩, by rw [hip3, HIP.out]; omega⟩
            · have hs0' : (sc == 0) = false := by simpa using hs0
              go_wp2_with (go_at_call 32; refine (of_any 45 _).mono ?_; rw [HK.out]; rintro e' w' ⟨rfl, hB'⟩)
              have hit3 := (hB'.block w1.heap.size hlt2).trans hit2
              have hip3 := iterPos_at hit3
              have hB3 := hB2.trans (hB'.mono hB2.size)
              exact ⟨⟨pos + wd, b, sc, e, rfl, rfl, by omega, by omega, by rw [← HR.out]; simp only [fstGo]; rw [if_neg HNB.out, if_neg hs0, if_neg (by rw [HK.out]; omega)], by omega, hit3, hB3⟩, by rw [hip3, HIP.out]; omega⟩
          · have hr45' : (r != 45) = true := by simpa using hr45
            have hr1 : 48 ≤ r := by omega
            have hr2 : r ≤ 57 := by omega
            clear hnb0
            by_cases hs0 : sc = 0
            · subst hs0
              go_wp2_with (go_at_call 32; refine (of_any r _).mono ?_; rw [HK.out]; rintro e' w' ⟨rfl, hB'⟩)
              have hit3 := (hB'.block w1.heap.size hlt2).trans hit2
              have hip3 := iterPos_at hit3
              have hB3 := hB2.trans (hB'.mono hB2.size)
              exact ⟨⟨pos + wd, b, 0, e, rfl, rfl, by omega, by omega, by rw [← HR.out]; simp only [fstGo]; rw [if_neg HNB.out, if_pos trivial, HK.out], by omega, hit3, hB3⟩, by rw [hip3, HIP.out]; omega⟩
            · have hs0' : (sc == 0) = false := by simpa using hs0
              go_wp2_with (go_at_call 32; refine (of_any r _).mono ?_; rw [HK.out]; rintro e' w' ⟨rfl, hB'⟩)
              have hit3 := (hB'.block w1.heap.size hlt2).trans hit2
              have hip3 := iterPos_at hit3
              have hB3 := hB2.trans (hB'.mono hB2.size)
              exact ⟨⟨pos + wd, b, sc, e, rfl, rfl, by omega, by omega, by rw [← HR.out]; simp only [fstGo]; rw [if_neg HNB.out, if_neg hs0, if_neg (by rw [HK.out]; omega)], by omega, hit3, hB3⟩, by rw [hip3, HIP.out]; omega⟩
        · have hkz' : (k == 0) = false := by simpa using hkz
          have hkz'' : (k != 0) = true := by simpa using hkz
          clear hnb0
          by_cases hs0 : sc = 0
          · subst hs0
            go_wp2_with (go_at_call 32; refine (of_any r _).mono ?_; rw [HK.out]; rintro e' w' ⟨rfl, hB'⟩)
            have hit3 := (hB'.block w1.heap.size hlt2).trans hit2
            have hip3 := iterPos_at hit3
            have hB3 := hB2.trans (hB'.mono hB2.size)
            exact ⟨⟨pos + wd, b, k, e, rfl, rfl, by omega, by omega, by rw [← HR.out]; simp only [fstGo]; rw [if_neg HNB.out, if_pos trivial, HK.out], by omega, hit3, hB3⟩, by rw [hip3, HIP.out]; omega⟩
          · have hs0' : (sc == 0) = false := by simpa using hs0
            by_cases hk0 : k = sc
            · have hk1' : (k != sc) = false := by simpa using hk0
              go_wp2_with (go_at_call 32; refine (of_any r _).mono ?_; rw [HK.out]; rintro e' w' ⟨rfl, hB'⟩)
              have hit3 := (hB'.block w1.heap.size hlt2).trans hit2
              have hip3 := iterPos_at hit3
              have hB3 := hB2.trans (hB'.mono hB2.size)
              exact ⟨⟨pos + wd, b, sc, e, rfl, rfl, by omega, by omega, by rw [← HR.out]; simp only [fstGo]; rw [if_neg HNB.out, if_neg hs0, if_neg (by rw [HK.out]; omega)], by omega, hit3, hB3⟩, by rw [hip3, HIP.out]; omega⟩
            · have hk1' : (k != sc) = true := by simpa using hk0
              go_wp2_with (go_at_call 32; refine (of_any r _).mono ?_; rw [HK.out]; rintro e' w' ⟨rfl, hB'⟩)
              have hit3 := (hB'.block w1.heap.size hlt2).trans hit2
              have hip3 := iterPos_at hit3
              have hB3 := hB2.trans (hB'.mono hB2.size)
              exact ⟨⟨pos + wd, b, sc, 50, rfl, rfl, by omega, by omega, by rw [← HR.out]; simp only [fstGo]; rw [if_neg HNB.out, if_neg hs0, if_pos (by rw [HK.out]; exact ⟨hkz, hk0⟩)], by omega, hit3, hB3⟩, by rw [hip3, HIP.out]; omega⟩
    · have hnx := fun ty => run_next_end_at (P := Try.prog) wr w1.heap.size s pos ty hit hp
      rw [runesFrom_end s b pos hp] at hrest
      have HR := Lib.hid hrest
      clear hrest
      by_cases hz : e = 0
      · subst hz
        go_wp2
        rw [Exit.noGoto_ret]
        go_ret2
        have hP : P = (sc, 0) := HR.out.symm
        exact ⟨by rw [hP]; rfl, hB⟩
      · have hz' : (e != 0) = true := by simpa using hz
        go_wp2
        rw [Exit.noGoto_ret]
        go_ret2
        have hP : P = (sc, e) := HR.out.symm
        exact ⟨by rw [hP, if_neg hz]; rfl, hB⟩

set_option maxHeartbeats 1000000 in
theorem first_any (s : ByteArray) (w : World) (hs : s.size ≤ 1024) :
    Calls Try.prog 23 #[.string s] w fun e w' => e = .returned (.tuple #[.int .u8 (firstV s).1, .int .i64 (firstV s).2]) ∧ Below w.heap.size w w' := by
  by_cases hc : 24 < (runes s).length
  · have HV := Lib.hid (show firstV s = (0, 5) by rw [firstV, if_pos hc])
    go_enter Try.func23, Try.ntmps23
    go_wp2_with fail
    go_step3
    go_wp2_with (go_at_call 31; refine (count_any s _ (by omega)).mono ?_; rintro e w1 ⟨rfl, hB⟩)
    rw [Exit.noGoto_ret]
    go_ret2
    exact ⟨by rw [HV.out]; rfl, hB⟩
  · by_cases hz : s.size = 0
    · have HV := Lib.hid (show firstV s = (0, 7) by rw [firstV, if_neg hc, if_pos (by simp [dashB, hz])])
      have hc' : (runes s).length ≤ 24 := by omega
      have he : s.toList.isEmpty = true := by
        rw [ByteArray.toList_eq]
        have h : s.data.toList.length = 0 := by rw [Array.length_toList]; exact hz
        rw [List.eq_nil_of_length_eq_zero h]
        rfl
      clear hz
      go_enter Try.func23, Try.ntmps23
      go_wp2_with fail
      go_step3
      go_wp2_with (go_at_call 31; refine (count_any s _ (by omega)).mono ?_; rintro e w1 ⟨rfl, hB⟩)
      rw [Exit.noGoto_ret]
      go_ret2
      exact ⟨by rw [HV.out]; rfl, hB⟩
    · have h0 : 0 < s.size := by omega
      have hl0 : s.size - 1 < s.size := by omega
      have hc' : (runes s).length ≤ 24 := by omega
      have he := toList_empty s h0
      by_cases hf : (s[0]'h0).toNat = 45
      · have HV := Lib.hid (show firstV s = (0, 7) by rw [firstV, if_neg hc, if_pos (by simp [dashB, get_bang s 0 h0, hf])])
        have hf' : (((s[0]'h0).toNat : Int) == 45) = true := beq_iff_eq.2 (by omega)
        clear hf
        go_enter Try.func23, Try.ntmps23
        go_wp2_with fail
        go_step3
        go_wp2_with (go_at_call 31; refine (count_any s _ (by omega)).mono ?_; rintro e w1 ⟨rfl, hB⟩)
        rw [Exit.noGoto_ret]
        go_ret2
        exact ⟨by rw [HV.out]; rfl, hB⟩
      · by_cases hl : (s[s.size - 1]'hl0).toNat = 45
        · have HV := Lib.hid (show firstV s = (0, 7) by rw [firstV, if_neg hc, if_pos (by simp [dashB, get_bang s _ hl0, hl])])
          have hf' : (((s[0]'h0).toNat : Int) == 45) = false := beq_eq_false_iff_ne.2 (by omega)
          have hl' : (((s[s.size - 1]'hl0).toNat : Int) == 45) = true := beq_iff_eq.2 (by omega)
          clear hf hl
          go_enter Try.func23, Try.ntmps23
          go_wp2_with fail
          go_step3
          go_wp2_with (go_at_call 31; refine (count_any s _ (by omega)).mono ?_; rintro e w1 ⟨rfl, hB⟩)
          rw [Exit.noGoto_ret]
          go_ret2
          exact ⟨by rw [HV.out]; rfl, hB⟩
        · refine (first_loop s w hs hc' h0 hf hl).mono ?_
          rintro e w' ⟨rfl, hB⟩
          refine ⟨?_, hB⟩
          have hd : ¬ dashB s = true := by
            simp only [dashB, decide_eq_true_eq, get_bang s 0 h0, get_bang s _ hl0]
            omega
          rw [firstV, if_neg hc, if_neg hd]
          by_cases h : (fstGo 0 0 (runes s)).2 = 0
          · rw [if_pos h, if_pos h]
          · rw [if_neg h, if_neg h]

def checkV (s : ByteArray) : Int := (firstV s).2
def scriptV (s : ByteArray) : Int := (firstV s).1

theorem check_any (s : ByteArray) (w : World) (hs : s.size ≤ 1024) :
    Calls Try.prog 11 #[.string s] w fun e w' => e = .returned (.int .i64 (checkV s)) ∧ Below w.heap.size w w' := by
  go_enter Try.func11, Try.ntmps11
  go_wp2_with (go_at_call 23; refine (first_any s _ hs).mono ?_; rintro e w1 ⟨rfl, hB⟩)
  go_ret
  exact ⟨rfl, hB⟩

theorem script_any (s : ByteArray) (w : World) (hs : s.size ≤ 1024) :
    Calls Try.prog 13 #[.string s] w fun e w' => e = .returned (.int .u8 (scriptV s)) ∧ Below w.heap.size w w' := by
  go_enter Try.func13, Try.ntmps13
  go_wp2_with (go_at_call 23; refine (first_any s _ hs).mono ?_; rintro e w1 ⟨rfl, hB⟩)
  go_ret
  exact ⟨rfl, hB⟩
end Go.Proofs.Ytflbbpmlcllamaa
