/- The walk of long: is one of the texts longer than a statement looks at? -/
import Derived.Test.YtflbbpmlcllamaaAlive05
namespace Go.Proofs.Ytflbbpmlcllamaa
open Go.RowKit Go.Lib Go.Maps

theorem long_any (ss : List ByteArray) (w : World) (g cap : Nat) (hm : ss.length ≤ 10) (hs : ∀ s ∈ ss, s.size ≤ maxLen) (hc : ∀ i, i < ss.length → w.cell? ⟨g, i, none⟩ = some (.string (ss.getD i ByteArray.empty))) :
    Calls Try.prog 7 #[.slice (some ⟨g, 0, none⟩) ss.length cap] w fun e w' => e = .returned (.bool (ss.any fun s => decide (1024 < s.size))) ∧ w = w' := by
  unfold maxLen at hs
  obtain ⟨P, hP⟩ : ∃ P, (ss.any fun s => decide (1024 < s.size)) = P := ⟨_, rfl⟩
  rw [hP]
  have HP := Lib.hid hP
  clear hP
  go_enter Try.func7, Try.ntmps7
  go_wp2
  go_loop [3] (fun i => ∃ k : Nat, k ≤ ss.length ∧ i = .int .i64 k ∧ ((ss.drop k).any fun s => decide (1024 < s.size)) = P) (fun i => ss.length - (intOf i).toNat)
  case atStart => exact ⟨0, by omega, rfl, HP.out⟩
  case round =>
    obtain ⟨k, hk, rfl, hr⟩ := hrel
    by_cases hlt : k < ss.length
    · have hck := hc k hlt
      have hsk := hs (ss.getD k ByteArray.empty) (by rw [List.getD_eq_getElem?_getD, List.getElem?_eq_getElem hlt]; exact List.getElem_mem _)
      have he : ss.drop k = ss.getD k ByteArray.empty :: ss.drop (k + 1) := by
        rw [List.drop_eq_getElem_cons hlt, List.getD_eq_getElem?_getD, List.getElem?_eq_getElem hlt]; rfl
      rw [he] at hr
      have HR := Lib.hid hr
      clear hr he hc hs
      generalize ss.getD k ByteArray.empty = s at *
      by_cases hl : 1024 < s.size
      · have hp : P = true := by rw [← HR.out]; simp [hl]
        have HQ := Lib.hid hp
        clear hp
        go_wp2
        go_ret
        exact ⟨by rw [HQ.out]; rfl, rfl⟩
      · go_wp2
        go_round
        case rel => exact ⟨k + 1, by omega, by go_num, by rw [← HR.out]; simp [hl]⟩
        case measure => simp [intOf]; omega
    · have hp : P = false := by rw [← hr, List.drop_of_length_le (by omega)]; rfl
      have HQ := Lib.hid hp
      clear hp hr
      go_wp2
      go_ret
      exact ⟨by rw [HQ.out]; rfl, rfl⟩

/-! What the laws say of the plain functions. -/
theorem fR_mem : ∀ (L : List (Int × Int)) (r v : Int), fR L r = some v → ∃ p ∈ L, p.2 = v
  | [], r, v, h => by simp [fR] at h
  | p :: L, r, v, h => by
    unfold fR at h
    split at h
    · injection h with h
      exact ⟨p, by simp, h⟩
    · obtain ⟨q, hq, e⟩ := fR_mem L r v h
      exact ⟨q, by simp [hq], e⟩
theorem looks_plain : ∀ p ∈ (pairsTo 15).reverse, lookF p.2 = none ∧ (97 ≤ p.2 ∧ p.2 ≤ 122) := by decide +kernel
theorem lookV_idem (r : Int) : lookV (lookV r) = lookV r := by
  unfold lookV
  cases h : lookF r with
  | none => simp [h]
  | some v =>
    obtain ⟨p, hp, e⟩ := fR_mem _ r v h
    have := (looks_plain p hp).1
    rw [e] at this
    simp [this]
theorem lookV_bd (r : Int) (h : -2147483648 ≤ r ∧ r ≤ 2147483647) : -2147483648 ≤ lookV r ∧ lookV r ≤ 2147483647 := by
  unfold lookV
  cases hf : lookF r with
  | none => simpa using h
  | some v =>
    obtain ⟨p, hp, e⟩ := fR_mem _ r v hf
    have := (looks_plain p hp).2
    simp
    omega

theorem toList_inj {a b : ByteArray} : a.toList = b.toList ↔ a = b := by
  rw [ByteArray.toList_eq, ByteArray.toList_eq]
  constructor
  · intro h
    cases a; cases b
    simp at h
    simp [h]
  · rintro rfl; rfl
theorem clashV_iff (a b : ByteArray) : clashV a b = true ↔ checkV a = 0 ∧ checkV b = 0 ∧ a ≠ b ∧ skS a = skS b := by
  simp [clashV, toList_inj]
theorem clashV_comm (a b : ByteArray) : clashV b a = clashV a b := by
  rw [Bool.eq_iff_iff, clashV_iff, clashV_iff]
  constructor <;> rintro ⟨h1, h2, h3, h4⟩ <;> exact ⟨h2, h1, fun e => h3 e.symm, h4.symm⟩
theorem clashV_self (a : ByteArray) : clashV a a = false := by
  rw [Bool.eq_false_iff, ne_eq, clashV_iff]
  rintro ⟨_, _, h, _⟩
  exact h rfl
theorem clashV_trans (a b c : ByteArray) (h1 : clashV a b = true) (h2 : clashV b c = true) (h : a ≠ c) : clashV a c = true := by
  rw [clashV_iff] at *
  exact ⟨h1.1, h2.2.1, h, h1.2.2.2.trans h2.2.2.2⟩
theorem clash_is (a b : ByteArray) (v : Bool) (w : World) (ha : a.size ≤ 1024) (hb : b.size ≤ 1024) (h : clashV a b = v) : Calls Try.prog 17 #[.string a, .string b] w fun e w' => e = .returned (.bool v) ∧ Below w.heap.size w w' := h ▸ clash_any a b w ha hb
theorem skel_is (s x : ByteArray) (v : Int) (w : World) (hs : s.size ≤ 1024) (hx : skS s = x) (hv : checkV s = v) : Calls Try.prog 9 #[.string s] w fun e w' => e = .returned (.tuple #[.string x, .int .i64 v]) ∧ Below w.heap.size w w' := hx ▸ hv ▸ skel_any s w hs
theorem Look_is (r v : Int) (w : World) (hr : -2147483648 ≤ r ∧ r ≤ 2147483647) (h : lookV r = v) : Calls Try.prog 15 #[.int .i32 r] w fun e w' => e = .returned (.int .i32 v) ∧ Below w.heap.size w w' := h ▸ Look_any r w hr
end Go.Proofs.Ytflbbpmlcllamaa
