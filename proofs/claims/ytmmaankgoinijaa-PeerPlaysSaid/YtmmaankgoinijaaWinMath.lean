/- Plain laws of a window: which nonces its marks stand for. -/
import Derived.Test.YtmmaankgoinijaaWin
namespace Go.Proofs.Ytmmaankgoinijaa

theorem marked_nat (G k : Nat) (hG : G < 18446744073709551616) : marked (G : Int) k = G.testBit k := by
  unfold marked
  have h1 : ((G : Int) / 2 ^ k) = ((G / 2 ^ k : Nat) : Int) := by
    rw [Int.natCast_ediv]; congr 1
  have h2 : G / 2 ^ k < 18446744073709551616 := Nat.lt_of_le_of_lt (Nat.div_le_self _ _) hG
  rw [h1, show (1 : Int) = ((1 : Nat) : Int) from rfl, bits_and_u64_nat _ _ h2 (by omega), Nat.and_one_is_mod, Nat.testBit_eq_decide_div_mod_eq]
  rw [Bool.eq_iff_iff]
  simp only [beq_iff_eq, decide_eq_true_eq]
  omega

theorem or_nat (G H : Nat) (hG : G < 18446744073709551616) (hH : H < 18446744073709551616) : bits BinOp.or IntKind.u64 (G : Int) (H : Int) = ((G ||| H : Nat) : Int) := bits_or_u64_nat G H hG hH

theorem pow_nat (c : Nat) (hc : c < 64) : IntKind.u64.wrap ((2 : Int) ^ c) = ((2 ^ c : Nat) : Int) := by
  have h : 2 ^ c < 2 ^ 64 := Nat.pow_lt_pow_right (by omega) hc
  have e : ((2 : Int) ^ c) = ((2 ^ c : Nat) : Int) := (Int.natCast_pow 2 c).symm
  rw [e, IntKind.wrap_u64]
  obtain ⟨X, hX⟩ : ∃ X : Nat, 2 ^ c = X := ⟨_, rfl⟩
  rw [hX] at h ⊢
  omega

theorem shl_nat (G c : Nat) : IntKind.u64.wrap ((G : Int) * 2 ^ min c 64) = (((G <<< min c 64) % 18446744073709551616 : Nat) : Int) := by
  have e : ((2 : Int) ^ min c 64) = ((2 ^ min c 64 : Nat) : Int) := (Int.natCast_pow 2 _).symm
  rw [e, IntKind.wrap_u64, Nat.shiftLeft_eq]
  omega

/-- What a window's cells say of the nonces that it took. -/
structure WInv (t g : Int) (took : List Int) : Prop where
  t0 : 0 ≤ t
  t1 : t ≤ 65535
  g0 : 0 ≤ g
  g1 : g < 18446744073709551616
  mark : ∀ k : Nat, k < 64 → (marked g k = true ↔ (t - k) ∈ took)
  most : ∀ n ∈ took, 1 ≤ n ∧ n ≤ t
  top : t = 0 ∨ t ∈ took

theorem WInv.zero : WInv 0 0 [] := by
  refine ⟨by omega, by omega, by omega, by omega, fun k _ => ?_, by simp, .inl rfl⟩
  have := marked_nat 0 k (by omega)
  simp at this
  simp [this]

theorem WInv.zeroG {t g : Int} {took : List Int} (h : WInv t g took) (ht : t = 0) : g = 0 := by
  obtain ⟨G, rfl⟩ := Int.eq_ofNat_of_zero_le h.g0
  have hG : G < 18446744073709551616 := by have := h.g1; omega
  have : G = 0 := by
    apply Nat.eq_of_testBit_eq
    intro i
    rw [Nat.zero_testBit]
    by_cases hi : i < 64
    · rw [← marked_nat G i hG]
      by_cases hm : marked (G : Int) i = true
      · have := h.most _ ((h.mark i hi).1 hm)
        omega
      · simpa using hm
    · exact Nat.testBit_lt_two_pow (Nat.lt_of_lt_of_le hG (by have : 2 ^ 64 ≤ 2 ^ i := Nat.pow_le_pow_right (by omega) (by omega); omega))
  rw [this]; rfl

theorem WInv.may {t g n : Int} {took : List Int} (h : WInv t g took) (h1 : 1 ≤ n) (h2 : n ≤ 65535) :
    mayV t g n = if 64 ≤ t - n then 180 else if n ∈ took then 9 else 0 := by
  unfold mayV
  rw [if_neg (by omega)]
  by_cases h3 : 64 ≤ t - n
  · rw [if_pos h3, if_pos h3]
  · rw [if_neg h3, if_neg h3]
    by_cases h4 : n ≤ t
    · have hk : (t - n).toNat < 64 := by omega
      have := h.mark _ hk
      rw [show (t - ((t - n).toNat : Int)) = n from by omega] at this
      by_cases h5 : n ∈ took
      · rw [if_pos ⟨h4, this.2 h5⟩, if_pos h5]
      · rw [if_neg (fun hh => h5 (this.1 hh.2)), if_neg h5]
    · rw [if_neg (fun hh => h4 hh.1), if_neg (fun h5 => h4 (h.most n h5).2)]

theorem WInv.not {t g n : Int} {took : List Int} (h : WInv t g took) (hm : ¬ mayV t g n = 0) : WInv (nxtT t g n) (nxtG t g n) took := by
  rw [nxtT, if_neg (fun hh => hm hh.1), nxtG, if_neg hm]
  exact h

theorem WInv.add {t g n : Int} {took : List Int} (h : WInv t g took) (hm : mayV t g n = 0) : WInv (nxtT t g n) (nxtG t g n) (took ++ [n]) := by
  obtain ⟨h1, h2, h3⟩ := mayV_zero hm
  obtain ⟨G, rfl⟩ := Int.eq_ofNat_of_zero_le h.g0
  have hG : G < 18446744073709551616 := by have := h.g1; omega
  have t0 := h.t0
  have t1 := h.t1
  by_cases hlt : t < n
  · rw [nxtT, if_pos ⟨hm, hlt⟩, nxtG, if_pos hm, if_pos hlt]
    obtain ⟨c, hc⟩ : ∃ c : Nat, (n - t).toNat = c := ⟨_, rfl⟩
    rw [hc, shl_nat, show (1 : Int) = ((1 : Nat) : Int) from rfl]
    have hH : G <<< min c 64 % 18446744073709551616 < 18446744073709551616 := Nat.mod_lt _ (by omega)
    rw [or_nat _ _ hH (by omega)]
    have hX : (G <<< min c 64 % 18446744073709551616 ||| 1) < 18446744073709551616 := Nat.or_lt_two_pow (n := 64) (by omega) (by omega)
    refine ⟨by omega, by omega, by omega, by omega, fun k hk => ?_, ?_, .inr (by simp)⟩
    · rw [marked_nat _ _ hX, Nat.testBit_or, show (18446744073709551616 : Nat) = 2 ^ 64 from rfl, Nat.testBit_mod_two_pow, Nat.testBit_shiftLeft, show (1 : Nat) = 2 ^ 0 from rfl, Nat.testBit_two_pow]
      by_cases hk0 : k = 0
      · subst hk0
        simp
      · have e0 : decide (0 = k) = false := by simp; omega
        rw [e0, Bool.or_false]
        by_cases hck : min c 64 ≤ k
        · have hck' : c ≤ k := by omega
          have em : min c 64 = c := by omega
          have := h.mark (k - c) (by omega)
          rw [marked_nat _ _ hG] at this
          rw [show n - (k : Int) = t - ((k - c : Nat) : Int) from by omega]
          simp only [em, ge_iff_le, hck', hk, decide_true, Bool.true_and, List.mem_append, List.mem_singleton, this]
          constructor
          · exact .inl
          · rintro (hh | hh)
            · exact hh
            · omega
        · have e1 : decide (k ≥ min c 64) = false := by simp; omega
          rw [e1]
          simp only [Bool.false_and, Bool.and_false, List.mem_append, List.mem_singleton]
          constructor
          · intro hh; cases hh
          · rintro (hh | hh)
            · have := (h.most _ hh).2
              omega
            · omega
    · intro m hmem
      simp only [List.mem_append, List.mem_singleton] at hmem
      rcases hmem with hh | hh
      · have := h.most _ hh
        omega
      · omega
  · rw [nxtT, if_neg (fun hh => hlt hh.2), nxtG, if_pos hm, if_neg hlt]
    obtain ⟨c, hc⟩ : ∃ c : Nat, (t - n).toNat = c := ⟨_, rfl⟩
    have hc64 : c < 64 := by omega
    have hp : 2 ^ c < 18446744073709551616 := Nat.pow_lt_pow_right (a := 2) (n := 64) (by omega) hc64
    rw [hc, pow_nat c hc64, or_nat _ _ hG hp]
    have hX : (G ||| 2 ^ c) < 18446744073709551616 := Nat.or_lt_two_pow (n := 64) (by omega) (by omega)
    refine ⟨by omega, by omega, by omega, by omega, fun k hk => ?_, ?_, ?_⟩
    · rw [marked_nat _ _ hX, Nat.testBit_or, Nat.testBit_two_pow]
      have := h.mark k hk
      rw [marked_nat _ _ hG] at this
      simp only [Bool.or_eq_true, decide_eq_true_eq, List.mem_append, List.mem_singleton, this]
      constructor
      · rintro (hh | hh)
        · exact .inl hh
        · right; omega
      · rintro (hh | hh)
        · exact .inl hh
        · right; omega
    · intro m hmem
      simp only [List.mem_append, List.mem_singleton] at hmem
      rcases hmem with hh | hh
      · exact h.most _ hh
      · omega
    · rcases h.top with hh | hh
      · omega
      · exact .inr (by simp [hh])
end Go.Proofs.Ytmmaankgoinijaa
