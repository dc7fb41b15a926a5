/- Plain laws of a peer: of all lives, each triple is taken once. -/
import Derived.Test.YtmmaankgoinijaaPeerT
import Derived.Test.YtmmaankgoinijaaWinMath
namespace Go.Proofs.Ytmmaankgoinijaa

/-- The nonces that were taken in the life that is, of the other's life that is known. -/
def nonces (s : PS) (took : List (Int × Int × Int)) : List Int := (took.filter fun q => decide (q.1 = s.known ∧ q.2.1 = s.own)).map fun q => q.2.2

structure PInv (s : PS) (took : List (Int × Int × Int)) : Prop where
  o1 : 1 ≤ s.own
  o2 : s.own ≤ 255
  k1 : 1 ≤ s.known
  k2 : s.known ≤ 255
  s1 : 0 ≤ s.sent
  s2 : s.sent ≤ 65535
  own : ∀ q ∈ took, q.2.1 ≤ s.own
  known : ∀ q ∈ took, q.2.1 = s.own → q.1 ≤ s.known
  win : WInv s.t s.g (nonces s took)

theorem PInv.bd {s : PS} {took : List (Int × Int × Int)} (h : PInv s took) : PBd s :=
  ⟨h.o1, h.o2, h.k1, h.k2, h.s1, h.s2, h.win.t0, h.win.t1, h.win.zeroG⟩

theorem PInv.life {s : PS} {took : List (Int × Int × Int)} (h : PInv s took) (own : Int) (h1 : s.own < own) (h2 : own ≤ 255) : PInv (ps0 own) took := by
  have o1 := h.o1
  refine ⟨by show 1 ≤ own; omega, h2, by show (1 : Int) ≤ 1; omega, by show (1 : Int) ≤ 255; omega, by show (0 : Int) ≤ 0; omega, by show (0 : Int) ≤ 65535; omega, fun q hq => ?_, fun q hq e => ?_, ?_⟩
  · have := h.own q hq
    show q.2.1 ≤ own
    omega
  · have := h.own q hq
    have e' : q.2.1 = own := e
    omega
  · have : nonces (ps0 own) took = [] := by
      unfold nonces
      rw [List.filter_eq_nil_iff.2]
      · rfl
      · intro q hq
        have := h.own q hq
        have e : (ps0 own).own = own := rfl
        simp only [e, decide_eq_true_eq]
        omega
    rw [this]
    exact WInv.zero

theorem PInv.start (own : Int) (h1 : 1 ≤ own) (h2 : own ≤ 255) : PInv (ps0 own) [] :=
  ⟨h1, h2, by show (1 : Int) ≤ 1; omega, by show (1 : Int) ≤ 255; omega, by show (0 : Int) ≤ 0; omega, by show (0 : Int) ≤ 65535; omega, fun q hq => by simp at hq, fun q hq => by simp at hq, WInv.zero⟩

theorem PInv.hearS {s : PS} {took : List (Int × Int × Int)} (h : PInv s took) (x : Int) (hx : okE x = true) : PInv (hearS s x) took := by
  have hx' : 1 ≤ x ∧ x ≤ 255 := by simpa [okE] using hx
  unfold Go.Proofs.Ytmmaankgoinijaa.hearS
  split
  · rename_i hlt
    refine ⟨h.o1, h.o2, hx'.1, hx'.2, h.s1, h.s2, h.own, fun q hq e => ?_, ?_⟩
    · have := h.known q hq e
      show q.1 ≤ x
      omega
    · have : nonces { s with known := x, t := 0, g := 0 } took = [] := by
        unfold nonces
        rw [List.filter_eq_nil_iff.2]
        · rfl
        · intro q hq
          have := h.known q hq
          simp only [decide_eq_true_eq]
          intro hh
          have := this hh.2
          omega
      rw [this]
      exact WInv.zero
  · exact h

theorem PInv.hear {s : PS} {took : List (Int × Int × Int)} (h : PInv s took) (x : Int) : PInv (hearT s x) took := by
  unfold hearT
  split
  · rename_i hv
    refine h.hearS x ?_
    unfold hearV at hv
    split at hv
    · omega
    · rename_i hx
      simpa using hx
  · exact h

theorem PInv.take_no {s : PS} {took : List (Int × Int × Int)} (h : PInv s took) (x to n : Int) (hv : ¬ takeV s x to n = 0) : PInv (takeS s x to n) took := by
  unfold takeS
  split
  · exact h
  · rename_i hc
    have hx : okE x = true := by simpa using fun e => hc (.inl e)
    have h' := h.hearS x hx
    unfold takeV at hv
    rw [if_neg (fun e => hc (by rcases e with e | e | e <;> simp [e])), if_neg (fun e => hc (.inr (.inr (.inr (.inl e))))), if_neg (fun e => hc (.inr (.inr (.inr (.inr e)))))] at hv
    exact ⟨h'.o1, h'.o2, h'.k1, h'.k2, h'.s1, h'.s2, h'.own, h'.known, h'.win.not hv⟩

theorem PInv.take_yes {s : PS} {took : List (Int × Int × Int)} (h : PInv s took) (x to n : Int) (hv : takeV s x to n = 0) : (x, to, n) ∉ took ∧ PInv (takeS s x to n) (took ++ [(x, to, n)]) := by
  have hc : ¬ (okE x = false ∨ okE to = false ∨ okN n = false ∨ to ≠ s.own ∨ x < s.known) := by
    intro hc
    unfold takeV at hv
    split at hv
    · omega
    · rename_i h1
      split at hv
      · omega
      · rename_i h2
        split at hv
        · omega
        · rename_i h3
          rcases hc with e | e | e | e | e
          · exact h1 (.inl e)
          · exact h1 (.inr (.inl e))
          · exact h1 (.inr (.inr e))
          · exact h2 e
          · exact h3 e
  have hx : okE x = true := by simpa using fun e => hc (.inl e)
  have hto : to = s.own := by
    by_cases e : to = s.own
    · exact e
    · exact absurd (.inr (.inr (.inr (.inl e)))) hc
  have hge : ¬ x < s.known := fun e => hc (.inr (.inr (.inr (.inr e))))
  have h' := h.hearS x hx
  unfold takeV at hv
  rw [if_neg (fun e => hc (by rcases e with e | e | e <;> simp [e])), if_neg (fun e => hc (.inr (.inr (.inr (.inl e))))), if_neg hge] at hv
  have hk : (Go.Proofs.Ytmmaankgoinijaa.hearS s x).known = x := by
    unfold Go.Proofs.Ytmmaankgoinijaa.hearS
    split
    · rfl
    · show s.known = x
      omega
  have ho : (Go.Proofs.Ytmmaankgoinijaa.hearS s x).own = to := by
    unfold Go.Proofs.Ytmmaankgoinijaa.hearS
    split <;> exact hto.symm
  have hn : n ∉ nonces (Go.Proofs.Ytmmaankgoinijaa.hearS s x) took := by
    intro hn
    obtain ⟨h1, h2, h3⟩ := mayV_zero hv
    rw [h'.win.may h1 h2, if_neg (by omega), if_pos hn] at hv
    omega
  constructor
  · intro hm
    apply hn
    unfold nonces
    rw [List.mem_map]
    exact ⟨_, List.mem_filter.2 ⟨hm, by simp [hk, ho]⟩, rfl⟩
  · unfold takeS
    rw [if_neg hc]
    refine ⟨h'.o1, h'.o2, h'.k1, h'.k2, h'.s1, h'.s2, fun q hq => ?_, fun q hq e => ?_, ?_⟩
    · rcases List.mem_append.1 hq with hq | hq
      · exact h'.own q hq
      · simp only [List.mem_singleton] at hq
        subst hq
        show to ≤ (Go.Proofs.Ytmmaankgoinijaa.hearS s x).own
        omega
    · rcases List.mem_append.1 hq with hq | hq
      · exact h'.known q hq e
      · simp only [List.mem_singleton] at hq
        subst hq
        show x ≤ (Go.Proofs.Ytmmaankgoinijaa.hearS s x).known
        omega
    · have e : nonces (winS (Go.Proofs.Ytmmaankgoinijaa.hearS s x) n) (took ++ [(x, to, n)]) = nonces (Go.Proofs.Ytmmaankgoinijaa.hearS s x) took ++ [n] := by
        have e1 : (winS (Go.Proofs.Ytmmaankgoinijaa.hearS s x) n).known = x := hk
        have e2 : (winS (Go.Proofs.Ytmmaankgoinijaa.hearS s x) n).own = to := ho
        unfold nonces
        rw [e1, e2, hk, ho]
        simp
      rw [e]
      exact h'.win.add hv
end Go.Proofs.Ytmmaankgoinijaa
